/- The walks of all functions that FnExactAcceptsWord reaches: what each returns, and that it leaves the memory that was there alone. -/
import Derived.Test.YtdhadlkeogoiiaaKF
import Derived.Test.YtdhadlkeogoiiaaKG
import Derived.Test.YtdhadlkeogoiiaaKH
import Derived.Test.YtdhadlkeogoiiaaKI
import Derived.Test.YtdhadlkeogoiiaaKJ
import Derived.Test.YtdhadlkeogoiiaaKM
import Derived.Test.YtdhadlkeogoiiaaKN
import Derived.Test.YtdhadlkeogoiiaaKO
import Derived.Test.YtdhadlkeogoiiaaProg
namespace Go.Proofs.Ytdhadlkeogoiiaa
open Go.KLib
set_option maxRecDepth 20000
theorem agg22 : aggB Try.prog 22 = some false := by kernel_rfl
theorem agg23 : aggB Try.prog 23 = some false := by kernel_rfl
theorem agg25 : aggB Try.prog 25 = some true := by kernel_rfl
theorem agg28 : aggB Try.prog 28 = some true := by kernel_rfl
theorem agg3 : aggB Try.prog 3 = some false := by kernel_rfl
theorem agg35 : aggB Try.prog 35 = some false := by kernel_rfl
theorem agg4 : aggB Try.prog 4 = some false := by kernel_rfl
theorem by3 : bytesB Try.prog 3 = some 8 := by kernel_rfl
theorem by35 : bytesB Try.prog 35 = some 24 := by kernel_rfl
theorem by4 : bytesB Try.prog 4 = some 1 := by kernel_rfl
theorem el22 : elB Try.prog 22 = some 4 := by kernel_rfl
theorem el23 : elB Try.prog 23 = some 35 := by kernel_rfl
theorem el35 : elB Try.prog 35 = some 3 := by kernel_rfl
theorem fa25_0 : faB Try.prog 25 0 = some 0 := by kernel_rfl
theorem fa25_1 : faB Try.prog 25 1 = some 1 := by kernel_rfl
theorem fa25_2 : faB Try.prog 25 2 = some 2 := by kernel_rfl
theorem fa28_0 : faB Try.prog 28 0 = some 0 := by kernel_rfl
theorem fa28_1 : faB Try.prog 28 1 = some 1 := by kernel_rfl
theorem fa28_2 : faB Try.prog 28 2 = some 2 := by kernel_rfl
theorem fk15 : fnB Try.prog 15 = true := by kernel_rfl
theorem fk16 : fnB Try.prog 16 = true := by kernel_rfl
theorem fk17 : fnB Try.prog 17 = true := by kernel_rfl
theorem fk18 : fnB Try.prog 18 = true := by kernel_rfl
theorem fk19 : fnB Try.prog 19 = true := by kernel_rfl
theorem fk24 : fnB Try.prog 24 = true := by kernel_rfl
theorem fk25 : fnB Try.prog 25 = true := by kernel_rfl
theorem fk26 : fnB Try.prog 26 = true := by kernel_rfl
theorem fk27 : fnB Try.prog 27 = true := by kernel_rfl
theorem fk30 : fnB Try.prog 30 = true := by kernel_rfl
theorem fk31 : fnB Try.prog 31 = true := by kernel_rfl
theorem fk50 : fnB Try.prog 50 = true := by kernel_rfl
theorem fk51 : fnB Try.prog 51 = true := by kernel_rfl
theorem fk52 : fnB Try.prog 52 = true := by kernel_rfl
theorem fk53 : fnB Try.prog 53 = true := by kernel_rfl
theorem fk54 : fnB Try.prog 54 = true := by kernel_rfl
theorem fk55 : fnB Try.prog 55 = true := by kernel_rfl
theorem fk56 : fnB Try.prog 56 = true := by kernel_rfl
theorem fk57 : fnB Try.prog 57 = true := by kernel_rfl
theorem fk58 : fnB Try.prog 58 = true := by kernel_rfl
theorem fk65 : fnB Try.prog 65 = true := by kernel_rfl
theorem fk66 : fnB Try.prog 66 = true := by kernel_rfl
theorem fk69 : fnB Try.prog 69 = true := by kernel_rfl
theorem fk87 : fnB Try.prog 87 = true := by kernel_rfl
theorem fk96 : fnB Try.prog 96 = true := by kernel_rfl
theorem fk97 : fnB Try.prog 97 = true := by kernel_rfl
theorem mixed : Try.prog.follows .mixedOrders = true := by kernel_rfl
theorem sz22 : sizeB Try.prog 22 = some 1 := by kernel_rfl
theorem sz23 : sizeB Try.prog 23 = some 1 := by kernel_rfl
theorem sz25 : sizeB Try.prog 25 = some 3 := by kernel_rfl
theorem sz28 : sizeB Try.prog 28 = some 3 := by kernel_rfl
theorem sz3 : sizeB Try.prog 3 = some 1 := by kernel_rfl
theorem sz35 : sizeB Try.prog 35 = some 1 := by kernel_rfl
theorem sz4 : sizeB Try.prog 4 = some 1 := by kernel_rfl
theorem un4 : Try.prog.underlying 4 = some (.bool) := by kernel_rfl
theorem zr28 : zeroB Try.prog 28 = some (.agg #[.int .i64 0, .slice none 0 0, .slice none 0 0]) := by kernel_rfl
theorem zr3 : zeroB Try.prog 3 = some (.int .i64 0) := by kernel_rfl
theorem zr35 : zeroB Try.prog 35 = some (.slice none 0 0) := by kernel_rfl
theorem zr4 : zeroB Try.prog 4 = some (.bool false) := by kernel_rfl

/-- impl.Automaton).accepts -/
theorem c_impl_Automaton_accepts {w : World} (aS : Int) {_B_aA : Nat} {_v_aA : Value} {aA : List Bool} (_h_aA : Ls bcs 1 w _B_aA _v_aA aA) {_B_saN : Nat} {_v_saN : Value} {saN : List Sv} (_h_saN : Ls Sv.cs 1 w _B_saN _v_saN saN) {BB_aN : Nat} {aN : List (List Int)} (_rd_aN : Rd ics 1 w BB_aN saN aN) (s : Int) (hs : s ≤ (aA.length : Int) - 1) :
    Ctr Try.prog 69 #[(.agg #[(.int .i64 aS), _v_aA, _v_saN]), (.int .i64 s)] w (fun v w' => v = .bool (accA aA s) ∧ Ch [] w w') := by
  obtain ⟨_A_aA, _C_aA, _e1_aA⟩ := _h_aA.val
  subst _e1_aA
  have _l_aA := _h_aA.len
  have _h_aA := _h_aA.here (by decide)
  obtain ⟨_A_saN, _C_saN, _e1_saN⟩ := _h_saN.val
  subst _e1_saN
  have _l_saN := _h_saN.len
  have _h_saN := _h_saN.here (by decide)
  have _rd_aN := _rd_aN.here (by decide)
  have _rl_aN := _rd_aN.1
  have E := Ch.refl [] w
  refine Ctr_of_W (N := 14) (vs0 := [(.agg #[(.int .i64 aS), (.slice _A_aA aA.length _C_aA), (.slice _A_saN saN.length _C_saN)]), (.int .i64 s)]) Try.func69 rfl rfl rfl ?_
  refine W_seq fun _K_1 _hK_1 => ?_
  refine W_region ?_
  refine WL_s rfl rfl ?_
  refine s_box rfl fun _b2 _w_2 _m2 _cw_2 _e2 => ?_
  have _cw_2z := _cw_2.size
  have E := E.trans _cw_2
  have _z2 := _m2.lt
  replace _m2 : Blk _w_2 _b2 28 [(.int .i64 aS), (.slice _A_aA aA.length _C_aA), (.slice _A_saN saN.length _C_saN)] := _m2
  refine WL_step rfl rfl (r_assign rfl) ?_
  refine WL_nil ?_
  refine thn_nrm (_hK_1 _ _ ?_)
  clear _hK_1
  refine W_seq fun _K_3 _hK_3 => ?_
  refine W_region ?_
  refine WL_step rfl rfl (r_move rfl) ?_
  refine WL_step rfl rfl (r_geq rfl rfl) ?_
  refine WL_step rfl rfl (r_move rfl) ?_
  refine WL_split (d := 7) rfl (fun _h7 => ?_) (fun _h7 => ?_)
  · have _h7 := bt_d _h7
    refine WL_step rfl rfl (r_fieldAddr fa28_1 rfl) ?_
    refine WL_step rfl rfl (r_loadAt _m2.at_ agg22 rfl rfl) ?_
    refine WL_step rfl rfl (r_move rfl) ?_
    refine WL_s rfl rfl ?_
    have _f_4 := (_h_aA.ch0 _cw_2)
    refine (s_index (j := s.toNat) _f_4 bcs_len el22 sz4 rfl rfl (by omega) (by omega) fun _p11 _y11 _hy11 _a11 => ?_)
    refine WL_step rfl rfl (r_loadAt0 _a11 agg4 rfl rfl) ?_
    refine WL_step rfl rfl (r_pickT rfl rfl) ?_
    refine WL_step rfl rfl (r_assign rfl) ?_
    refine WL_nil ?_
    refine thn_nrm (_hK_3 _ _ ?_)
    clear _hK_3
    refine W_ret ?_
    exact ret_intro [_] ⟨rfl, trivial⟩ ⟨congrArg Value.bool (by first | exact accA_y (by omega) _hy11 | exact accA_n (by omega)), E⟩
  · have _h7 := bf_d _h7
    refine WL_skip rfl rfl ?_
    refine WL_skip rfl rfl ?_
    refine WL_skip rfl rfl ?_
    refine WL_skip rfl rfl ?_
    refine WL_skip rfl rfl ?_
    refine WL_step rfl rfl (r_pickF rfl rfl) ?_
    refine WL_step rfl rfl (r_assign rfl) ?_
    refine WL_nil ?_
    refine thn_nrm (_hK_3 _ _ ?_)
    clear _hK_3
    refine W_ret ?_
    exact ret_intro [_] ⟨rfl, trivial⟩ ⟨congrArg Value.bool (by first | exact accA_y (by omega) _hy11 | exact accA_n (by omega)), E⟩

/-- impl.within -/
theorem c_impl_within {w : World} (n : Int) (a : Int) (b : Int) :
    Ctr Try.prog 55 #[(.int .i64 n), (.int .i64 a), (.int .i64 b)] w (fun v w' => v = .bool (decide (a ≤ n ∧ n ≤ b)) ∧ Ch [] w w') := by
  have E := Ch.refl [] w
  refine Ctr_of_W (N := 15) (vs0 := [(.int .i64 n), (.int .i64 a), (.int .i64 b)]) Try.func55 rfl rfl rfl ?_
  refine W_seq fun _K_1 _hK_1 => ?_
  refine W_region ?_
  refine WL_step rfl rfl (r_assign rfl) ?_
  refine WL_nil ?_
  refine thn_nrm (_hK_1 _ _ ?_)
  clear _hK_1
  refine W_seq fun _K_2 _hK_2 => ?_
  refine W_region ?_
  refine WL_step rfl rfl (r_move rfl) ?_
  refine WL_step rfl rfl (r_move rfl) ?_
  refine WL_step rfl rfl (r_geq rfl rfl) ?_
  refine WL_step rfl rfl (r_move rfl) ?_
  refine WL_split (d := 10) rfl (fun _h10 => ?_) (fun _h10 => ?_)
  · have _h10 := bt_d _h10
    refine WL_step rfl rfl (r_move rfl) ?_
    refine WL_step rfl rfl (r_move rfl) ?_
    refine WL_step rfl rfl (r_leq rfl rfl) ?_
    refine WL_step rfl rfl (r_pickT rfl rfl) ?_
    refine WL_step rfl rfl (r_assign rfl) ?_
    refine WL_nil ?_
    refine thn_nrm (_hK_2 _ _ ?_)
    clear _hK_2
    refine W_ret ?_
    exact ret_intro [_] ⟨rfl, trivial⟩ ⟨congrArg Value.bool (by first | rfl | (rw [Bool.eq_iff_iff]; simp <;> omega) | (rw [Bool.eq_iff_iff]; simp_all; done) | simp_all), E⟩
  · have _h10 := bf_d _h10
    refine WL_skip rfl rfl ?_
    refine WL_skip rfl rfl ?_
    refine WL_skip rfl rfl ?_
    refine WL_step rfl rfl (r_pickF rfl rfl) ?_
    refine WL_step rfl rfl (r_assign rfl) ?_
    refine WL_nil ?_
    refine thn_nrm (_hK_2 _ _ ?_)
    clear _hK_2
    refine W_ret ?_
    exact ret_intro [_] ⟨rfl, trivial⟩ ⟨congrArg Value.bool (by first | rfl | (rw [Bool.eq_iff_iff]; simp <;> omega) | (rw [Bool.eq_iff_iff]; simp_all; done) | simp_all), E⟩

/-- impl.isLetter -/
theorem c_impl_isLetter {w : World} (n : Int) :
    Ctr Try.prog 97 #[(.int .i64 n)] w (fun v w' => v = .bool (decide (0 ≤ n ∧ n ≤ 8)) ∧ Ch [] w w') := by
  have E := Ch.refl [] w
  refine Ctr_of_W (N := 5) (vs0 := [(.int .i64 n)]) Try.func97 rfl rfl rfl ?_
  refine W_seq fun _K_1 _hK_1 => ?_
  refine W_region ?_
  refine WL_step rfl rfl (r_assign rfl) ?_
  refine WL_nil ?_
  refine thn_nrm (_hK_1 _ _ ?_)
  clear _hK_1
  refine W_seq fun _K_2 _hK_2 => ?_
  refine W_region ?_
  refine WL_step rfl rfl (r_move rfl) ?_
  refine WL_s rfl rfl ?_
  refine Step.call (r_call (xs := [.tmp 3, .const (Go.Value.int Go.IntKind.i64 0), .const (Go.Value.int Go.IntKind.i64 8)]) fk55 rfl) (c_impl_within _ _ _ ) fun _v4 _w_3 _q4 => ?_
  obtain ⟨rfl, _cw_3⟩ := _q4
  have _cw_3z := _cw_3.size
  have E := E.trans _cw_3
  refine WL_step rfl rfl (r_assign rfl) ?_
  refine WL_nil ?_
  refine thn_nrm (_hK_2 _ _ ?_)
  clear _hK_2
  refine W_ret ?_
  exact ret_intro [_] ⟨rfl, trivial⟩ ⟨congrArg Value.bool rfl, E⟩

/-- impl.Automaton).move -/
theorem c_impl_Automaton_move {w : World} (aS : Int) {_B_aA : Nat} {_v_aA : Value} {aA : List Bool} (_h_aA : Ls bcs 1 w _B_aA _v_aA aA) {_B_saN : Nat} {_v_saN : Value} {saN : List Sv} (_h_saN : Ls Sv.cs 1 w _B_saN _v_saN saN) {BB_aN : Nat} {aN : List (List Int)} (_rd_aN : Rd ics 1 w BB_aN saN aN) (s : Int) (x : Int) (hv : ValidA aS aA aN) (hs : -1 ≤ s ∧ s ≤ (aA.length : Int) - 1) :
    Ctr Try.prog 66 #[(.agg #[(.int .i64 aS), _v_aA, _v_saN]), (.int .i64 s), (.int .i64 x)] w (fun v w' => v = .int .i64 (moveA aN s x) ∧ Ch [] w w') := by
  obtain ⟨_A_aA, _C_aA, _e1_aA⟩ := _h_aA.val
  subst _e1_aA
  have _l_aA := _h_aA.len
  have _h_aA := _h_aA.here (by decide)
  obtain ⟨_A_saN, _C_saN, _e1_saN⟩ := _h_saN.val
  subst _e1_saN
  have _l_saN := _h_saN.len
  have _h_saN := _h_saN.here (by decide)
  have _rd_aN := _rd_aN.here (by decide)
  have _rl_aN := _rd_aN.1
  have E := Ch.refl [] w
  have hv2 := hv.2.2.1
  refine Ctr_of_W (N := 22) (vs0 := [(.agg #[(.int .i64 aS), (.slice _A_aA aA.length _C_aA), (.slice _A_saN saN.length _C_saN)]), (.int .i64 s), (.int .i64 x)]) Try.func66 rfl rfl rfl ?_
  refine W_seq fun _K_1 _hK_1 => ?_
  refine W_region ?_
  refine WL_s rfl rfl ?_
  refine s_box rfl fun _b3 _w_2 _m3 _cw_2 _e3 => ?_
  have _cw_2z := _cw_2.size
  have E := E.trans _cw_2
  have _z3 := _m3.lt
  replace _m3 : Blk _w_2 _b3 28 [(.int .i64 aS), (.slice _A_aA aA.length _C_aA), (.slice _A_saN saN.length _C_saN)] := _m3
  refine WL_step rfl rfl (r_assign rfl) ?_
  refine WL_nil ?_
  refine thn_nrm (_hK_1 _ _ ?_)
  clear _hK_1
  refine W_seq fun _K_3 _hK_3 => ?_
  refine W_seq fun _K_4 _hK_4 => ?_
  refine W_region ?_
  refine WL_step rfl rfl (r_move rfl) ?_
  refine WL_step rfl rfl (r_lss rfl rfl) ?_
  refine WL_step rfl rfl (r_move rfl) ?_
  refine WL_split (d := 9) rfl (fun _h9 => ?_) (fun _h9 => ?_)
  · have _h9 := bt_d _h9
    refine WL_skip rfl rfl ?_
    refine WL_skip rfl rfl ?_
    refine WL_skip rfl rfl ?_
    refine WL_step rfl rfl (r_pickT rfl rfl) ?_
    refine WL_nil ?_
    refine thn_nrm (_hK_4 _ _ ?_)
    clear _hK_4
    refine W_condT rfl ?_
    refine W_seq fun _K_5 _hK_5 => ?_
    refine W_region ?_
    refine WL_step rfl rfl (r_assign rfl) ?_
    refine WL_nil ?_
    refine thn_nrm (_hK_5 _ _ ?_)
    clear _hK_5
    refine W_ret (thn_ret ?_)
    clear _hK_3
    exact ret_intro [_] ⟨rfl, trivial⟩ ⟨congrArg (Value.int .i64) (by first | exact move_y (by omega) _h13 _hys17 _hy20 | exact move_n (.inl _h9) | exact move_n (.inr _h13) | exact move_n (.inl (by omega))), E⟩
  · have _h9 := bf_d _h9
    refine WL_step rfl rfl (r_move rfl) ?_
    refine WL_s rfl rfl ?_
    refine Step.call (r_call (xs := [.tmp 10]) fk97 rfl) (c_impl_isLetter _ ) fun _v11 _w_6 _q11 => ?_
    obtain ⟨rfl, _cw_6⟩ := _q11
    have _cw_6z := _cw_6.size
    have E := E.trans _cw_6
    refine WL_step rfl rfl (r_not rfl) ?_
    refine WL_step rfl rfl (r_pickF rfl rfl) ?_
    refine WL_nil ?_
    refine thn_nrm (_hK_4 _ _ ?_)
    clear _hK_4
    refine W_cond rfl (fun _h13 => ?_) (fun _h13 => ?_)
    · have _h13 := bf_d (bt_n _h13)
      refine W_seq fun _K_7 _hK_7 => ?_
      refine W_region ?_
      refine WL_step rfl rfl (r_assign rfl) ?_
      refine WL_nil ?_
      refine thn_nrm (_hK_7 _ _ ?_)
      clear _hK_7
      refine W_ret (thn_ret ?_)
      clear _hK_3
      exact ret_intro [_] ⟨rfl, trivial⟩ ⟨congrArg (Value.int .i64) (by first | exact move_y (by omega) _h13 _hys17 _hy20 | exact move_n (.inl _h9) | exact move_n (.inr _h13) | exact move_n (.inl (by omega))), E⟩
    · have _h13 := bt_d (bf_n _h13)
      refine W_skip ?_
      refine thn_nrm (_hK_3 _ _ ?_)
      clear _hK_3
      refine W_seq fun _K_8 _hK_8 => ?_
      refine W_region ?_
      refine WL_step rfl rfl (r_fieldAddr fa28_2 rfl) ?_
      have _f_9 := (_m3.ch0 _cw_6)
      refine WL_step rfl rfl (r_loadAt _f_9.at_ agg23 rfl rfl) ?_
      refine WL_step rfl rfl (r_move rfl) ?_
      refine WL_s rfl rfl ?_
      have _f_10 := ((_h_saN.ch0 _cw_2).ch0 _cw_6)
      refine (s_index (j := s.toNat) _f_10 Sv.len el23 sz35 rfl rfl (by omega) (by omega) fun _p17 _y17 _hy17 _a17 => ?_)
      have _f_11 := ((_rd_aN.ch0 _cw_2).ch0 _cw_6)
      obtain ⟨_ys17, _hys17, _fs17⟩ := _f_11.get _hy17
      obtain ⟨_A17, _n17, _C17⟩ := _y17
      obtain rfl := _fs17.eqn
      have _l17 := _fs17.len
      replace _fs17 : Ls ics 1 _w_6 w.heap.size (.slice _A17 _ys17.length _C17) _ys17 := _fs17
      replace _a17 : At _w_6 w.heap.size _p17 ([(.slice _A17 _ys17.length _C17)]) := _a17
      have _e17 := (fits_row hv.2 _hys17).1
      refine WL_step rfl rfl (r_loadAt0 _a17 agg35 rfl rfl) ?_
      refine WL_step rfl rfl (r_move rfl) ?_
      refine WL_s rfl rfl ?_
      refine (s_index (j := x.toNat) _fs17 ics_len el35 sz3 rfl rfl (by omega) (by omega) fun _p20 _y20 _hy20 _a20 => ?_)
      refine WL_step rfl rfl (r_loadAt0 _a20 agg3 rfl rfl) ?_
      refine WL_step rfl rfl (r_assign rfl) ?_
      refine WL_nil ?_
      refine thn_nrm (_hK_8 _ _ ?_)
      clear _hK_8
      refine W_ret ?_
      exact ret_intro [_] ⟨rfl, trivial⟩ ⟨congrArg (Value.int .i64) (by first | exact move_y (by omega) _h13 _hys17 _hy20 | exact move_n (.inl _h9) | exact move_n (.inr _h13) | exact move_n (.inl (by omega))), E⟩

/-- impl.IsValidAutomaton -/
theorem c_impl_IsValidAutomaton {w : World} (aS : Int) {_B_aA : Nat} {_v_aA : Value} {aA : List Bool} (_h_aA : Ls bcs 1 w _B_aA _v_aA aA) {_B_saN : Nat} {_v_saN : Value} {saN : List Sv} (_h_saN : Ls Sv.cs 1 w _B_saN _v_saN saN) {BB_aN : Nat} {aN : List (List Int)} (_rd_aN : Rd ics 1 w BB_aN saN aN) :
    Ctr Try.prog 18 #[(.agg #[(.int .i64 aS), _v_aA, _v_saN])] w (fun v w' => v = .bool (tt (ValidA aS aA aN)) ∧ Ch [] w w') := by
  obtain ⟨_A_aA, _C_aA, _e1_aA⟩ := _h_aA.val
  subst _e1_aA
  have _l_aA := _h_aA.len
  have _h_aA := _h_aA.here (by decide)
  obtain ⟨_A_saN, _C_saN, _e1_saN⟩ := _h_saN.val
  subst _e1_saN
  have _l_saN := _h_saN.len
  have _h_saN := _h_saN.here (by decide)
  have _rd_aN := _rd_aN.here (by decide)
  have _rl_aN := _rd_aN.1
  have E := Ch.refl [] w
  refine Ctr_of_W (N := 52) (vs0 := [(.agg #[(.int .i64 aS), (.slice _A_aA aA.length _C_aA), (.slice _A_saN saN.length _C_saN)])]) Try.func18 rfl rfl rfl ?_
  refine W_seq fun _K_1 _hK_1 => ?_
  refine W_region ?_
  refine WL_s rfl rfl ?_
  refine s_box rfl fun _b1 _w_2 _m1 _cw_2 _e1 => ?_
  have _cw_2z := _cw_2.size
  have E := E.trans _cw_2
  have _z1 := _m1.lt
  replace _m1 : Blk _w_2 _b1 28 [(.int .i64 aS), (.slice _A_aA aA.length _C_aA), (.slice _A_saN saN.length _C_saN)] := _m1
  refine WL_step rfl rfl (r_assign rfl) ?_
  refine WL_nil ?_
  refine thn_nrm (_hK_1 _ _ ?_)
  clear _hK_1
  refine W_seq fun _K_3 _hK_3 => ?_
  refine W_region ?_
  refine WL_step rfl rfl (r_fieldAddr fa28_1 rfl) ?_
  refine WL_step rfl rfl (r_loadAt _m1.at_ agg22 rfl rfl) ?_
  refine WL_step rfl rfl (r_len (by rw [el22]; rfl) rfl) ?_
  refine WL_step rfl rfl (r_assign rfl) ?_
  refine WL_nil ?_
  refine thn_nrm (_hK_3 _ _ ?_)
  clear _hK_3
  refine W_seq fun _K_4 _hK_4 => ?_
  refine W_seq fun _K_5 _hK_5 => ?_
  refine W_region ?_
  refine WL_step rfl rfl (r_move rfl) ?_
  refine WL_s rfl rfl ?_
  refine Step.call (r_call (xs := [.tmp 11, .const (Go.Value.int Go.IntKind.i64 1), .const (Go.Value.int Go.IntKind.i64 12)]) fk55 rfl) (c_impl_within _ _ _ ) fun _v12 _w_6 _q12 => ?_
  obtain ⟨rfl, _cw_6⟩ := _q12
  have _cw_6z := _cw_6.size
  have E := E.trans _cw_6
  refine WL_step rfl rfl (r_not rfl) ?_
  refine WL_step rfl rfl (r_move rfl) ?_
  refine WL_split (d := 14) rfl (fun _h14 => ?_) (fun _h14 => ?_)
  · have _h14 := bf_d (bt_n _h14)
    refine WL_skip rfl rfl ?_
    refine WL_skip rfl rfl ?_
    refine WL_skip rfl rfl ?_
    refine WL_skip rfl rfl ?_
    refine WL_skip rfl rfl ?_
    refine WL_skip rfl rfl ?_
    refine WL_step rfl rfl (r_pickT rfl rfl) ?_
    refine WL_step rfl rfl (r_move rfl) ?_
    refine WL_skip rfl rfl ?_
    refine WL_skip rfl rfl ?_
    refine WL_skip rfl rfl ?_
    refine WL_skip rfl rfl ?_
    refine WL_skip rfl rfl ?_
    refine WL_step rfl rfl (r_pickT rfl rfl) ?_
    refine WL_nil ?_
    refine thn_nrm (_hK_5 _ _ ?_)
    clear _hK_5
    refine W_condT rfl ?_
    refine W_seq fun _K_7 _hK_7 => ?_
    refine W_region ?_
    refine WL_step rfl rfl (r_assign rfl) ?_
    refine WL_nil ?_
    refine thn_nrm (_hK_7 _ _ ?_)
    clear _hK_7
    refine W_ret (thn_ret ?_)
    clear _hK_4
    exact ret_intro [_] ⟨rfl, trivial⟩ ⟨congrArg Value.bool (by first | exact tt_true ⟨by omega, _h22, by omega, rows_all _ht (by omega)⟩ | exact tt_false (fun e => _h14 (by have _h1 := e.1; have _h2 := e.2.1; omega)) | exact tt_false (fun e => _h22 e.2.1) | exact tt_false (fun e => _h28 (by have _h1 := e.2.2.1; omega)) | exact tt_false (fun e => _h46 (fits_el e.2 _hys34 _hy40)) | exact tt_false (fun e => _h50 (by have _h1 := (fits_row e.2 _hys34).1; omega))), E⟩
  · have _h14 := bt_d (bf_n _h14)
    refine WL_step rfl rfl (r_fieldAddr fa28_0 rfl) ?_
    have _f_8 := (_m1.ch0 _cw_6)
    refine WL_step rfl rfl (r_loadAt _f_8.at_ agg3 rfl rfl) ?_
    refine WL_step rfl rfl (r_move rfl) ?_
    refine WL_step rfl rfl (r_sub (by omega) rfl rfl) ?_
    refine WL_s rfl rfl ?_
    refine Step.call (r_call (xs := [.tmp 16, .const (Go.Value.int Go.IntKind.i64 0), .tmp 18]) fk55 rfl) (c_impl_within _ _ _ ) fun _v19 _w_9 _q19 => ?_
    obtain ⟨rfl, _cw_9⟩ := _q19
    have _cw_9z := _cw_9.size
    have E := E.trans _cw_9
    refine WL_step rfl rfl (r_not rfl) ?_
    refine WL_step rfl rfl (r_pickF rfl rfl) ?_
    refine WL_step rfl rfl (r_move rfl) ?_
    refine WL_split (d := 22) rfl (fun _h22 => ?_) (fun _h22 => ?_)
    · have _h22 := bf_d (bt_n _h22)
      refine WL_skip rfl rfl ?_
      refine WL_skip rfl rfl ?_
      refine WL_skip rfl rfl ?_
      refine WL_skip rfl rfl ?_
      refine WL_skip rfl rfl ?_
      refine WL_step rfl rfl (r_pickT rfl rfl) ?_
      refine WL_nil ?_
      refine thn_nrm (_hK_5 _ _ ?_)
      clear _hK_5
      refine W_condT rfl ?_
      refine W_seq fun _K_10 _hK_10 => ?_
      refine W_region ?_
      refine WL_step rfl rfl (r_assign rfl) ?_
      refine WL_nil ?_
      refine thn_nrm (_hK_10 _ _ ?_)
      clear _hK_10
      refine W_ret (thn_ret ?_)
      clear _hK_4
      exact ret_intro [_] ⟨rfl, trivial⟩ ⟨congrArg Value.bool (by first | exact tt_true ⟨by omega, _h22, by omega, rows_all _ht (by omega)⟩ | exact tt_false (fun e => _h14 (by have _h1 := e.1; have _h2 := e.2.1; omega)) | exact tt_false (fun e => _h22 e.2.1) | exact tt_false (fun e => _h28 (by have _h1 := e.2.2.1; omega)) | exact tt_false (fun e => _h46 (fits_el e.2 _hys34 _hy40)) | exact tt_false (fun e => _h50 (by have _h1 := (fits_row e.2 _hys34).1; omega))), E⟩
    · have _h22 := bt_d (bf_n _h22)
      refine WL_step rfl rfl (r_fieldAddr fa28_2 rfl) ?_
      have _f_11 := (_f_8.ch0 _cw_9)
      refine WL_step rfl rfl (r_loadAt _f_11.at_ agg23 rfl rfl) ?_
      refine WL_step rfl rfl (r_len (by rw [el23]; rfl) rfl) ?_
      refine WL_step rfl rfl (r_move rfl) ?_
      refine WL_step rfl rfl (r_neq rfl rfl) ?_
      refine WL_step rfl rfl (r_pickF rfl rfl) ?_
      refine WL_nil ?_
      refine thn_nrm (_hK_5 _ _ ?_)
      clear _hK_5
      refine W_cond rfl (fun _h28 => ?_) (fun _h28 => ?_)
      · have _h28 := bf_d (bt_n _h28)
        refine W_seq fun _K_12 _hK_12 => ?_
        refine W_region ?_
        refine WL_step rfl rfl (r_assign rfl) ?_
        refine WL_nil ?_
        refine thn_nrm (_hK_12 _ _ ?_)
        clear _hK_12
        refine W_ret (thn_ret ?_)
        clear _hK_4
        exact ret_intro [_] ⟨rfl, trivial⟩ ⟨congrArg Value.bool (by first | exact tt_true ⟨by omega, _h22, by omega, rows_all _ht (by omega)⟩ | exact tt_false (fun e => _h14 (by have _h1 := e.1; have _h2 := e.2.1; omega)) | exact tt_false (fun e => _h22 e.2.1) | exact tt_false (fun e => _h28 (by have _h1 := e.2.2.1; omega)) | exact tt_false (fun e => _h46 (fits_el e.2 _hys34 _hy40)) | exact tt_false (fun e => _h50 (by have _h1 := (fits_row e.2 _hys34).1; omega))), E⟩
      · have _h28 := bt_d (bf_n _h28)
        refine W_skip ?_
        refine thn_nrm (_hK_4 _ _ ?_)
        clear _hK_4
        refine W_seq fun _K_13 _hK_13 => ?_
        refine W_seq fun _K_14 _hK_14 => ?_
        refine W_region ?_
        refine WL_step rfl rfl (r_fieldAddr fa28_2 rfl) ?_
        refine WL_step rfl rfl (r_loadAt _f_11.at_ agg23 rfl rfl) ?_
        refine WL_step rfl rfl (r_len (by rw [el23]; rfl) rfl) ?_
        refine WL_step rfl rfl (r_move rfl) ?_
        refine WL_nil ?_
        refine thn_nrm (_hK_14 _ _ ?_)
        clear _hK_14
        refine W_block ?_
        refine W_loop (σ := Nat) (fun (s : Nat) => [(0, (.agg #[(.int .i64 aS), (.slice _A_aA aA.length _C_aA), (.slice _A_saN saN.length _C_saN)])), (1, (.pointer (some ⟨_b1, 0, none⟩))), (3, (.int .i64 ((aA.length : Nat) : Int))), (8, (.pointer (some (Addr.add ⟨_b1, 0, none⟩ 1)))), (9, (.slice _A_aA aA.length _C_aA)), (10, (.int .i64 ((aA.length : Nat) : Int))), (11, (.int .i64 ((aA.length : Nat) : Int))), (12, (.bool (decide (1 ≤ ((aA.length : Nat) : Int) ∧ ((aA.length : Nat) : Int) ≤ 12)))), (13, (.bool (!(decide (1 ≤ ((aA.length : Nat) : Int) ∧ ((aA.length : Nat) : Int) ≤ 12))))), (14, (.bool false)), (15, (.pointer (some (Addr.add ⟨_b1, 0, none⟩ 0)))), (16, (.int .i64 aS)), (17, (.int .i64 ((aA.length : Nat) : Int))), (18, (.int .i64 (((aA.length : Nat) : Int) - 1))), (19, (.bool (decide (0 ≤ aS ∧ aS ≤ (((aA.length : Nat) : Int) - 1))))), (20, (.bool (!(decide (0 ≤ aS ∧ aS ≤ (((aA.length : Nat) : Int) - 1)))))), (21, (.bool (!(decide (0 ≤ aS ∧ aS ≤ (((aA.length : Nat) : Int) - 1)))))), (22, (.bool false)), (23, (.pointer (some (Addr.add ⟨_b1, 0, none⟩ 2)))), (24, (.slice _A_saN saN.length _C_saN)), (25, (.int .i64 ((saN.length : Nat) : Int))), (26, (.int .i64 ((aA.length : Nat) : Int))), (27, (.bool (!decide (((saN.length : Nat) : Int) = ((aA.length : Nat) : Int))))), (28, (.bool (!decide (((saN.length : Nat) : Int) = ((aA.length : Nat) : Int))))), (29, (.pointer (some (Addr.add ⟨_b1, 0, none⟩ 2)))), (30, (.slice _A_saN saN.length _C_saN)), (31, (.int .i64 ((saN.length : Nat) : Int))), (32, (.int .i64 ((s : Nat) : Int)))]) (fun (s : Nat) wx => Ch [] w wx ∧ _w_9.heap.size ≤ wx.heap.size ∧ (s ≤ aN.length) ∧ (RowsP aA.length aN s) ∧ Blk wx _b1 28 [(.int .i64 aS), (.slice _A_aA aA.length _C_aA), (.slice _A_saN saN.length _C_saN)]) (fun (s : Nat) => aN.length - s) 0 (Sub.cons rfl (Sub.cons rfl (Sub.cons rfl (Sub.cons rfl (Sub.cons rfl (Sub.cons rfl (Sub.cons rfl (Sub.cons rfl (Sub.cons rfl (Sub.cons rfl (Sub.cons rfl (Sub.cons rfl (Sub.cons rfl (Sub.cons rfl (Sub.cons rfl (Sub.cons rfl (Sub.cons rfl (Sub.cons rfl (Sub.cons rfl (Sub.cons rfl (Sub.cons rfl (Sub.cons rfl (Sub.cons rfl (Sub.cons rfl (Sub.cons rfl (Sub.cons rfl (Sub.cons rfl (Sub.cons rfl (Sub.nil _))))))))))))))))))))))))))))) ⟨E, (Nat.le_refl _), (by omega), (rows_zero _ _), _f_11⟩ ?_
        rintro s _wr_15 ⟨E, _zz0, hs, _ht, _F0_3⟩
        have _E0h := E
        have _E0hz := _E0h.size
        have _F0_3z := _F0_3.lt
        refine W_seq fun _K_16 _hK_16 => ?_
        refine W_region ?_
        refine WL_step rfl rfl (r_lss rfl rfl) ?_
        refine WL_nil ?_
        refine thn_nrm (_hK_16 _ _ ?_)
        clear _hK_16
        refine W_seq fun _K_17 _hK_17 => ?_
        refine W_cond rfl (fun _h33 => ?_) (fun _h33 => ?_)
        · have _h33 := bt_d _h33
          refine W_skip ?_
          refine thn_nrm (_hK_17 _ _ ?_)
          clear _hK_17
          refine W_seq fun _K_18 _hK_18 => ?_
          refine W_block ?_
          refine W_seq fun _K_19 _hK_19 => ?_
          refine W_region ?_
          refine WL_s rfl rfl ?_
          have _f_20 := (_h_saN.ch0 _E0h)
          refine (s_index _f_20 Sv.len el23 sz35 rfl rfl rfl (by omega) fun _p34 _y34 _hy34 _a34 => ?_)
          have _f_21 := (_rd_aN.ch0 _E0h)
          obtain ⟨_ys34, _hys34, _fs34⟩ := _f_21.get _hy34
          obtain ⟨_A34, _n34, _C34⟩ := _y34
          obtain rfl := _fs34.eqn
          have _l34 := _fs34.len
          replace _fs34 : Ls ics 1 _wr_15 w.heap.size (.slice _A34 _ys34.length _C34) _ys34 := _fs34
          replace _a34 : At _wr_15 w.heap.size _p34 ([(.slice _A34 _ys34.length _C34)]) := _a34
          refine WL_step rfl rfl (r_loadAt0 _a34 agg35 rfl rfl) ?_
          refine WL_step rfl rfl (r_assign rfl) ?_
          refine WL_nil ?_
          refine thn_nrm (_hK_19 _ _ ?_)
          clear _hK_19
          refine W_seq fun _K_22 _hK_22 => ?_
          refine W_seq fun _K_23 _hK_23 => ?_
          refine W_region ?_
          refine WL_step rfl rfl (r_move rfl) ?_
          refine WL_step rfl rfl (r_len (by rw [el35]; rfl) rfl) ?_
          refine WL_step rfl rfl (r_move rfl) ?_
          refine WL_nil ?_
          refine thn_nrm (_hK_23 _ _ ?_)
          clear _hK_23
          refine W_block ?_
          refine W_loop (σ := Nat) (fun (k : Nat) => [(0, (.agg #[(.int .i64 aS), (.slice _A_aA aA.length _C_aA), (.slice _A_saN saN.length _C_saN)])), (1, (.pointer (some ⟨_b1, 0, none⟩))), (3, (.int .i64 ((aA.length : Nat) : Int))), (5, (.slice _A34 _ys34.length _C34)), (8, (.pointer (some (Addr.add ⟨_b1, 0, none⟩ 1)))), (9, (.slice _A_aA aA.length _C_aA)), (10, (.int .i64 ((aA.length : Nat) : Int))), (11, (.int .i64 ((aA.length : Nat) : Int))), (12, (.bool (decide (1 ≤ ((aA.length : Nat) : Int) ∧ ((aA.length : Nat) : Int) ≤ 12)))), (13, (.bool (!(decide (1 ≤ ((aA.length : Nat) : Int) ∧ ((aA.length : Nat) : Int) ≤ 12))))), (14, (.bool false)), (15, (.pointer (some (Addr.add ⟨_b1, 0, none⟩ 0)))), (16, (.int .i64 aS)), (17, (.int .i64 ((aA.length : Nat) : Int))), (18, (.int .i64 (((aA.length : Nat) : Int) - 1))), (19, (.bool (decide (0 ≤ aS ∧ aS ≤ (((aA.length : Nat) : Int) - 1))))), (20, (.bool (!(decide (0 ≤ aS ∧ aS ≤ (((aA.length : Nat) : Int) - 1)))))), (21, (.bool (!(decide (0 ≤ aS ∧ aS ≤ (((aA.length : Nat) : Int) - 1)))))), (22, (.bool false)), (23, (.pointer (some (Addr.add ⟨_b1, 0, none⟩ 2)))), (24, (.slice _A_saN saN.length _C_saN)), (25, (.int .i64 ((saN.length : Nat) : Int))), (26, (.int .i64 ((aA.length : Nat) : Int))), (27, (.bool (!decide (((saN.length : Nat) : Int) = ((aA.length : Nat) : Int))))), (28, (.bool (!decide (((saN.length : Nat) : Int) = ((aA.length : Nat) : Int))))), (29, (.pointer (some (Addr.add ⟨_b1, 0, none⟩ 2)))), (30, (.slice _A_saN saN.length _C_saN)), (31, (.int .i64 ((saN.length : Nat) : Int))), (32, (.int .i64 ((s : Nat) : Int))), (33, (.bool (decide (((s : Nat) : Int) < ((saN.length : Nat) : Int))))), (34, (.pointer (some _p34))), (35, (.slice _A34 _ys34.length _C34)), (36, (.slice _A34 _ys34.length _C34)), (37, (.int .i64 ((_ys34.length : Nat) : Int))), (38, (.int .i64 ((k : Nat) : Int)))]) (fun (k : Nat) wx => Ch [] w wx ∧ _wr_15.heap.size ≤ wx.heap.size ∧ (k ≤ _ys34.length) ∧ (RowP aA.length _ys34 k) ∧ Ls Sv.cs 1 wx w.heap.size (.slice _A_saN saN.length _C_saN) saN ∧ Rd ics 1 wx w.heap.size saN aN ∧ Blk wx _b1 28 [(.int .i64 aS), (.slice _A_aA aA.length _C_aA), (.slice _A_saN saN.length _C_saN)] ∧ At wx w.heap.size _p34 ([(.slice _A34 _ys34.length _C34)]) ∧ Ls ics 1 wx w.heap.size (.slice _A34 _ys34.length _C34) _ys34) (fun (k : Nat) => _ys34.length - k) 0 (Sub.cons rfl (Sub.cons rfl (Sub.cons rfl (Sub.cons rfl (Sub.cons rfl (Sub.cons rfl (Sub.cons rfl (Sub.cons rfl (Sub.cons rfl (Sub.cons rfl (Sub.cons rfl (Sub.cons rfl (Sub.cons rfl (Sub.cons rfl (Sub.cons rfl (Sub.cons rfl (Sub.cons rfl (Sub.cons rfl (Sub.cons rfl (Sub.cons rfl (Sub.cons rfl (Sub.cons rfl (Sub.cons rfl (Sub.cons rfl (Sub.cons rfl (Sub.cons rfl (Sub.cons rfl (Sub.cons rfl (Sub.cons rfl (Sub.cons rfl (Sub.cons rfl (Sub.cons rfl (Sub.cons rfl (Sub.cons rfl (Sub.cons rfl (Sub.nil _)))))))))))))))))))))))))))))))))))) ⟨E, (Nat.le_refl _), (by omega), (rowp_zero _ _), _f_20, _f_21, _F0_3, _a34, _fs34⟩ ?_
          rintro k _wr_24 ⟨E, _zz1, _hk, hp, _F1_1, _F1_2, _F1_3, _F1_4, _F1_5⟩
          have _E1h := E
          have _E1hz := _E1h.size
          have _F1_3z := _F1_3.lt
          refine W_seq fun _K_25 _hK_25 => ?_
          refine W_region ?_
          refine WL_step rfl rfl (r_lss rfl rfl) ?_
          refine WL_nil ?_
          refine thn_nrm (_hK_25 _ _ ?_)
          clear _hK_25
          refine W_seq fun _K_26 _hK_26 => ?_
          refine W_cond rfl (fun _h39 => ?_) (fun _h39 => ?_)
          · have _h39 := bt_d _h39
            refine W_skip ?_
            refine thn_nrm (_hK_26 _ _ ?_)
            clear _hK_26
            refine W_seq fun _K_27 _hK_27 => ?_
            refine W_block ?_
            refine W_seq fun _K_28 _hK_28 => ?_
            refine W_region ?_
            refine WL_s rfl rfl ?_
            refine (s_index _F1_5 ics_len el35 sz3 rfl rfl rfl (by omega) fun _p40 _y40 _hy40 _a40 => ?_)
            refine WL_step rfl rfl (r_loadAt0 _a40 agg3 rfl rfl) ?_
            refine WL_step rfl rfl (r_assign rfl) ?_
            refine WL_nil ?_
            refine thn_nrm (_hK_28 _ _ ?_)
            clear _hK_28
            refine W_seq fun _K_29 _hK_29 => ?_
            refine W_region ?_
            refine WL_step rfl rfl (r_move rfl) ?_
            refine WL_step rfl rfl (r_move rfl) ?_
            refine WL_step rfl rfl (r_sub (by omega) rfl rfl) ?_
            refine WL_s rfl rfl ?_
            refine Step.call (r_call (xs := [.tmp 42, .const (Go.Value.int Go.IntKind.i64 (-1)), .tmp 44]) fk55 rfl) (c_impl_within _ _ _ ) fun _v45 _w_30 _q45 => ?_
            obtain ⟨rfl, _cw_30⟩ := _q45
            have _cw_30z := _cw_30.size
            have E := E.trans _cw_30
            refine WL_step rfl rfl (r_not rfl) ?_
            refine WL_nil ?_
            refine thn_nrm (_hK_29 _ _ ?_)
            clear _hK_29
            refine W_cond rfl (fun _h46 => ?_) (fun _h46 => ?_)
            · have _h46 := bf_d (bt_n _h46)
              refine W_seq fun _K_31 _hK_31 => ?_
              refine W_region ?_
              refine WL_step rfl rfl (r_assign rfl) ?_
              refine WL_nil ?_
              refine thn_nrm (_hK_31 _ _ ?_)
              clear _hK_31
              refine W_ret (inB_ret (thn_ret (thn_ret (inB_ret (thn_ret (inB_ret (thn_ret (thn_ret (inB_ret (thn_ret ?_))))))))))
              clear _hK_13 _hK_18 _hK_22 _hK_27
              exact ret_intro [_] ⟨rfl, trivial⟩ ⟨congrArg Value.bool (by first | exact tt_true ⟨by omega, _h22, by omega, rows_all _ht (by omega)⟩ | exact tt_false (fun e => _h14 (by have _h1 := e.1; have _h2 := e.2.1; omega)) | exact tt_false (fun e => _h22 e.2.1) | exact tt_false (fun e => _h28 (by have _h1 := e.2.2.1; omega)) | exact tt_false (fun e => _h46 (fits_el e.2 _hys34 _hy40)) | exact tt_false (fun e => _h50 (by have _h1 := (fits_row e.2 _hys34).1; omega))), E⟩
            · have _h46 := bt_d (bf_n _h46)
              refine W_skip ?_
              refine inB_nrm ?_
              refine thn_nrm (_hK_27 _ _ ?_)
              clear _hK_27
              refine W_region ?_
              refine WL_step rfl rfl (r_add (by omega) rfl rfl) ?_
              refine WL_step rfl rfl (r_move rfl) ?_
              refine WL_nil ?_
              have _f_32 := (_F1_1.ch0 _cw_30)
              have _f_33 := (_F1_2.ch0 _cw_30)
              have _f_34 := (_F1_3.ch0 _cw_30)
              have _f_35 := (_F1_4.ch0 _cw_30)
              have _f_36 := (_F1_5.ch0 _cw_30)
              exact thn_nrm (Exists.intro (k + 1) ⟨⟨E, (by omega), (by omega), (rowp_step hp _hy40 _h46), _f_32, _f_33, _f_34, _f_35, _f_36⟩, Sub.cons rfl (Sub.cons rfl (Sub.cons rfl (Sub.cons rfl (Sub.cons rfl (Sub.cons rfl (Sub.cons rfl (Sub.cons rfl (Sub.cons rfl (Sub.cons rfl (Sub.cons rfl (Sub.cons rfl (Sub.cons rfl (Sub.cons rfl (Sub.cons rfl (Sub.cons rfl (Sub.cons rfl (Sub.cons rfl (Sub.cons rfl (Sub.cons rfl (Sub.cons rfl (Sub.cons rfl (Sub.cons rfl (Sub.cons rfl (Sub.cons rfl (Sub.cons rfl (Sub.cons rfl (Sub.cons rfl (Sub.cons rfl (Sub.cons rfl (Sub.cons rfl (Sub.cons rfl (Sub.cons rfl (Sub.cons rfl (Sub.cons rfl (Sub.nil _))))))))))))))))))))))))))))))))))), (by first | omega | (dsimp only; omega))⟩)
          · have _h39 := bf_d _h39
            refine W_exit (thn_exit (thn_exit (inB_hit ?_)))
            refine thn_nrm (_hK_22 _ _ ?_)
            clear _hK_22
            refine W_seq fun _K_37 _hK_37 => ?_
            refine W_region ?_
            refine WL_step rfl rfl (r_move rfl) ?_
            refine WL_step rfl rfl (r_len (by rw [el35]; rfl) rfl) ?_
            refine WL_step rfl rfl (r_neq rfl rfl) ?_
            refine WL_nil ?_
            refine thn_nrm (_hK_37 _ _ ?_)
            clear _hK_37
            refine W_cond rfl (fun _h50 => ?_) (fun _h50 => ?_)
            · have _h50 := bf_d (bt_n _h50)
              refine W_seq fun _K_38 _hK_38 => ?_
              refine W_region ?_
              refine WL_step rfl rfl (r_assign rfl) ?_
              refine WL_nil ?_
              refine thn_nrm (_hK_38 _ _ ?_)
              clear _hK_38
              refine W_ret (inB_ret (thn_ret (thn_ret (inB_ret (thn_ret ?_)))))
              clear _hK_13 _hK_18 _hK_26
              exact ret_intro [_] ⟨rfl, trivial⟩ ⟨congrArg Value.bool (by first | exact tt_true ⟨by omega, _h22, by omega, rows_all _ht (by omega)⟩ | exact tt_false (fun e => _h14 (by have _h1 := e.1; have _h2 := e.2.1; omega)) | exact tt_false (fun e => _h22 e.2.1) | exact tt_false (fun e => _h28 (by have _h1 := e.2.2.1; omega)) | exact tt_false (fun e => _h46 (fits_el e.2 _hys34 _hy40)) | exact tt_false (fun e => _h50 (by have _h1 := (fits_row e.2 _hys34).1; omega))), E⟩
            · have _h50 := bt_d (bf_n _h50)
              refine W_skip ?_
              refine inB_nrm ?_
              refine thn_nrm (_hK_18 _ _ ?_)
              clear _hK_18
              refine W_region ?_
              refine WL_step rfl rfl (r_add (by omega) rfl rfl) ?_
              refine WL_step rfl rfl (r_move rfl) ?_
              refine WL_nil ?_
              exact thn_nrm (Exists.intro (s + 1) ⟨⟨E, (by omega), (by omega), (rows_step _ht _hys34 ⟨by omega, rowp_all hp (by omega)⟩), _F1_3⟩, Sub.cons rfl (Sub.cons rfl (Sub.cons rfl (Sub.cons rfl (Sub.cons rfl (Sub.cons rfl (Sub.cons rfl (Sub.cons rfl (Sub.cons rfl (Sub.cons rfl (Sub.cons rfl (Sub.cons rfl (Sub.cons rfl (Sub.cons rfl (Sub.cons rfl (Sub.cons rfl (Sub.cons rfl (Sub.cons rfl (Sub.cons rfl (Sub.cons rfl (Sub.cons rfl (Sub.cons rfl (Sub.cons rfl (Sub.cons rfl (Sub.cons rfl (Sub.cons rfl (Sub.cons rfl (Sub.cons rfl (Sub.nil _)))))))))))))))))))))))))))), (by first | omega | (dsimp only; omega))⟩)
        · have _h33 := bf_d _h33
          refine W_exit (thn_exit (thn_exit (inB_hit ?_)))
          refine thn_nrm (_hK_13 _ _ ?_)
          clear _hK_13
          refine W_seq fun _K_39 _hK_39 => ?_
          refine W_region ?_
          refine WL_step rfl rfl (r_assign rfl) ?_
          refine WL_nil ?_
          refine thn_nrm (_hK_39 _ _ ?_)
          clear _hK_39
          refine W_ret ?_
          clear _hK_17
          exact ret_intro [_] ⟨rfl, trivial⟩ ⟨congrArg Value.bool (by first | exact tt_true ⟨by omega, _h22, by omega, rows_all _ht (by omega)⟩ | exact tt_false (fun e => _h14 (by have _h1 := e.1; have _h2 := e.2.1; omega)) | exact tt_false (fun e => _h22 e.2.1) | exact tt_false (fun e => _h28 (by have _h1 := e.2.2.1; omega)) | exact tt_false (fun e => _h46 (fits_el e.2 _hys34 _hy40)) | exact tt_false (fun e => _h50 (by have _h1 := (fits_row e.2 _hys34).1; omega))), E⟩

/-- impl.RunWord -/
theorem c_impl_RunWord {w : World} (aS : Int) {_B_aA : Nat} {_v_aA : Value} {aA : List Bool} (_h_aA : Ls bcs 1 w _B_aA _v_aA aA) {_B_saN : Nat} {_v_saN : Value} {saN : List Sv} (_h_saN : Ls Sv.cs 1 w _B_saN _v_saN saN) {BB_aN : Nat} {aN : List (List Int)} (_rd_aN : Rd ics 1 w BB_aN saN aN) {_B_wd : Nat} {_v_wd : Value} {wd : List Int} (_h_wd : Ls ics 1 w _B_wd _v_wd wd) :
    Ctr Try.prog 26 #[(.agg #[(.int .i64 aS), _v_aA, _v_saN]), _v_wd] w (fun v w' => v = .int .i64 (rwR aS aA aN wd) ∧ Ch [] w w') := by
  obtain ⟨_A_aA, _C_aA, _e1_aA⟩ := _h_aA.val
  subst _e1_aA
  have _l_aA := _h_aA.len
  have _h_aA := _h_aA.here (by decide)
  obtain ⟨_A_saN, _C_saN, _e1_saN⟩ := _h_saN.val
  subst _e1_saN
  have _l_saN := _h_saN.len
  have _h_saN := _h_saN.here (by decide)
  have _rd_aN := _rd_aN.here (by decide)
  have _rl_aN := _rd_aN.1
  obtain ⟨_A_wd, _C_wd, _e1_wd⟩ := _h_wd.val
  subst _e1_wd
  have _l_wd := _h_wd.len
  have _h_wd := _h_wd.here (by decide)
  have E := Ch.refl [] w
  refine Ctr_of_W (N := 25) (vs0 := [(.agg #[(.int .i64 aS), (.slice _A_aA aA.length _C_aA), (.slice _A_saN saN.length _C_saN)]), (.slice _A_wd wd.length _C_wd)]) Try.func26 rfl rfl rfl ?_
  refine W_seq fun _K_1 _hK_1 => ?_
  refine W_region ?_
  refine WL_s rfl rfl ?_
  refine s_box rfl fun _b2 _w_2 _m2 _cw_2 _e2 => ?_
  have _cw_2z := _cw_2.size
  have E := E.trans _cw_2
  have _z2 := _m2.lt
  replace _m2 : Blk _w_2 _b2 28 [(.int .i64 aS), (.slice _A_aA aA.length _C_aA), (.slice _A_saN saN.length _C_saN)] := _m2
  refine WL_step rfl rfl (r_assign rfl) ?_
  refine WL_nil ?_
  refine thn_nrm (_hK_1 _ _ ?_)
  clear _hK_1
  refine W_seq fun _K_3 _hK_3 => ?_
  refine W_seq fun _K_4 _hK_4 => ?_
  refine W_region ?_
  refine WL_step rfl rfl (r_loadAtA0 _m2.at_ agg28 sz28 rfl) ?_
  refine WL_s rfl rfl ?_
  have _f_5 := (_h_aA.ch0 _cw_2)
  have _f_6 := (_rd_aN.ch0 _cw_2)
  have _f_7 := (_h_saN.ch0 _cw_2)
  refine Step.call (r_call (xs := [.tmp 8]) fk18 rfl) (c_impl_IsValidAutomaton _ _f_5 _f_7 _f_6 ) fun _v9 _w_8 _q9 => ?_
  obtain ⟨rfl, _cw_8⟩ := _q9
  have _cw_8z := _cw_8.size
  have E := E.trans _cw_8
  refine WL_step rfl rfl (r_not rfl) ?_
  refine WL_nil ?_
  refine thn_nrm (_hK_4 _ _ ?_)
  clear _hK_4
  refine W_cond rfl (fun _h10 => ?_) (fun _h10 => ?_)
  · have _h10 := bf_t (bt_n _h10)
    refine W_seq fun _K_9 _hK_9 => ?_
    refine W_region ?_
    refine WL_step rfl rfl (r_assign rfl) ?_
    refine WL_nil ?_
    refine thn_nrm (_hK_9 _ _ ?_)
    clear _hK_9
    refine W_ret (thn_ret ?_)
    clear _hK_3
    exact ret_intro [_] ⟨rfl, trivial⟩ ⟨congrArg (Value.int .i64) (by first | exact rwR_no _h10 | (rw [← rwR_yes _h10, hm, show k = wd.length by omega])), E⟩
  · have _h10 := bt_t (bf_n _h10)
    refine W_skip ?_
    refine thn_nrm (_hK_3 _ _ ?_)
    clear _hK_3
    refine W_seq fun _K_10 _hK_10 => ?_
    refine W_region ?_
    refine WL_step rfl rfl (r_fieldAddr fa28_0 rfl) ?_
    have _f_11 := (_m2.ch0 _cw_8)
    refine WL_step rfl rfl (r_loadAt _f_11.at_ agg3 rfl rfl) ?_
    refine WL_step rfl rfl (r_assign rfl) ?_
    refine WL_nil ?_
    refine thn_nrm (_hK_10 _ _ ?_)
    clear _hK_10
    refine W_seq fun _K_12 _hK_12 => ?_
    refine W_seq fun _K_13 _hK_13 => ?_
    refine W_region ?_
    refine WL_step rfl rfl (r_move rfl) ?_
    refine WL_step rfl rfl (r_len (by rw [el35]; rfl) rfl) ?_
    refine WL_step rfl rfl (r_move rfl) ?_
    refine WL_nil ?_
    refine thn_nrm (_hK_13 _ _ ?_)
    clear _hK_13
    refine W_block ?_
    have _f_14 := (_f_5.ch0 _cw_8)
    have _f_15 := (_f_7.ch0 _cw_8)
    have _f_16 := (_f_6.ch0 _cw_8)
    refine W_loop (σ := Nat × Int) (fun ⟨k, m⟩ => [(0, (.agg #[(.int .i64 aS), (.slice _A_aA aA.length _C_aA), (.slice _A_saN saN.length _C_saN)])), (1, (.slice _A_wd wd.length _C_wd)), (2, (.pointer (some ⟨_b2, 0, none⟩))), (4, (.int .i64 0)), (5, (.int .i64 m)), (8, (.agg #[(.int .i64 aS), (.slice _A_aA aA.length _C_aA), (.slice _A_saN saN.length _C_saN)])), (9, (.bool (tt (ValidA aS aA aN)))), (10, (.bool (!(tt (ValidA aS aA aN))))), (11, (.pointer (some (Addr.add ⟨_b2, 0, none⟩ 0)))), (12, (.int .i64 aS)), (13, (.slice _A_wd wd.length _C_wd)), (14, (.int .i64 ((wd.length : Nat) : Int))), (15, (.int .i64 ((k : Nat) : Int)))]) (fun ⟨k, m⟩ wx => Ch [] w wx ∧ _w_8.heap.size ≤ wx.heap.size ∧ (k ≤ wd.length) ∧ (m = runA aN aS wd k) ∧ (-1 ≤ m ∧ m ≤ (aA.length : Int) - 1) ∧ Ls bcs 1 wx w.heap.size (.slice _A_aA aA.length _C_aA) aA ∧ Ls Sv.cs 1 wx w.heap.size (.slice _A_saN saN.length _C_saN) saN ∧ Rd ics 1 wx w.heap.size saN aN ∧ Blk wx _b2 28 [(.int .i64 aS), (.slice _A_aA aA.length _C_aA), (.slice _A_saN saN.length _C_saN)]) (fun ⟨k, m⟩ => wd.length - k) (0, aS) (Sub.cons rfl (Sub.cons rfl (Sub.cons rfl (Sub.cons rfl (Sub.cons rfl (Sub.cons rfl (Sub.cons rfl (Sub.cons rfl (Sub.cons rfl (Sub.cons rfl (Sub.cons rfl (Sub.cons rfl (Sub.cons rfl (Sub.nil _)))))))))))))) ⟨E, (Nat.le_refl _), (by omega), rfl, (by have _h1 := _h10.2.1; omega), _f_14, _f_15, _f_16, _f_11⟩ ?_
    rintro ⟨k, m⟩ _wr_17 ⟨E, _zz0, _hk, hm, hb, _F0_0, _F0_1, _F0_2, _F0_4⟩
    have _E0h := E
    have _E0hz := _E0h.size
    have _F0_4z := _F0_4.lt
    refine W_seq fun _K_18 _hK_18 => ?_
    refine W_region ?_
    refine WL_step rfl rfl (r_lss rfl rfl) ?_
    refine WL_nil ?_
    refine thn_nrm (_hK_18 _ _ ?_)
    clear _hK_18
    refine W_seq fun _K_19 _hK_19 => ?_
    refine W_cond rfl (fun _h16 => ?_) (fun _h16 => ?_)
    · have _h16 := bt_d _h16
      refine W_skip ?_
      refine thn_nrm (_hK_19 _ _ ?_)
      clear _hK_19
      refine W_seq fun _K_20 _hK_20 => ?_
      refine W_block ?_
      refine W_seq fun _K_21 _hK_21 => ?_
      refine W_region ?_
      refine WL_s rfl rfl ?_
      have _f_22 := (_h_wd.ch0 _E0h)
      refine (s_index _f_22 ics_len el35 sz3 rfl rfl rfl (by omega) fun _p17 _y17 _hy17 _a17 => ?_)
      refine WL_step rfl rfl (r_loadAt0 _a17 agg3 rfl rfl) ?_
      refine WL_step rfl rfl (r_assign rfl) ?_
      refine WL_nil ?_
      refine thn_nrm (_hK_21 _ _ ?_)
      clear _hK_21
      refine W_region ?_
      refine WL_step rfl rfl (r_loadAtA0 _F0_4.at_ agg28 sz28 rfl) ?_
      refine WL_step rfl rfl (r_move rfl) ?_
      refine WL_step rfl rfl (r_move rfl) ?_
      refine WL_s rfl rfl ?_
      refine Step.call (r_call (xs := [.tmp 19, .tmp 20, .tmp 21]) fk66 rfl) (c_impl_Automaton_move _ _F0_0 _F0_1 _F0_2 _ _ _h10 hb) fun _v22 _w_23 _q22 => ?_
      obtain ⟨rfl, _cw_23⟩ := _q22
      have _cw_23z := _cw_23.size
      have E := E.trans _cw_23
      refine WL_step rfl rfl (r_assign rfl) ?_
      refine WL_nil ?_
      refine inB_nrm ?_
      refine thn_nrm (_hK_20 _ _ ?_)
      clear _hK_20
      refine W_region ?_
      refine WL_step rfl rfl (r_add (by omega) rfl rfl) ?_
      refine WL_step rfl rfl (r_move rfl) ?_
      refine WL_nil ?_
      have _f_24 := (_F0_0.ch0 _cw_23)
      have _f_25 := (_F0_1.ch0 _cw_23)
      have _f_26 := (_F0_2.ch0 _cw_23)
      have _f_27 := (_F0_4.ch0 _cw_23)
      exact thn_nrm (Exists.intro ((k + 1), moveA aN m _y17) ⟨⟨E, (by omega), (by omega), (by rw [run_succ _hy17, ← hm]), (move_rng _h10 hb), _f_24, _f_25, _f_26, _f_27⟩, Sub.cons rfl (Sub.cons rfl (Sub.cons rfl (Sub.cons rfl (Sub.cons rfl (Sub.cons rfl (Sub.cons rfl (Sub.cons rfl (Sub.cons rfl (Sub.cons rfl (Sub.cons rfl (Sub.cons rfl (Sub.cons rfl (Sub.nil _))))))))))))), (by first | omega | (dsimp only; omega))⟩)
    · have _h16 := bf_d _h16
      refine W_exit (thn_exit (thn_exit (inB_hit ?_)))
      refine thn_nrm (_hK_12 _ _ ?_)
      clear _hK_12
      refine W_seq fun _K_28 _hK_28 => ?_
      refine W_region ?_
      refine WL_step rfl rfl (r_move rfl) ?_
      refine WL_step rfl rfl (r_assign rfl) ?_
      refine WL_nil ?_
      refine thn_nrm (_hK_28 _ _ ?_)
      clear _hK_28
      refine W_ret ?_
      clear _hK_19
      exact ret_intro [_] ⟨rfl, trivial⟩ ⟨congrArg (Value.int .i64) (by first | exact rwR_no _h10 | (rw [← rwR_yes _h10, hm, show k = wd.length by omega])), E⟩

/-- impl.AcceptsWord -/
theorem c_impl_AcceptsWord {w : World} (aS : Int) {_B_aA : Nat} {_v_aA : Value} {aA : List Bool} (_h_aA : Ls bcs 1 w _B_aA _v_aA aA) {_B_saN : Nat} {_v_saN : Value} {saN : List Sv} (_h_saN : Ls Sv.cs 1 w _B_saN _v_saN saN) {BB_aN : Nat} {aN : List (List Int)} (_rd_aN : Rd ics 1 w BB_aN saN aN) {_B_wd : Nat} {_v_wd : Value} {wd : List Int} (_h_wd : Ls ics 1 w _B_wd _v_wd wd) :
    Ctr Try.prog 31 #[(.agg #[(.int .i64 aS), _v_aA, _v_saN]), _v_wd] w (fun v w' => v = .bool (accA aA (rwR aS aA aN wd)) ∧ Ch [] w w') := by
  obtain ⟨_A_aA, _C_aA, _e1_aA⟩ := _h_aA.val
  subst _e1_aA
  have _l_aA := _h_aA.len
  have _h_aA := _h_aA.here (by decide)
  obtain ⟨_A_saN, _C_saN, _e1_saN⟩ := _h_saN.val
  subst _e1_saN
  have _l_saN := _h_saN.len
  have _h_saN := _h_saN.here (by decide)
  have _rd_aN := _rd_aN.here (by decide)
  have _rl_aN := _rd_aN.1
  obtain ⟨_A_wd, _C_wd, _e1_wd⟩ := _h_wd.val
  subst _e1_wd
  have _l_wd := _h_wd.len
  have _h_wd := _h_wd.here (by decide)
  have E := Ch.refl [] w
  have hr := rwR_rng aS aA aN wd
  refine Ctr_of_W (N := 10) (vs0 := [(.agg #[(.int .i64 aS), (.slice _A_aA aA.length _C_aA), (.slice _A_saN saN.length _C_saN)]), (.slice _A_wd wd.length _C_wd)]) Try.func31 rfl rfl rfl ?_
  refine W_seq fun _K_1 _hK_1 => ?_
  refine W_region ?_
  refine WL_s rfl rfl ?_
  refine s_box rfl fun _b2 _w_2 _m2 _cw_2 _e2 => ?_
  have _cw_2z := _cw_2.size
  have E := E.trans _cw_2
  have _z2 := _m2.lt
  replace _m2 : Blk _w_2 _b2 28 [(.int .i64 aS), (.slice _A_aA aA.length _C_aA), (.slice _A_saN saN.length _C_saN)] := _m2
  refine WL_step rfl rfl (r_assign rfl) ?_
  refine WL_nil ?_
  refine thn_nrm (_hK_1 _ _ ?_)
  clear _hK_1
  refine W_seq fun _K_3 _hK_3 => ?_
  refine W_drawC [] 6 mixed rfl fun _w_4 _cw_4 => ?_
  have _cw_4z := _cw_4.size
  have E := E.trans _cw_4
  have _f_5 := (_m2.ch0 _cw_4)
  refine DR_s 0 rfl (by kernel_rfl) rfl rfl (t_loadAtA0 _f_5.at_ (fun i hi => by first | exact absurd hi (List.not_mem_nil) | (have _h1 := List.mem_singleton.1 hi; omega)) agg28 sz28 rfl ?_)
  refine DR_s 1 rfl (by kernel_rfl) rfl rfl (t_loadAtA0 _f_5.at_ (fun i hi => by first | exact absurd hi (List.not_mem_nil) | (have _h1 := List.mem_singleton.1 hi; omega)) agg28 sz28 rfl ?_)
  refine DR_s 2 rfl (by kernel_rfl) rfl rfl (t_v (fun _ => (r_move rfl)) ?_)
  refine DR_one 3 (by kernel_rfl) ?_
  refine DO_s rfl rfl rfl ?_
  have _f_6 := ((_h_aA.ch0 _cw_2).ch0 _cw_4)
  have _f_7 := ((_rd_aN.ch0 _cw_2).ch0 _cw_4)
  have _f_8 := ((_h_saN.ch0 _cw_2).ch0 _cw_4)
  have _f_9 := ((_h_wd.ch0 _cw_2).ch0 _cw_4)
  refine Step.call (r_call (xs := [.tmp 6, .tmp 7]) fk26 rfl) (c_impl_RunWord _ _f_6 _f_8 _f_7 _f_9 ) fun _v8 _w_10 _q8 => ?_
  obtain ⟨rfl, _cw_10⟩ := _q8
  have _cw_10z := _cw_10.size
  have E := E.trans _cw_10
  have _S_11 : Ch [] _w_4 _w_10 := ((Ch.refl _ _).trans _cw_10.of_nil)
  refine ⟨_S_11, ?_⟩
  refine DR_one 4 (by kernel_rfl) ?_
  refine DO_s rfl rfl rfl ?_
  have _f_12 := (_f_6.ch0 _cw_10)
  have _f_13 := (_f_7.ch0 _cw_10)
  have _f_14 := (_f_8.ch0 _cw_10)
  refine Step.call (r_call (xs := [.tmp 5, .tmp 8]) fk69 rfl) (c_impl_Automaton_accepts _ _f_12 _f_14 _f_13 _ (by omega)) fun _v9 _w_15 _q9 => ?_
  obtain ⟨rfl, _cw_15⟩ := _q9
  have _cw_15z := _cw_15.size
  have E := E.trans _cw_15
  have _S_16 : Ch [] _w_4 _w_15 := (_S_11.trans _cw_15.of_nil)
  refine ⟨_S_16, ?_⟩
  refine DR_s 5 rfl (by kernel_rfl) rfl rfl (t_v (fun _ => (r_assign rfl)) ?_)
  refine DR_done (by kernel_rfl) ?_
  refine thn_nrm (_hK_3 _ _ ?_)
  clear _hK_3
  refine W_ret ?_
  exact ret_intro [_] ⟨rfl, trivial⟩ ⟨congrArg Value.bool rfl, E⟩

/-- laws.eqBoolS -/
theorem c_laws_eqBoolS {w : World} {_B_a : Nat} {_v_a : Value} {a : List Bool} (_h_a : Ls bcs 1 w _B_a _v_a a) {_B_b : Nat} {_v_b : Value} {b : List Bool} (_h_b : Ls bcs 1 w _B_b _v_b b) :
    Ctr Try.prog 56 #[_v_a, _v_b] w (fun v w' => v = .bool (decide (a = b)) ∧ Ch [] w w') := by
  obtain ⟨_A_a, _C_a, _e1_a⟩ := _h_a.val
  subst _e1_a
  have _l_a := _h_a.len
  have _h_a := _h_a.here (by decide)
  obtain ⟨_A_b, _C_b, _e1_b⟩ := _h_b.val
  subst _e1_b
  have _l_b := _h_b.len
  have _h_b := _h_b.here (by decide)
  have E := Ch.refl [] w
  refine Ctr_of_W (N := 26) (vs0 := [(.slice _A_a a.length _C_a), (.slice _A_b b.length _C_b)]) Try.func56 rfl rfl rfl ?_
  refine W_seq fun _K_1 _hK_1 => ?_
  refine W_region ?_
  refine WL_step rfl rfl (r_assign rfl) ?_
  refine WL_nil ?_
  refine thn_nrm (_hK_1 _ _ ?_)
  clear _hK_1
  refine W_seq fun _K_2 _hK_2 => ?_
  refine W_seq fun _K_3 _hK_3 => ?_
  refine W_region ?_
  refine WL_step rfl rfl (r_move rfl) ?_
  refine WL_step rfl rfl (r_len (by rw [el22]; rfl) rfl) ?_
  refine WL_step rfl rfl (r_move rfl) ?_
  refine WL_step rfl rfl (r_len (by rw [el22]; rfl) rfl) ?_
  refine WL_step rfl rfl (r_neq rfl rfl) ?_
  refine WL_nil ?_
  refine thn_nrm (_hK_3 _ _ ?_)
  clear _hK_3
  refine W_cond rfl (fun _h10 => ?_) (fun _h10 => ?_)
  · have _h10 := bf_d (bt_n _h10)
    refine W_seq fun _K_4 _hK_4 => ?_
    refine W_region ?_
    refine WL_step rfl rfl (r_assign rfl) ?_
    refine WL_nil ?_
    refine thn_nrm (_hK_4 _ _ ?_)
    clear _hK_4
    refine W_ret (thn_ret ?_)
    clear _hK_2
    exact ret_intro [_] ⟨rfl, trivial⟩ ⟨congrArg Value.bool (decide_eq_false (fun e => _h10 (by rw [e]))).symm, E⟩
  · have _h10 := bt_d (bf_n _h10)
    refine W_skip ?_
    refine thn_nrm (_hK_2 _ _ ?_)
    clear _hK_2
    refine W_seq fun _K_5 _hK_5 => ?_
    refine W_seq fun _K_6 _hK_6 => ?_
    refine W_region ?_
    refine WL_step rfl rfl (r_assign rfl) ?_
    refine WL_nil ?_
    refine thn_nrm (_hK_6 _ _ ?_)
    clear _hK_6
    refine W_block ?_
    refine W_loop (σ := Nat) (fun (k : Nat) => [(0, (.slice _A_a a.length _C_a)), (1, (.slice _A_b b.length _C_b)), (5, (.int .i64 ((k : Nat) : Int))), (6, (.slice _A_a a.length _C_a)), (7, (.int .i64 ((a.length : Nat) : Int))), (8, (.slice _A_b b.length _C_b)), (9, (.int .i64 ((b.length : Nat) : Int))), (10, (.bool (!decide (((a.length : Nat) : Int) = ((b.length : Nat) : Int)))))]) (fun (k : Nat) wx => Ch [] w wx ∧ w.heap.size ≤ wx.heap.size ∧ (k ≤ a.length) ∧ (a.take k = b.take k)) (fun (k : Nat) => a.length - k) 0 (Sub.cons rfl (Sub.cons rfl (Sub.cons rfl (Sub.cons rfl (Sub.cons rfl (Sub.cons rfl (Sub.cons rfl (Sub.cons rfl (Sub.nil _))))))))) ⟨E, (Nat.le_refl _), (by omega), rfl⟩ ?_
    rintro k _wr_7 ⟨E, _zz0, _hk, _ht⟩
    have _E0h := E
    have _E0hz := _E0h.size
    refine W_seq fun _K_8 _hK_8 => ?_
    refine W_seq fun _K_9 _hK_9 => ?_
    refine W_region ?_
    refine WL_step rfl rfl (r_move rfl) ?_
    refine WL_step rfl rfl (r_move rfl) ?_
    refine WL_step rfl rfl (r_len (by rw [el22]; rfl) rfl) ?_
    refine WL_step rfl rfl (r_lss rfl rfl) ?_
    refine WL_nil ?_
    refine thn_nrm (_hK_9 _ _ ?_)
    clear _hK_9
    refine W_cond rfl (fun _h14 => ?_) (fun _h14 => ?_)
    · have _h14 := bt_d _h14
      refine W_skip ?_
      refine thn_nrm (_hK_8 _ _ ?_)
      clear _hK_8
      refine W_seq fun _K_10 _hK_10 => ?_
      refine W_block ?_
      refine W_seq fun _K_11 _hK_11 => ?_
      refine W_drawC [] 9 mixed rfl fun _w_12 _cw_12 => ?_
      have _cw_12z := _cw_12.size
      have E := E.trans _cw_12
      refine DR_s 0 rfl (by kernel_rfl) rfl rfl (t_v (fun _ => (r_move rfl)) ?_)
      refine DR_s 1 rfl (by kernel_rfl) rfl rfl (t_v (fun _ => (r_move rfl)) ?_)
      have _f_13 := ((_h_a.ch0 _E0h).ch0 _cw_12)
      refine DR_s 2 rfl (by kernel_rfl) rfl rfl (t_index _f_13 bcs_len el22 sz4 rfl rfl rfl (by omega) fun _p19 _y19 _hy19 _a19 => ?_)
      refine DR_s 3 rfl (by kernel_rfl) rfl rfl (t_loadAt0 _a19 (fun i hi => by first | exact absurd hi (List.not_mem_nil) | (have _h1 := List.mem_singleton.1 hi; omega)) agg4 rfl rfl ?_)
      refine DR_s 4 rfl (by kernel_rfl) rfl rfl (t_v (fun _ => (r_move rfl)) ?_)
      refine DR_s 5 rfl (by kernel_rfl) rfl rfl (t_v (fun _ => (r_move rfl)) ?_)
      have _f_14 := ((_h_b.ch0 _E0h).ch0 _cw_12)
      refine DR_s 6 rfl (by kernel_rfl) rfl rfl (t_index _f_14 bcs_len el22 sz4 rfl rfl rfl (by omega) fun _p23 _y23 _hy23 _a23 => ?_)
      refine DR_s 7 rfl (by kernel_rfl) rfl rfl (t_loadAt0 _a23 (fun i hi => by first | exact absurd hi (List.not_mem_nil) | (have _h1 := List.mem_singleton.1 hi; omega)) agg4 rfl rfl ?_)
      refine DR_s 8 rfl (by kernel_rfl) rfl rfl (t_v (fun _ => (r_neqB un4 rfl rfl)) ?_)
      refine DR_done (by kernel_rfl) ?_
      refine thn_nrm (_hK_11 _ _ ?_)
      clear _hK_11
      refine W_cond rfl (fun _h25 => ?_) (fun _h25 => ?_)
      · have _h25 := bf_e (bt_n _h25)
        refine W_seq fun _K_15 _hK_15 => ?_
        refine W_region ?_
        refine WL_step rfl rfl (r_assign rfl) ?_
        refine WL_nil ?_
        refine thn_nrm (_hK_15 _ _ ?_)
        clear _hK_15
        refine W_ret (inB_ret (thn_ret (thn_ret (inB_ret (thn_ret ?_)))))
        clear _hK_5 _hK_10
        exact ret_intro [_] ⟨rfl, trivial⟩ ⟨congrArg Value.bool (decide_eq_false (ne_of_get _hy19 _hy23 _h25)).symm, E⟩
      · have _h25 := bt_e (bf_n _h25)
        refine W_skip ?_
        refine inB_nrm ?_
        refine thn_nrm (_hK_10 _ _ ?_)
        clear _hK_10
        refine W_region ?_
        refine WL_step rfl rfl (r_move rfl) ?_
        refine WL_step rfl rfl (r_add (by omega) rfl rfl) ?_
        refine WL_step rfl rfl (r_assign rfl) ?_
        refine WL_nil ?_
        exact thn_nrm (Exists.intro (k + 1) ⟨⟨E, (by omega), (by omega), (take_eq_succ _ht _hy19 _hy23 _h25)⟩, Sub.cons rfl (Sub.cons rfl (Sub.cons rfl (Sub.cons rfl (Sub.cons rfl (Sub.cons rfl (Sub.cons rfl (Sub.cons rfl (Sub.nil _)))))))), (by first | omega | (dsimp only; omega))⟩)
    · have _h14 := bf_d _h14
      refine W_exit (thn_exit (thn_exit (inB_hit ?_)))
      refine thn_nrm (_hK_5 _ _ ?_)
      clear _hK_5
      refine W_seq fun _K_16 _hK_16 => ?_
      refine W_region ?_
      refine WL_step rfl rfl (r_assign rfl) ?_
      refine WL_nil ?_
      refine thn_nrm (_hK_16 _ _ ?_)
      clear _hK_16
      refine W_ret ?_
      clear _hK_8
      exact ret_intro [_] ⟨rfl, trivial⟩ ⟨congrArg Value.bool (decide_eq_true (eq_of_take _ht (by omega) (by omega))).symm, E⟩

/-- laws.eqIntS -/
theorem c_laws_eqIntS {w : World} {_B_a : Nat} {_v_a : Value} {a : List Int} (_h_a : Ls ics 1 w _B_a _v_a a) {_B_b : Nat} {_v_b : Value} {b : List Int} (_h_b : Ls ics 1 w _B_b _v_b b) :
    Ctr Try.prog 27 #[_v_a, _v_b] w (fun v w' => v = .bool (decide (a = b)) ∧ Ch [] w w') := by
  obtain ⟨_A_a, _C_a, _e1_a⟩ := _h_a.val
  subst _e1_a
  have _l_a := _h_a.len
  have _h_a := _h_a.here (by decide)
  obtain ⟨_A_b, _C_b, _e1_b⟩ := _h_b.val
  subst _e1_b
  have _l_b := _h_b.len
  have _h_b := _h_b.here (by decide)
  have E := Ch.refl [] w
  refine Ctr_of_W (N := 26) (vs0 := [(.slice _A_a a.length _C_a), (.slice _A_b b.length _C_b)]) Try.func27 rfl rfl rfl ?_
  refine W_seq fun _K_1 _hK_1 => ?_
  refine W_region ?_
  refine WL_step rfl rfl (r_assign rfl) ?_
  refine WL_nil ?_
  refine thn_nrm (_hK_1 _ _ ?_)
  clear _hK_1
  refine W_seq fun _K_2 _hK_2 => ?_
  refine W_seq fun _K_3 _hK_3 => ?_
  refine W_region ?_
  refine WL_step rfl rfl (r_move rfl) ?_
  refine WL_step rfl rfl (r_len (by rw [el35]; rfl) rfl) ?_
  refine WL_step rfl rfl (r_move rfl) ?_
  refine WL_step rfl rfl (r_len (by rw [el35]; rfl) rfl) ?_
  refine WL_step rfl rfl (r_neq rfl rfl) ?_
  refine WL_nil ?_
  refine thn_nrm (_hK_3 _ _ ?_)
  clear _hK_3
  refine W_cond rfl (fun _h10 => ?_) (fun _h10 => ?_)
  · have _h10 := bf_d (bt_n _h10)
    refine W_seq fun _K_4 _hK_4 => ?_
    refine W_region ?_
    refine WL_step rfl rfl (r_assign rfl) ?_
    refine WL_nil ?_
    refine thn_nrm (_hK_4 _ _ ?_)
    clear _hK_4
    refine W_ret (thn_ret ?_)
    clear _hK_2
    exact ret_intro [_] ⟨rfl, trivial⟩ ⟨congrArg Value.bool (decide_eq_false (fun e => _h10 (by rw [e]))).symm, E⟩
  · have _h10 := bt_d (bf_n _h10)
    refine W_skip ?_
    refine thn_nrm (_hK_2 _ _ ?_)
    clear _hK_2
    refine W_seq fun _K_5 _hK_5 => ?_
    refine W_seq fun _K_6 _hK_6 => ?_
    refine W_region ?_
    refine WL_step rfl rfl (r_assign rfl) ?_
    refine WL_nil ?_
    refine thn_nrm (_hK_6 _ _ ?_)
    clear _hK_6
    refine W_block ?_
    refine W_loop (σ := Nat) (fun (k : Nat) => [(0, (.slice _A_a a.length _C_a)), (1, (.slice _A_b b.length _C_b)), (5, (.int .i64 ((k : Nat) : Int))), (6, (.slice _A_a a.length _C_a)), (7, (.int .i64 ((a.length : Nat) : Int))), (8, (.slice _A_b b.length _C_b)), (9, (.int .i64 ((b.length : Nat) : Int))), (10, (.bool (!decide (((a.length : Nat) : Int) = ((b.length : Nat) : Int)))))]) (fun (k : Nat) wx => Ch [] w wx ∧ w.heap.size ≤ wx.heap.size ∧ (k ≤ a.length) ∧ (a.take k = b.take k)) (fun (k : Nat) => a.length - k) 0 (Sub.cons rfl (Sub.cons rfl (Sub.cons rfl (Sub.cons rfl (Sub.cons rfl (Sub.cons rfl (Sub.cons rfl (Sub.cons rfl (Sub.nil _))))))))) ⟨E, (Nat.le_refl _), (by omega), rfl⟩ ?_
    rintro k _wr_7 ⟨E, _zz0, _hk, _ht⟩
    have _E0h := E
    have _E0hz := _E0h.size
    refine W_seq fun _K_8 _hK_8 => ?_
    refine W_seq fun _K_9 _hK_9 => ?_
    refine W_region ?_
    refine WL_step rfl rfl (r_move rfl) ?_
    refine WL_step rfl rfl (r_move rfl) ?_
    refine WL_step rfl rfl (r_len (by rw [el35]; rfl) rfl) ?_
    refine WL_step rfl rfl (r_lss rfl rfl) ?_
    refine WL_nil ?_
    refine thn_nrm (_hK_9 _ _ ?_)
    clear _hK_9
    refine W_cond rfl (fun _h14 => ?_) (fun _h14 => ?_)
    · have _h14 := bt_d _h14
      refine W_skip ?_
      refine thn_nrm (_hK_8 _ _ ?_)
      clear _hK_8
      refine W_seq fun _K_10 _hK_10 => ?_
      refine W_block ?_
      refine W_seq fun _K_11 _hK_11 => ?_
      refine W_drawC [] 9 mixed rfl fun _w_12 _cw_12 => ?_
      have _cw_12z := _cw_12.size
      have E := E.trans _cw_12
      refine DR_s 0 rfl (by kernel_rfl) rfl rfl (t_v (fun _ => (r_move rfl)) ?_)
      refine DR_s 1 rfl (by kernel_rfl) rfl rfl (t_v (fun _ => (r_move rfl)) ?_)
      have _f_13 := ((_h_a.ch0 _E0h).ch0 _cw_12)
      refine DR_s 2 rfl (by kernel_rfl) rfl rfl (t_index _f_13 ics_len el35 sz3 rfl rfl rfl (by omega) fun _p19 _y19 _hy19 _a19 => ?_)
      refine DR_s 3 rfl (by kernel_rfl) rfl rfl (t_loadAt0 _a19 (fun i hi => by first | exact absurd hi (List.not_mem_nil) | (have _h1 := List.mem_singleton.1 hi; omega)) agg3 rfl rfl ?_)
      refine DR_s 4 rfl (by kernel_rfl) rfl rfl (t_v (fun _ => (r_move rfl)) ?_)
      refine DR_s 5 rfl (by kernel_rfl) rfl rfl (t_v (fun _ => (r_move rfl)) ?_)
      have _f_14 := ((_h_b.ch0 _E0h).ch0 _cw_12)
      refine DR_s 6 rfl (by kernel_rfl) rfl rfl (t_index _f_14 ics_len el35 sz3 rfl rfl rfl (by omega) fun _p23 _y23 _hy23 _a23 => ?_)
      refine DR_s 7 rfl (by kernel_rfl) rfl rfl (t_loadAt0 _a23 (fun i hi => by first | exact absurd hi (List.not_mem_nil) | (have _h1 := List.mem_singleton.1 hi; omega)) agg3 rfl rfl ?_)
      refine DR_s 8 rfl (by kernel_rfl) rfl rfl (t_v (fun _ => (r_neq rfl rfl)) ?_)
      refine DR_done (by kernel_rfl) ?_
      refine thn_nrm (_hK_11 _ _ ?_)
      clear _hK_11
      refine W_cond rfl (fun _h25 => ?_) (fun _h25 => ?_)
      · have _h25 := bf_d (bt_n _h25)
        refine W_seq fun _K_15 _hK_15 => ?_
        refine W_region ?_
        refine WL_step rfl rfl (r_assign rfl) ?_
        refine WL_nil ?_
        refine thn_nrm (_hK_15 _ _ ?_)
        clear _hK_15
        refine W_ret (inB_ret (thn_ret (thn_ret (inB_ret (thn_ret ?_)))))
        clear _hK_5 _hK_10
        exact ret_intro [_] ⟨rfl, trivial⟩ ⟨congrArg Value.bool (decide_eq_false (ne_of_get _hy19 _hy23 _h25)).symm, E⟩
      · have _h25 := bt_d (bf_n _h25)
        refine W_skip ?_
        refine inB_nrm ?_
        refine thn_nrm (_hK_10 _ _ ?_)
        clear _hK_10
        refine W_region ?_
        refine WL_step rfl rfl (r_move rfl) ?_
        refine WL_step rfl rfl (r_add (by omega) rfl rfl) ?_
        refine WL_step rfl rfl (r_assign rfl) ?_
        refine WL_nil ?_
        exact thn_nrm (Exists.intro (k + 1) ⟨⟨E, (by omega), (by omega), (take_eq_succ _ht _hy19 _hy23 _h25)⟩, Sub.cons rfl (Sub.cons rfl (Sub.cons rfl (Sub.cons rfl (Sub.cons rfl (Sub.cons rfl (Sub.cons rfl (Sub.cons rfl (Sub.nil _)))))))), (by first | omega | (dsimp only; omega))⟩)
    · have _h14 := bf_d _h14
      refine W_exit (thn_exit (thn_exit (inB_hit ?_)))
      refine thn_nrm (_hK_5 _ _ ?_)
      clear _hK_5
      refine W_seq fun _K_16 _hK_16 => ?_
      refine W_region ?_
      refine WL_step rfl rfl (r_assign rfl) ?_
      refine WL_nil ?_
      refine thn_nrm (_hK_16 _ _ ?_)
      clear _hK_16
      refine W_ret ?_
      clear _hK_8
      exact ret_intro [_] ⟨rfl, trivial⟩ ⟨congrArg Value.bool (decide_eq_true (eq_of_take _ht (by omega) (by omega))).symm, E⟩

/-- laws.eqIntSS -/
theorem c_laws_eqIntSS {w : World} {_B_sa : Nat} {_v_sa : Value} {sa : List Sv} (_h_sa : Ls Sv.cs 1 w _B_sa _v_sa sa) {BB_a : Nat} {a : List (List Int)} (_rd_a : Rd ics 1 w BB_a sa a) {_B_sb : Nat} {_v_sb : Value} {sb : List Sv} (_h_sb : Ls Sv.cs 1 w _B_sb _v_sb sb) {BB_b : Nat} {b : List (List Int)} (_rd_b : Rd ics 1 w BB_b sb b) :
    Ctr Try.prog 57 #[_v_sa, _v_sb] w (fun v w' => v = .bool (decide (a = b)) ∧ Ch [] w w') := by
  obtain ⟨_A_sa, _C_sa, _e1_sa⟩ := _h_sa.val
  subst _e1_sa
  have _l_sa := _h_sa.len
  have _h_sa := _h_sa.here (by decide)
  have _rd_a := _rd_a.here (by decide)
  have _rl_a := _rd_a.1
  obtain ⟨_A_sb, _C_sb, _e1_sb⟩ := _h_sb.val
  subst _e1_sb
  have _l_sb := _h_sb.len
  have _h_sb := _h_sb.here (by decide)
  have _rd_b := _rd_b.here (by decide)
  have _rl_b := _rd_b.1
  have E := Ch.refl [] w
  refine Ctr_of_W (N := 27) (vs0 := [(.slice _A_sa sa.length _C_sa), (.slice _A_sb sb.length _C_sb)]) Try.func57 rfl rfl rfl ?_
  refine W_seq fun _K_1 _hK_1 => ?_
  refine W_region ?_
  refine WL_step rfl rfl (r_assign rfl) ?_
  refine WL_nil ?_
  refine thn_nrm (_hK_1 _ _ ?_)
  clear _hK_1
  refine W_seq fun _K_2 _hK_2 => ?_
  refine W_seq fun _K_3 _hK_3 => ?_
  refine W_region ?_
  refine WL_step rfl rfl (r_move rfl) ?_
  refine WL_step rfl rfl (r_len (by rw [el23]; rfl) rfl) ?_
  refine WL_step rfl rfl (r_move rfl) ?_
  refine WL_step rfl rfl (r_len (by rw [el23]; rfl) rfl) ?_
  refine WL_step rfl rfl (r_neq rfl rfl) ?_
  refine WL_nil ?_
  refine thn_nrm (_hK_3 _ _ ?_)
  clear _hK_3
  refine W_cond rfl (fun _h10 => ?_) (fun _h10 => ?_)
  · have _h10 := bf_d (bt_n _h10)
    refine W_seq fun _K_4 _hK_4 => ?_
    refine W_region ?_
    refine WL_step rfl rfl (r_assign rfl) ?_
    refine WL_nil ?_
    refine thn_nrm (_hK_4 _ _ ?_)
    clear _hK_4
    refine W_ret (thn_ret ?_)
    clear _hK_2
    exact ret_intro [_] ⟨rfl, trivial⟩ ⟨congrArg Value.bool (decide_eq_false (fun e => _h10 (by rw [_rl_a, _rl_b, e]))).symm, E⟩
  · have _h10 := bt_d (bf_n _h10)
    refine W_skip ?_
    refine thn_nrm (_hK_2 _ _ ?_)
    clear _hK_2
    refine W_seq fun _K_5 _hK_5 => ?_
    refine W_seq fun _K_6 _hK_6 => ?_
    refine W_region ?_
    refine WL_step rfl rfl (r_assign rfl) ?_
    refine WL_nil ?_
    refine thn_nrm (_hK_6 _ _ ?_)
    clear _hK_6
    refine W_block ?_
    refine W_loop (σ := Nat) (fun (k : Nat) => [(0, (.slice _A_sa sa.length _C_sa)), (1, (.slice _A_sb sb.length _C_sb)), (5, (.int .i64 ((k : Nat) : Int))), (6, (.slice _A_sa sa.length _C_sa)), (7, (.int .i64 ((sa.length : Nat) : Int))), (8, (.slice _A_sb sb.length _C_sb)), (9, (.int .i64 ((sb.length : Nat) : Int))), (10, (.bool (!decide (((sa.length : Nat) : Int) = ((sb.length : Nat) : Int)))))]) (fun (k : Nat) wx => Ch [] w wx ∧ w.heap.size ≤ wx.heap.size ∧ (k ≤ a.length) ∧ (a.take k = b.take k)) (fun (k : Nat) => a.length - k) 0 (Sub.cons rfl (Sub.cons rfl (Sub.cons rfl (Sub.cons rfl (Sub.cons rfl (Sub.cons rfl (Sub.cons rfl (Sub.cons rfl (Sub.nil _))))))))) ⟨E, (Nat.le_refl _), (by omega), rfl⟩ ?_
    rintro k _wr_7 ⟨E, _zz0, _hk, _ht⟩
    have _E0h := E
    have _E0hz := _E0h.size
    refine W_seq fun _K_8 _hK_8 => ?_
    refine W_seq fun _K_9 _hK_9 => ?_
    refine W_region ?_
    refine WL_step rfl rfl (r_move rfl) ?_
    refine WL_step rfl rfl (r_move rfl) ?_
    refine WL_step rfl rfl (r_len (by rw [el23]; rfl) rfl) ?_
    refine WL_step rfl rfl (r_lss rfl rfl) ?_
    refine WL_nil ?_
    refine thn_nrm (_hK_9 _ _ ?_)
    clear _hK_9
    refine W_cond rfl (fun _h14 => ?_) (fun _h14 => ?_)
    · have _h14 := bt_d _h14
      refine W_skip ?_
      refine thn_nrm (_hK_8 _ _ ?_)
      clear _hK_8
      refine W_seq fun _K_10 _hK_10 => ?_
      refine W_block ?_
      refine W_seq fun _K_11 _hK_11 => ?_
      refine W_drawC [] 10 mixed rfl fun _w_12 _cw_12 => ?_
      have _cw_12z := _cw_12.size
      have E := E.trans _cw_12
      refine DR_s 0 rfl (by kernel_rfl) rfl rfl (t_v (fun _ => (r_move rfl)) ?_)
      refine DR_s 1 rfl (by kernel_rfl) rfl rfl (t_v (fun _ => (r_move rfl)) ?_)
      have _f_13 := ((_h_sa.ch0 _E0h).ch0 _cw_12)
      have _f_14 := ((_rd_a.ch0 _E0h).ch0 _cw_12)
      refine DR_s 2 rfl (by kernel_rfl) rfl rfl (t_index _f_13 Sv.len el23 sz35 rfl rfl rfl (by omega) fun _p19 _y19 _hy19 _a19 => ?_)
      obtain ⟨_ys19, _hys19, _fs19⟩ := _f_14.get _hy19
      obtain ⟨_A19, _n19, _C19⟩ := _y19
      obtain rfl := _fs19.eqn
      have _l19 := _fs19.len
      replace _fs19 : Ls ics 1 _w_12 w.heap.size (.slice _A19 _ys19.length _C19) _ys19 := _fs19
      replace _a19 : At _w_12 w.heap.size _p19 ([(.slice _A19 _ys19.length _C19)]) := _a19
      refine DR_s 3 rfl (by kernel_rfl) rfl rfl (t_loadAt0 _a19 (fun i hi => by first | exact absurd hi (List.not_mem_nil) | (have _h1 := List.mem_singleton.1 hi; omega)) agg35 rfl rfl ?_)
      refine DR_s 4 rfl (by kernel_rfl) rfl rfl (t_v (fun _ => (r_move rfl)) ?_)
      refine DR_s 5 rfl (by kernel_rfl) rfl rfl (t_v (fun _ => (r_move rfl)) ?_)
      have _f_15 := ((_h_sb.ch0 _E0h).ch0 _cw_12)
      have _f_16 := ((_rd_b.ch0 _E0h).ch0 _cw_12)
      refine DR_s 6 rfl (by kernel_rfl) rfl rfl (t_index _f_15 Sv.len el23 sz35 rfl rfl rfl (by omega) fun _p23 _y23 _hy23 _a23 => ?_)
      obtain ⟨_ys23, _hys23, _fs23⟩ := _f_16.get _hy23
      obtain ⟨_A23, _n23, _C23⟩ := _y23
      obtain rfl := _fs23.eqn
      have _l23 := _fs23.len
      replace _fs23 : Ls ics 1 _w_12 w.heap.size (.slice _A23 _ys23.length _C23) _ys23 := _fs23
      replace _a23 : At _w_12 w.heap.size _p23 ([(.slice _A23 _ys23.length _C23)]) := _a23
      refine DR_s 7 rfl (by kernel_rfl) rfl rfl (t_loadAt0 _a23 (fun i hi => by first | exact absurd hi (List.not_mem_nil) | (have _h1 := List.mem_singleton.1 hi; omega)) agg35 rfl rfl ?_)
      refine DR_one 8 (by kernel_rfl) ?_
      refine DO_s rfl rfl rfl ?_
      refine Step.call (r_call (xs := [.tmp 20, .tmp 24]) fk27 rfl) (c_laws_eqIntS _fs19 _fs23 ) fun _v25 _w_17 _q25 => ?_
      obtain ⟨rfl, _cw_17⟩ := _q25
      have _cw_17z := _cw_17.size
      have E := E.trans _cw_17
      have _S_18 : Ch [] _w_12 _w_17 := ((Ch.refl _ _).trans _cw_17.of_nil)
      refine ⟨_S_18, ?_⟩
      refine DR_s 9 rfl (by kernel_rfl) rfl rfl (t_v (fun _ => (r_not rfl)) ?_)
      refine DR_done (by kernel_rfl) ?_
      refine thn_nrm (_hK_11 _ _ ?_)
      clear _hK_11
      refine W_cond rfl (fun _h26 => ?_) (fun _h26 => ?_)
      · have _h26 := bf_d (bt_n _h26)
        refine W_seq fun _K_19 _hK_19 => ?_
        refine W_region ?_
        refine WL_step rfl rfl (r_assign rfl) ?_
        refine WL_nil ?_
        refine thn_nrm (_hK_19 _ _ ?_)
        clear _hK_19
        refine W_ret (inB_ret (thn_ret (thn_ret (inB_ret (thn_ret ?_)))))
        clear _hK_5 _hK_10
        exact ret_intro [_] ⟨rfl, trivial⟩ ⟨congrArg Value.bool (decide_eq_false (ne_of_get _hys19 _hys23 _h26)).symm, E⟩
      · have _h26 := bt_d (bf_n _h26)
        refine W_skip ?_
        refine inB_nrm ?_
        refine thn_nrm (_hK_10 _ _ ?_)
        clear _hK_10
        refine W_region ?_
        refine WL_step rfl rfl (r_move rfl) ?_
        refine WL_step rfl rfl (r_add (by omega) rfl rfl) ?_
        refine WL_step rfl rfl (r_assign rfl) ?_
        refine WL_nil ?_
        exact thn_nrm (Exists.intro (k + 1) ⟨⟨E, (by omega), (by omega), (take_eq_succ _ht _hys19 _hys23 _h26)⟩, Sub.cons rfl (Sub.cons rfl (Sub.cons rfl (Sub.cons rfl (Sub.cons rfl (Sub.cons rfl (Sub.cons rfl (Sub.cons rfl (Sub.nil _)))))))), (by first | omega | (dsimp only; omega))⟩)
    · have _h14 := bf_d _h14
      refine W_exit (thn_exit (thn_exit (inB_hit ?_)))
      refine thn_nrm (_hK_5 _ _ ?_)
      clear _hK_5
      refine W_seq fun _K_20 _hK_20 => ?_
      refine W_region ?_
      refine WL_step rfl rfl (r_assign rfl) ?_
      refine WL_nil ?_
      refine thn_nrm (_hK_20 _ _ ?_)
      clear _hK_20
      refine W_ret ?_
      clear _hK_8
      exact ret_intro [_] ⟨rfl, trivial⟩ ⟨congrArg Value.bool (decide_eq_true (eq_of_take _ht (by omega) (by omega))).symm, E⟩

/-- laws.eqAutomaton -/
theorem c_laws_eqAutomaton {w : World} (aS : Int) {_B_aA : Nat} {_v_aA : Value} {aA : List Bool} (_h_aA : Ls bcs 1 w _B_aA _v_aA aA) {_B_saN : Nat} {_v_saN : Value} {saN : List Sv} (_h_saN : Ls Sv.cs 1 w _B_saN _v_saN saN) {BB_aN : Nat} {aN : List (List Int)} (_rd_aN : Rd ics 1 w BB_aN saN aN) (bS : Int) {_B_bA : Nat} {_v_bA : Value} {bA : List Bool} (_h_bA : Ls bcs 1 w _B_bA _v_bA bA) {_B_sbN : Nat} {_v_sbN : Value} {sbN : List Sv} (_h_sbN : Ls Sv.cs 1 w _B_sbN _v_sbN sbN) {BB_bN : Nat} {bN : List (List Int)} (_rd_bN : Rd ics 1 w BB_bN sbN bN) :
    Ctr Try.prog 19 #[(.agg #[(.int .i64 aS), _v_aA, _v_saN]), (.agg #[(.int .i64 bS), _v_bA, _v_sbN])] w (fun v w' => v = .bool (decide (aS = bS ∧ aA = bA ∧ aN = bN)) ∧ Ch [] w w') := by
  obtain ⟨_A_aA, _C_aA, _e1_aA⟩ := _h_aA.val
  subst _e1_aA
  have _l_aA := _h_aA.len
  have _h_aA := _h_aA.here (by decide)
  obtain ⟨_A_saN, _C_saN, _e1_saN⟩ := _h_saN.val
  subst _e1_saN
  have _l_saN := _h_saN.len
  have _h_saN := _h_saN.here (by decide)
  have _rd_aN := _rd_aN.here (by decide)
  have _rl_aN := _rd_aN.1
  obtain ⟨_A_bA, _C_bA, _e1_bA⟩ := _h_bA.val
  subst _e1_bA
  have _l_bA := _h_bA.len
  have _h_bA := _h_bA.here (by decide)
  obtain ⟨_A_sbN, _C_sbN, _e1_sbN⟩ := _h_sbN.val
  subst _e1_sbN
  have _l_sbN := _h_sbN.len
  have _h_sbN := _h_sbN.here (by decide)
  have _rd_bN := _rd_bN.here (by decide)
  have _rl_bN := _rd_bN.1
  have E := Ch.refl [] w
  refine Ctr_of_W (N := 22) (vs0 := [(.agg #[(.int .i64 aS), (.slice _A_aA aA.length _C_aA), (.slice _A_saN saN.length _C_saN)]), (.agg #[(.int .i64 bS), (.slice _A_bA bA.length _C_bA), (.slice _A_sbN sbN.length _C_sbN)])]) Try.func19 rfl rfl rfl ?_
  refine W_seq fun _K_1 _hK_1 => ?_
  refine W_region ?_
  refine WL_s rfl rfl ?_
  refine s_box rfl fun _b2 _w_2 _m2 _cw_2 _e2 => ?_
  have _cw_2z := _cw_2.size
  have E := E.trans _cw_2
  have _z2 := _m2.lt
  replace _m2 : Blk _w_2 _b2 28 [(.int .i64 aS), (.slice _A_aA aA.length _C_aA), (.slice _A_saN saN.length _C_saN)] := _m2
  refine WL_s rfl rfl ?_
  refine s_box rfl fun _b3 _w_3 _m3 _cw_3 _e3 => ?_
  have _cw_3z := _cw_3.size
  have E := E.trans _cw_3
  have _z3 := _m3.lt
  replace _m3 : Blk _w_3 _b3 28 [(.int .i64 bS), (.slice _A_bA bA.length _C_bA), (.slice _A_sbN sbN.length _C_sbN)] := _m3
  refine WL_step rfl rfl (r_assign rfl) ?_
  refine WL_nil ?_
  refine thn_nrm (_hK_1 _ _ ?_)
  clear _hK_1
  refine W_seq fun _K_4 _hK_4 => ?_
  refine W_seq fun _K_5 _hK_5 => ?_
  refine W_region ?_
  refine WL_step rfl rfl (r_fieldAddr fa28_0 rfl) ?_
  have _f_6 := (_m2.ch0 _cw_3)
  refine WL_step rfl rfl (r_loadAt _f_6.at_ agg3 rfl rfl) ?_
  refine WL_step rfl rfl (r_fieldAddr fa28_0 rfl) ?_
  refine WL_step rfl rfl (r_loadAt _m3.at_ agg3 rfl rfl) ?_
  refine WL_step rfl rfl (r_neq rfl rfl) ?_
  refine WL_nil ?_
  refine thn_nrm (_hK_5 _ _ ?_)
  clear _hK_5
  refine W_cond rfl (fun _h9 => ?_) (fun _h9 => ?_)
  · have _h9 := bf_d (bt_n _h9)
    refine W_seq fun _K_7 _hK_7 => ?_
    refine W_region ?_
    refine WL_step rfl rfl (r_assign rfl) ?_
    refine WL_nil ?_
    refine thn_nrm (_hK_7 _ _ ?_)
    clear _hK_7
    refine W_ret (thn_ret ?_)
    clear _hK_4
    exact ret_intro [_] ⟨rfl, trivial⟩ ⟨congrArg Value.bool (by simp_all), E⟩
  · have _h9 := bt_d (bf_n _h9)
    refine W_skip ?_
    refine thn_nrm (_hK_4 _ _ ?_)
    clear _hK_4
    refine W_seq fun _K_8 _hK_8 => ?_
    refine W_seq fun _K_9 _hK_9 => ?_
    refine W_region ?_
    refine WL_step rfl rfl (r_fieldAddr fa28_1 rfl) ?_
    refine WL_step rfl rfl (r_loadAt _f_6.at_ agg22 rfl rfl) ?_
    refine WL_step rfl rfl (r_fieldAddr fa28_1 rfl) ?_
    refine WL_step rfl rfl (r_loadAt _m3.at_ agg22 rfl rfl) ?_
    refine WL_s rfl rfl ?_
    have _f_10 := ((_h_aA.ch0 _cw_2).ch0 _cw_3)
    have _f_11 := ((_h_bA.ch0 _cw_2).ch0 _cw_3)
    refine Step.call (r_call (xs := [.tmp 11, .tmp 13]) fk56 rfl) (c_laws_eqBoolS _f_10 _f_11 ) fun _v14 _w_12 _q14 => ?_
    obtain ⟨rfl, _cw_12⟩ := _q14
    have _cw_12z := _cw_12.size
    have E := E.trans _cw_12
    refine WL_step rfl rfl (r_not rfl) ?_
    refine WL_nil ?_
    refine thn_nrm (_hK_9 _ _ ?_)
    clear _hK_9
    refine W_cond rfl (fun _h15 => ?_) (fun _h15 => ?_)
    · have _h15 := bf_d (bt_n _h15)
      refine W_seq fun _K_13 _hK_13 => ?_
      refine W_region ?_
      refine WL_step rfl rfl (r_assign rfl) ?_
      refine WL_nil ?_
      refine thn_nrm (_hK_13 _ _ ?_)
      clear _hK_13
      refine W_ret (thn_ret ?_)
      clear _hK_8
      exact ret_intro [_] ⟨rfl, trivial⟩ ⟨congrArg Value.bool (by simp_all), E⟩
    · have _h15 := bt_d (bf_n _h15)
      refine W_skip ?_
      refine thn_nrm (_hK_8 _ _ ?_)
      clear _hK_8
      refine W_seq fun _K_14 _hK_14 => ?_
      refine W_seq fun _K_15 _hK_15 => ?_
      refine W_region ?_
      refine WL_step rfl rfl (r_fieldAddr fa28_2 rfl) ?_
      have _f_16 := (_f_6.ch0 _cw_12)
      refine WL_step rfl rfl (r_loadAt _f_16.at_ agg23 rfl rfl) ?_
      refine WL_step rfl rfl (r_fieldAddr fa28_2 rfl) ?_
      have _f_17 := (_m3.ch0 _cw_12)
      refine WL_step rfl rfl (r_loadAt _f_17.at_ agg23 rfl rfl) ?_
      refine WL_s rfl rfl ?_
      have _f_18 := (((_rd_aN.ch0 _cw_2).ch0 _cw_3).ch0 _cw_12)
      have _f_19 := (((_h_saN.ch0 _cw_2).ch0 _cw_3).ch0 _cw_12)
      have _f_20 := (((_rd_bN.ch0 _cw_2).ch0 _cw_3).ch0 _cw_12)
      have _f_21 := (((_h_sbN.ch0 _cw_2).ch0 _cw_3).ch0 _cw_12)
      refine Step.call (r_call (xs := [.tmp 17, .tmp 19]) fk57 rfl) (c_laws_eqIntSS _f_19 _f_18 _f_21 _f_20 ) fun _v20 _w_22 _q20 => ?_
      obtain ⟨rfl, _cw_22⟩ := _q20
      have _cw_22z := _cw_22.size
      have E := E.trans _cw_22
      refine WL_step rfl rfl (r_not rfl) ?_
      refine WL_nil ?_
      refine thn_nrm (_hK_15 _ _ ?_)
      clear _hK_15
      refine W_cond rfl (fun _h21 => ?_) (fun _h21 => ?_)
      · have _h21 := bf_d (bt_n _h21)
        refine W_seq fun _K_23 _hK_23 => ?_
        refine W_region ?_
        refine WL_step rfl rfl (r_assign rfl) ?_
        refine WL_nil ?_
        refine thn_nrm (_hK_23 _ _ ?_)
        clear _hK_23
        refine W_ret (thn_ret ?_)
        clear _hK_14
        exact ret_intro [_] ⟨rfl, trivial⟩ ⟨congrArg Value.bool (by simp_all), E⟩
      · have _h21 := bt_d (bf_n _h21)
        refine W_skip ?_
        refine thn_nrm (_hK_14 _ _ ?_)
        clear _hK_14
        refine W_seq fun _K_24 _hK_24 => ?_
        refine W_region ?_
        refine WL_step rfl rfl (r_assign rfl) ?_
        refine WL_nil ?_
        refine thn_nrm (_hK_24 _ _ ?_)
        clear _hK_24
        refine W_ret ?_
        exact ret_intro [_] ⟨rfl, trivial⟩ ⟨congrArg Value.bool (by simp_all), E⟩

/-- laws.szBoolS -/
theorem c_laws_szBoolS {w : World} {_B_a : Nat} {_v_a : Value} {a : List Bool} (_h_a : Ls bcs 1 w _B_a _v_a a) (left : Int) (hl : left ≤ 1048576) (_h0 : 0 ≤ left) :
    Ctr Try.prog 50 #[_v_a, (.int .i64 left)] w (fun v w' => v = .int .i64 (if left < a.length then -1 else left - a.length) ∧ Ch [] w w') := by
  obtain ⟨_A_a, _C_a, _e1_a⟩ := _h_a.val
  subst _e1_a
  have _l_a := _h_a.len
  have _h_a := _h_a.here (by decide)
  have E := Ch.refl [] w
  refine Ctr_of_W (N := 12) (vs0 := [(.slice _A_a a.length _C_a), (.int .i64 left)]) Try.func50 rfl rfl rfl ?_
  refine W_seq fun _K_1 _hK_1 => ?_
  refine W_region ?_
  refine WL_step rfl rfl (r_assign rfl) ?_
  refine WL_nil ?_
  refine thn_nrm (_hK_1 _ _ ?_)
  clear _hK_1
  refine W_seq fun _K_2 _hK_2 => ?_
  refine W_region ?_
  refine WL_step rfl rfl (r_move rfl) ?_
  refine WL_step rfl rfl (r_move rfl) ?_
  refine WL_step rfl rfl (r_len (by rw [el22]; rfl) rfl) ?_
  refine WL_step rfl rfl (r_sub (by omega) rfl rfl) ?_
  refine WL_step rfl rfl (r_assign rfl) ?_
  refine WL_nil ?_
  refine thn_nrm (_hK_2 _ _ ?_)
  clear _hK_2
  refine W_seq fun _K_3 _hK_3 => ?_
  refine W_seq fun _K_4 _hK_4 => ?_
  refine W_region ?_
  refine WL_step rfl rfl (r_move rfl) ?_
  refine WL_step rfl rfl (r_lss rfl rfl) ?_
  refine WL_nil ?_
  refine thn_nrm (_hK_4 _ _ ?_)
  clear _hK_4
  refine W_cond rfl (fun _h10 => ?_) (fun _h10 => ?_)
  · have _h10 := bt_d _h10
    refine W_seq fun _K_5 _hK_5 => ?_
    refine W_region ?_
    refine WL_step rfl rfl (r_assign rfl) ?_
    refine WL_nil ?_
    refine thn_nrm (_hK_5 _ _ ?_)
    clear _hK_5
    refine W_ret (thn_ret ?_)
    clear _hK_3
    exact ret_intro [_] ⟨rfl, trivial⟩ ⟨congrArg (Value.int .i64) (if_pos (by omega)).symm, E⟩
  · have _h10 := bf_d _h10
    refine W_skip ?_
    refine thn_nrm (_hK_3 _ _ ?_)
    clear _hK_3
    refine W_seq fun _K_6 _hK_6 => ?_
    refine W_region ?_
    refine WL_step rfl rfl (r_move rfl) ?_
    refine WL_step rfl rfl (r_assign rfl) ?_
    refine WL_nil ?_
    refine thn_nrm (_hK_6 _ _ ?_)
    clear _hK_6
    refine W_ret ?_
    exact ret_intro [_] ⟨rfl, trivial⟩ ⟨congrArg (Value.int .i64) (if_neg (by omega)).symm, E⟩

/-- laws.szIntS -/
theorem c_laws_szIntS {w : World} {_B_a : Nat} {_v_a : Value} {a : List Int} (_h_a : Ls ics 1 w _B_a _v_a a) (left : Int) (hl : left ≤ 1048576) (_h0 : 0 ≤ left) :
    Ctr Try.prog 87 #[_v_a, (.int .i64 left)] w (fun v w' => v = .int .i64 (if left < a.length then -1 else left - a.length) ∧ Ch [] w w') := by
  obtain ⟨_A_a, _C_a, _e1_a⟩ := _h_a.val
  subst _e1_a
  have _l_a := _h_a.len
  have _h_a := _h_a.here (by decide)
  have E := Ch.refl [] w
  refine Ctr_of_W (N := 12) (vs0 := [(.slice _A_a a.length _C_a), (.int .i64 left)]) Try.func87 rfl rfl rfl ?_
  refine W_seq fun _K_1 _hK_1 => ?_
  refine W_region ?_
  refine WL_step rfl rfl (r_assign rfl) ?_
  refine WL_nil ?_
  refine thn_nrm (_hK_1 _ _ ?_)
  clear _hK_1
  refine W_seq fun _K_2 _hK_2 => ?_
  refine W_region ?_
  refine WL_step rfl rfl (r_move rfl) ?_
  refine WL_step rfl rfl (r_move rfl) ?_
  refine WL_step rfl rfl (r_len (by rw [el35]; rfl) rfl) ?_
  refine WL_step rfl rfl (r_sub (by omega) rfl rfl) ?_
  refine WL_step rfl rfl (r_assign rfl) ?_
  refine WL_nil ?_
  refine thn_nrm (_hK_2 _ _ ?_)
  clear _hK_2
  refine W_seq fun _K_3 _hK_3 => ?_
  refine W_seq fun _K_4 _hK_4 => ?_
  refine W_region ?_
  refine WL_step rfl rfl (r_move rfl) ?_
  refine WL_step rfl rfl (r_lss rfl rfl) ?_
  refine WL_nil ?_
  refine thn_nrm (_hK_4 _ _ ?_)
  clear _hK_4
  refine W_cond rfl (fun _h10 => ?_) (fun _h10 => ?_)
  · have _h10 := bt_d _h10
    refine W_seq fun _K_5 _hK_5 => ?_
    refine W_region ?_
    refine WL_step rfl rfl (r_assign rfl) ?_
    refine WL_nil ?_
    refine thn_nrm (_hK_5 _ _ ?_)
    clear _hK_5
    refine W_ret (thn_ret ?_)
    clear _hK_3
    exact ret_intro [_] ⟨rfl, trivial⟩ ⟨congrArg (Value.int .i64) (if_pos (by omega)).symm, E⟩
  · have _h10 := bf_d _h10
    refine W_skip ?_
    refine thn_nrm (_hK_3 _ _ ?_)
    clear _hK_3
    refine W_seq fun _K_6 _hK_6 => ?_
    refine W_region ?_
    refine WL_step rfl rfl (r_move rfl) ?_
    refine WL_step rfl rfl (r_assign rfl) ?_
    refine WL_nil ?_
    refine thn_nrm (_hK_6 _ _ ?_)
    clear _hK_6
    refine W_ret ?_
    exact ret_intro [_] ⟨rfl, trivial⟩ ⟨congrArg (Value.int .i64) (if_neg (by omega)).symm, E⟩

/-- laws.szIntSS -/
theorem c_laws_szIntSS {w : World} {_B_sa : Nat} {_v_sa : Value} {sa : List Sv} (_h_sa : Ls Sv.cs 1 w _B_sa _v_sa sa) {BB_a : Nat} {a : List (List Int)} (_rd_a : Rd ics 1 w BB_a sa a) (left : Int) (hl : left ≤ 1048576) (_h0 : 0 ≤ left) :
    Ctr Try.prog 51 #[_v_sa, (.int .i64 left)] w (fun v w' => v = .int .i64 (if left < a.length + a.flatten.length then -1 else left - a.length - a.flatten.length) ∧ Ch [] w w') := by
  obtain ⟨_A_sa, _C_sa, _e1_sa⟩ := _h_sa.val
  subst _e1_sa
  have _l_sa := _h_sa.len
  have _h_sa := _h_sa.here (by decide)
  have _rd_a := _rd_a.here (by decide)
  have _rl_a := _rd_a.1
  have E := Ch.refl [] w
  refine Ctr_of_W (N := 27) (vs0 := [(.slice _A_sa sa.length _C_sa), (.int .i64 left)]) Try.func51 rfl rfl rfl ?_
  refine W_seq fun _K_1 _hK_1 => ?_
  refine W_region ?_
  refine WL_step rfl rfl (r_assign rfl) ?_
  refine WL_nil ?_
  refine thn_nrm (_hK_1 _ _ ?_)
  clear _hK_1
  refine W_seq fun _K_2 _hK_2 => ?_
  refine W_region ?_
  refine WL_step rfl rfl (r_move rfl) ?_
  refine WL_step rfl rfl (r_move rfl) ?_
  refine WL_step rfl rfl (r_len (by rw [el23]; rfl) rfl) ?_
  refine WL_step rfl rfl (r_sub (by omega) rfl rfl) ?_
  refine WL_step rfl rfl (r_assign rfl) ?_
  refine WL_nil ?_
  refine thn_nrm (_hK_2 _ _ ?_)
  clear _hK_2
  refine W_seq fun _K_3 _hK_3 => ?_
  refine W_seq fun _K_4 _hK_4 => ?_
  refine W_region ?_
  refine WL_step rfl rfl (r_move rfl) ?_
  refine WL_step rfl rfl (r_lss rfl rfl) ?_
  refine WL_nil ?_
  refine thn_nrm (_hK_4 _ _ ?_)
  clear _hK_4
  refine W_cond rfl (fun _h11 => ?_) (fun _h11 => ?_)
  · have _h11 := bt_d _h11
    refine W_seq fun _K_5 _hK_5 => ?_
    refine W_region ?_
    refine WL_step rfl rfl (r_assign rfl) ?_
    refine WL_nil ?_
    refine thn_nrm (_hK_5 _ _ ?_)
    clear _hK_5
    refine W_ret (thn_ret ?_)
    clear _hK_3
    exact ret_intro [_] ⟨rfl, trivial⟩ ⟨congrArg (Value.int .i64) (if_pos (by omega)).symm, E⟩
  · have _h11 := bf_d _h11
    refine W_skip ?_
    refine thn_nrm (_hK_3 _ _ ?_)
    clear _hK_3
    refine W_seq fun _K_6 _hK_6 => ?_
    refine W_seq fun _K_7 _hK_7 => ?_
    refine W_region ?_
    refine WL_step rfl rfl (r_assign rfl) ?_
    refine WL_nil ?_
    refine thn_nrm (_hK_7 _ _ ?_)
    clear _hK_7
    refine W_block ?_
    refine W_loop (σ := Nat × Int) (fun ⟨k, m⟩ => [(0, (.slice _A_sa sa.length _C_sa)), (1, (.int .i64 m)), (5, (.int .i64 ((k : Nat) : Int))), (6, (.int .i64 left)), (7, (.slice _A_sa sa.length _C_sa)), (8, (.int .i64 ((sa.length : Nat) : Int))), (9, (.int .i64 (left - ((sa.length : Nat) : Int)))), (10, (.int .i64 (left - ((sa.length : Nat) : Int)))), (11, (.bool (decide ((left - ((sa.length : Nat) : Int)) < 0))))]) (fun ⟨k, m⟩ wx => Ch [] w wx ∧ w.heap.size ≤ wx.heap.size ∧ (k ≤ a.length) ∧ (m = left - a.length - (a.take k).flatten.length) ∧ (0 ≤ m)) (fun ⟨k, m⟩ => a.length - k) (0, (left - ((sa.length : Nat) : Int))) (Sub.cons rfl (Sub.cons rfl (Sub.cons rfl (Sub.cons rfl (Sub.cons rfl (Sub.cons rfl (Sub.cons rfl (Sub.cons rfl (Sub.cons rfl (Sub.nil _)))))))))) ⟨E, (Nat.le_refl _), (by omega), (by simp; omega), (by omega)⟩ ?_
    rintro ⟨k, m⟩ _wr_8 ⟨E, _zz0, _hk, hm, hn⟩
    have _E0h := E
    have _E0hz := _E0h.size
    refine W_seq fun _K_9 _hK_9 => ?_
    refine W_seq fun _K_10 _hK_10 => ?_
    refine W_region ?_
    refine WL_step rfl rfl (r_move rfl) ?_
    refine WL_step rfl rfl (r_move rfl) ?_
    refine WL_step rfl rfl (r_len (by rw [el23]; rfl) rfl) ?_
    refine WL_step rfl rfl (r_lss rfl rfl) ?_
    refine WL_nil ?_
    refine thn_nrm (_hK_10 _ _ ?_)
    clear _hK_10
    refine W_cond rfl (fun _h15 => ?_) (fun _h15 => ?_)
    · have _h15 := bt_d _h15
      refine W_skip ?_
      refine thn_nrm (_hK_9 _ _ ?_)
      clear _hK_9
      refine W_seq fun _K_11 _hK_11 => ?_
      refine W_block ?_
      refine W_seq fun _K_12 _hK_12 => ?_
      refine W_region ?_
      refine WL_step rfl rfl (r_move rfl) ?_
      refine WL_step rfl rfl (r_move rfl) ?_
      refine WL_s rfl rfl ?_
      have _f_13 := (_h_sa.ch0 _E0h)
      refine (s_index _f_13 Sv.len el23 sz35 rfl rfl rfl (by omega) fun _p20 _y20 _hy20 _a20 => ?_)
      have _f_14 := (_rd_a.ch0 _E0h)
      obtain ⟨_ys20, _hys20, _fs20⟩ := _f_14.get _hy20
      obtain ⟨_A20, _n20, _C20⟩ := _y20
      obtain rfl := _fs20.eqn
      have _l20 := _fs20.len
      replace _fs20 : Ls ics 1 _wr_8 w.heap.size (.slice _A20 _ys20.length _C20) _ys20 := _fs20
      replace _a20 : At _wr_8 w.heap.size _p20 ([(.slice _A20 _ys20.length _C20)]) := _a20
      refine WL_step rfl rfl (r_loadAt0 _a20 agg35 rfl rfl) ?_
      refine WL_step rfl rfl (r_move rfl) ?_
      refine WL_s rfl rfl ?_
      refine Step.call (r_call (xs := [.tmp 21, .tmp 22]) fk87 rfl) (c_laws_szIntS _fs20 _ (by omega) (by omega)) fun _v23 _w_15 _q23 => ?_
      obtain ⟨rfl, _cw_15⟩ := _q23
      have _cw_15z := _cw_15.size
      have E := E.trans _cw_15
      refine WL_step rfl rfl (r_assign rfl) ?_
      refine WL_nil ?_
      refine thn_nrm (_hK_12 _ _ ?_)
      clear _hK_12
      refine W_seq fun _K_16 _hK_16 => ?_
      refine W_region ?_
      refine WL_step rfl rfl (r_move rfl) ?_
      refine WL_step rfl rfl (r_lss rfl rfl) ?_
      refine WL_nil ?_
      refine thn_nrm (_hK_16 _ _ ?_)
      clear _hK_16
      refine W_cond rfl (fun _h25 => ?_) (fun _h25 => ?_)
      · have _h25 := bt_d _h25
        refine W_seq fun _K_17 _hK_17 => ?_
        refine W_region ?_
        refine WL_step rfl rfl (r_assign rfl) ?_
        refine WL_nil ?_
        refine thn_nrm (_hK_17 _ _ ?_)
        clear _hK_17
        refine W_ret (inB_ret (thn_ret (thn_ret (inB_ret (thn_ret ?_)))))
        clear _hK_6 _hK_11
        exact ret_intro [_] ⟨rfl, trivial⟩ ⟨congrArg (Value.int .i64) (if_pos (by have _h9 := fl_le _hys20; omega)).symm, E⟩
      · have _h25 := bf_d _h25
        refine W_skip ?_
        refine inB_nrm ?_
        refine thn_nrm (_hK_11 _ _ ?_)
        clear _hK_11
        refine W_region ?_
        refine WL_step rfl rfl (r_move rfl) ?_
        refine WL_step rfl rfl (r_add (by omega) rfl rfl) ?_
        refine WL_step rfl rfl (r_assign rfl) ?_
        refine WL_nil ?_
        exact thn_nrm (Exists.intro ((k + 1), if m < _ys20.length then -1 else m - _ys20.length) ⟨⟨E, (by omega), (by omega), (by have _h9 := fl_add _hys20; omega), (by omega)⟩, Sub.cons rfl (Sub.cons rfl (Sub.cons rfl (Sub.cons rfl (Sub.cons rfl (Sub.cons rfl (Sub.cons rfl (Sub.cons rfl (Sub.cons rfl (Sub.nil _))))))))), (by first | omega | (dsimp only; omega))⟩)
    · have _h15 := bf_d _h15
      refine W_exit (thn_exit (thn_exit (inB_hit ?_)))
      refine thn_nrm (_hK_6 _ _ ?_)
      clear _hK_6
      refine W_seq fun _K_18 _hK_18 => ?_
      refine W_region ?_
      refine WL_step rfl rfl (r_move rfl) ?_
      refine WL_step rfl rfl (r_assign rfl) ?_
      refine WL_nil ?_
      refine thn_nrm (_hK_18 _ _ ?_)
      clear _hK_18
      refine W_ret ?_
      clear _hK_9
      exact ret_intro [_] ⟨rfl, trivial⟩ ⟨congrArg (Value.int .i64) (by have _h9 := fl_take (show a.length ≤ k by omega); omega), E⟩

/-- laws.szAutomaton -/
theorem c_laws_szAutomaton {w : World} (aS : Int) {_B_aA : Nat} {_v_aA : Value} {aA : List Bool} (_h_aA : Ls bcs 1 w _B_aA _v_aA aA) {_B_saN : Nat} {_v_saN : Value} {saN : List Sv} (_h_saN : Ls Sv.cs 1 w _B_saN _v_saN saN) {BB_aN : Nat} {aN : List (List Int)} (_rd_aN : Rd ics 1 w BB_aN saN aN) (left : Int) (hl : left ≤ 1048576) (_h0 : 0 ≤ left) :
    Ctr Try.prog 15 #[(.agg #[(.int .i64 aS), _v_aA, _v_saN]), (.int .i64 left)] w (fun v w' => v = .int .i64 (if left < aA.length + aN.length + aN.flatten.length then -1 else left - aA.length - aN.length - aN.flatten.length) ∧ Ch [] w w') := by
  obtain ⟨_A_aA, _C_aA, _e1_aA⟩ := _h_aA.val
  subst _e1_aA
  have _l_aA := _h_aA.len
  have _h_aA := _h_aA.here (by decide)
  obtain ⟨_A_saN, _C_saN, _e1_saN⟩ := _h_saN.val
  subst _e1_saN
  have _l_saN := _h_saN.len
  have _h_saN := _h_saN.here (by decide)
  have _rd_aN := _rd_aN.here (by decide)
  have _rl_aN := _rd_aN.1
  have E := Ch.refl [] w
  refine Ctr_of_W (N := 18) (vs0 := [(.agg #[(.int .i64 aS), (.slice _A_aA aA.length _C_aA), (.slice _A_saN saN.length _C_saN)]), (.int .i64 left)]) Try.func15 rfl rfl rfl ?_
  refine W_seq fun _K_1 _hK_1 => ?_
  refine W_region ?_
  refine WL_s rfl rfl ?_
  refine s_box rfl fun _b2 _w_2 _m2 _cw_2 _e2 => ?_
  have _cw_2z := _cw_2.size
  have E := E.trans _cw_2
  have _z2 := _m2.lt
  replace _m2 : Blk _w_2 _b2 25 [(.int .i64 aS), (.slice _A_aA aA.length _C_aA), (.slice _A_saN saN.length _C_saN)] := _m2
  refine WL_step rfl rfl (r_assign rfl) ?_
  refine WL_nil ?_
  refine thn_nrm (_hK_1 _ _ ?_)
  clear _hK_1
  refine W_seq fun _K_3 _hK_3 => ?_
  refine W_region ?_
  refine WL_step rfl rfl (r_fieldAddr fa25_1 rfl) ?_
  refine WL_step rfl rfl (r_loadAt _m2.at_ agg22 rfl rfl) ?_
  refine WL_step rfl rfl (r_move rfl) ?_
  refine WL_s rfl rfl ?_
  have _f_4 := (_h_aA.ch0 _cw_2)
  refine Step.call (r_call (xs := [.tmp 6, .tmp 7]) fk50 rfl) (c_laws_szBoolS _f_4 _ (by omega) (by omega)) fun _v8 _w_5 _q8 => ?_
  obtain ⟨rfl, _cw_5⟩ := _q8
  have _cw_5z := _cw_5.size
  have E := E.trans _cw_5
  refine WL_step rfl rfl (r_assign rfl) ?_
  refine WL_nil ?_
  refine thn_nrm (_hK_3 _ _ ?_)
  clear _hK_3
  refine W_seq fun _K_6 _hK_6 => ?_
  refine W_seq fun _K_7 _hK_7 => ?_
  refine W_region ?_
  refine WL_step rfl rfl (r_move rfl) ?_
  refine WL_step rfl rfl (r_lss rfl rfl) ?_
  refine WL_nil ?_
  refine thn_nrm (_hK_7 _ _ ?_)
  clear _hK_7
  refine W_cond rfl (fun _h10 => ?_) (fun _h10 => ?_)
  · have _h10 := bt_d _h10
    refine W_seq fun _K_8 _hK_8 => ?_
    refine W_region ?_
    refine WL_step rfl rfl (r_assign rfl) ?_
    refine WL_nil ?_
    refine thn_nrm (_hK_8 _ _ ?_)
    clear _hK_8
    refine W_ret (thn_ret ?_)
    clear _hK_6
    exact ret_intro [_] ⟨rfl, trivial⟩ ⟨congrArg (Value.int .i64) (by omega), E⟩
  · have _h10 := bf_d _h10
    refine W_skip ?_
    refine thn_nrm (_hK_6 _ _ ?_)
    clear _hK_6
    refine W_seq fun _K_9 _hK_9 => ?_
    refine W_region ?_
    refine WL_step rfl rfl (r_fieldAddr fa25_2 rfl) ?_
    have _f_10 := (_m2.ch0 _cw_5)
    refine WL_step rfl rfl (r_loadAt _f_10.at_ agg23 rfl rfl) ?_
    refine WL_step rfl rfl (r_move rfl) ?_
    refine WL_s rfl rfl ?_
    have _f_11 := ((_rd_aN.ch0 _cw_2).ch0 _cw_5)
    have _f_12 := ((_h_saN.ch0 _cw_2).ch0 _cw_5)
    refine Step.call (r_call (xs := [.tmp 12, .tmp 13]) fk51 rfl) (c_laws_szIntSS _f_12 _f_11 _ (by omega) (by omega)) fun _v14 _w_13 _q14 => ?_
    obtain ⟨rfl, _cw_13⟩ := _q14
    have _cw_13z := _cw_13.size
    have E := E.trans _cw_13
    refine WL_step rfl rfl (r_assign rfl) ?_
    refine WL_nil ?_
    refine thn_nrm (_hK_9 _ _ ?_)
    clear _hK_9
    refine W_seq fun _K_14 _hK_14 => ?_
    refine W_seq fun _K_15 _hK_15 => ?_
    refine W_region ?_
    refine WL_step rfl rfl (r_move rfl) ?_
    refine WL_step rfl rfl (r_lss rfl rfl) ?_
    refine WL_nil ?_
    refine thn_nrm (_hK_15 _ _ ?_)
    clear _hK_15
    refine W_cond rfl (fun _h16 => ?_) (fun _h16 => ?_)
    · have _h16 := bt_d _h16
      refine W_seq fun _K_16 _hK_16 => ?_
      refine W_region ?_
      refine WL_step rfl rfl (r_assign rfl) ?_
      refine WL_nil ?_
      refine thn_nrm (_hK_16 _ _ ?_)
      clear _hK_16
      refine W_ret (thn_ret ?_)
      clear _hK_14
      exact ret_intro [_] ⟨rfl, trivial⟩ ⟨congrArg (Value.int .i64) (by omega), E⟩
    · have _h16 := bf_d _h16
      refine W_skip ?_
      refine thn_nrm (_hK_14 _ _ ?_)
      clear _hK_14
      refine W_seq fun _K_17 _hK_17 => ?_
      refine W_region ?_
      refine WL_step rfl rfl (r_move rfl) ?_
      refine WL_step rfl rfl (r_assign rfl) ?_
      refine WL_nil ?_
      refine thn_nrm (_hK_17 _ _ ?_)
      clear _hK_17
      refine W_ret ?_
      exact ret_intro [_] ⟨rfl, trivial⟩ ⟨congrArg (Value.int .i64) (by omega), E⟩

/-- laws.toBoolS -/
theorem c_laws_toBoolS {w : World} {_B_a : Nat} {_v_a : Value} {a : List Bool} (_h_a : Ls bcs 1 w _B_a _v_a a) (hb : a.length ≤ 1048576) :
    Ctr Try.prog 53 #[_v_a] w (fun v w' => Ol bcs 4 1 w' v (a) ∧ Lo w.heap.size v ∧ Ch [] w w') := by
  obtain ⟨_A_a, _C_a, _e1_a⟩ := _h_a.val
  subst _e1_a
  have _l_a := _h_a.len
  have _h_a := _h_a.here (by decide)
  have E := Ch.refl [] w
  refine Ctr_of_W (N := 22) (vs0 := [(.slice _A_a a.length _C_a)]) Try.func53 rfl rfl rfl ?_
  refine W_seq fun _K_1 _hK_1 => ?_
  refine W_region ?_
  refine WL_step rfl rfl (r_assign rfl) ?_
  refine WL_nil ?_
  refine thn_nrm (_hK_1 _ _ ?_)
  clear _hK_1
  refine W_seq fun _K_2 _hK_2 => ?_
  refine W_region ?_
  refine WL_step rfl rfl (r_move rfl) ?_
  refine WL_step rfl rfl (r_len (by rw [el22]; rfl) rfl) ?_
  refine WL_s rfl rfl ?_
  refine s_make (cs := bcs) false el22 sz4 by4 zr4 bcs_len (by decide) rfl rfl (by omega) (by omega) fun _v7 _w_3 _q7 _lo7 _cw_3 => ?_
  have _cw_3z := _cw_3.size
  have E := E.trans _cw_3
  obtain ⟨_Av7, _Cv7, _ev7⟩ := _q7.val
  subst _ev7
  have _lv7 := _q7.len
  have _hiv7 := _q7.lt
  refine WL_step rfl rfl (r_assign rfl) ?_
  refine WL_nil ?_
  refine thn_nrm (_hK_2 _ _ ?_)
  clear _hK_2
  refine W_seq fun _K_4 _hK_4 => ?_
  refine W_seq fun _K_5 _hK_5 => ?_
  refine W_region ?_
  refine WL_step rfl rfl (r_assign rfl) ?_
  refine WL_nil ?_
  refine thn_nrm (_hK_5 _ _ ?_)
  clear _hK_5
  refine W_block ?_
  have _oi_6 : Ol bcs 4 1 _w_3 (.slice _Av7 ((List.replicate a.length false)).length _Cv7) (a.take 0 ++ List.replicate (a.length - 0) false) := by
    have hx := _q7
    simpa using hx
  refine W_loop (σ := Nat) (fun (k : Nat) => [(0, (.slice _A_a a.length _C_a)), (2, (.slice none 0 0)), (3, (.slice _Av7 ((List.replicate a.length false)).length _Cv7)), (4, (.int .i64 ((k : Nat) : Int))), (5, (.slice _A_a a.length _C_a)), (6, (.int .i64 ((a.length : Nat) : Int))), (7, (.slice _Av7 ((List.replicate a.length false)).length _Cv7))]) (fun (k : Nat) wx => Ch [] w wx ∧ _w_3.heap.size ≤ wx.heap.size ∧ (k ≤ a.length) ∧ Ol bcs 4 1 wx (.slice _Av7 ((List.replicate a.length false)).length _Cv7) (a.take k ++ List.replicate (a.length - k) false)) (fun (k : Nat) => a.length - k) 0 (Sub.cons rfl (Sub.cons rfl (Sub.cons rfl (Sub.cons rfl (Sub.cons rfl (Sub.cons rfl (Sub.cons rfl (Sub.nil _)))))))) ⟨E, (Nat.le_refl _), (by omega), _oi_6⟩ ?_
  rintro k _wr_7 ⟨E, _zz0, _hk, _o0_3⟩
  have _E0h := E
  have _E0hz := _E0h.size
  refine W_seq fun _K_8 _hK_8 => ?_
  refine W_seq fun _K_9 _hK_9 => ?_
  refine W_region ?_
  refine WL_step rfl rfl (r_move rfl) ?_
  refine WL_step rfl rfl (r_move rfl) ?_
  refine WL_step rfl rfl (r_len (by rw [el22]; rfl) rfl) ?_
  refine WL_step rfl rfl (r_lss rfl rfl) ?_
  refine WL_nil ?_
  refine thn_nrm (_hK_9 _ _ ?_)
  clear _hK_9
  refine W_cond rfl (fun _h11 => ?_) (fun _h11 => ?_)
  · have _h11 := bt_d _h11
    refine W_skip ?_
    refine thn_nrm (_hK_8 _ _ ?_)
    clear _hK_8
    refine W_seq fun _K_10 _hK_10 => ?_
    refine W_block ?_
    refine W_region ?_
    refine WL_step rfl rfl (r_move rfl) ?_
    refine WL_step rfl rfl (r_move rfl) ?_
    refine WL_step rfl rfl (r_move rfl) ?_
    refine WL_step rfl rfl (r_move rfl) ?_
    refine WL_s rfl rfl ?_
    have _f_11 := (_h_a.ch0 _E0h)
    refine (s_index _f_11 bcs_len el22 sz4 rfl rfl rfl (by omega) fun _p18 _y18 _hy18 _a18 => ?_)
    refine WL_step rfl rfl (r_loadAt0 _a18 agg4 rfl rfl) ?_
    refine WL_s rfl rfl ?_
    refine s_indexO (j := k) _o0_3 el22 sz4 rfl rfl rfl (by simp; omega) fun _g20 _o20 _cp20 _q20 => ?_
    refine WL_s rfl rfl ?_
    refine s_storeO (j := k) _y18 _o0_3 _q20 bcs_len sz4 rfl rfl rfl rfl (by simp; omega) fun _w_12 _o_13 _cw_12 => ?_
    have _cw_12z := _cw_12.size
    have E := E.step _cw_12 (fun i hi => .inl (by have _h1 := _lo7 _ hi; omega))
    refine WL_nil ?_
    refine inB_nrm ?_
    refine thn_nrm (_hK_10 _ _ ?_)
    clear _hK_10
    refine W_region ?_
    refine WL_step rfl rfl (r_move rfl) ?_
    refine WL_step rfl rfl (r_add (by omega) rfl rfl) ?_
    refine WL_step rfl rfl (r_assign rfl) ?_
    refine WL_nil ?_
    have _on_14 : Ol bcs 4 1 _w_12 (.slice _Av7 ((List.replicate a.length false)).length _Cv7) (a.take (k + 1) ++ List.replicate (a.length - (k + 1)) false) := by
      have hx := _o_13
      rwa [fill_step a false _hy18] at hx
    exact thn_nrm (Exists.intro (k + 1) ⟨⟨E, (by omega), (by omega), _on_14⟩, Sub.cons rfl (Sub.cons rfl (Sub.cons rfl (Sub.cons rfl (Sub.cons rfl (Sub.cons rfl (Sub.cons rfl (Sub.nil _))))))), (by first | omega | (dsimp only; omega))⟩)
  · have _h11 := bf_d _h11
    refine W_exit (thn_exit (thn_exit (inB_hit ?_)))
    refine thn_nrm (_hK_4 _ _ ?_)
    clear _hK_4
    refine W_seq fun _K_15 _hK_15 => ?_
    refine W_region ?_
    refine WL_step rfl rfl (r_move rfl) ?_
    refine WL_step rfl rfl (r_assign rfl) ?_
    refine WL_nil ?_
    refine thn_nrm (_hK_15 _ _ ?_)
    clear _hK_15
    refine W_ret ?_
    clear _hK_8
    have _o_16 : Ol bcs 4 1 _wr_7 (.slice _Av7 ((List.replicate a.length false)).length _Cv7) (a) := by
      have hx := _o0_3
      simpa [List.take_of_length_le (show a.length ≤ k by omega), show a.length - k = 0 by omega] using hx
    exact ret_intro [_] ⟨rfl, trivial⟩ ⟨_o_16, Lo.down _lo7 (by omega), E⟩

/-- laws.toIntS -/
theorem c_laws_toIntS {w : World} {_B_a : Nat} {_v_a : Value} {a : List Int} (_h_a : Ls ics 1 w _B_a _v_a a) (hb : a.length ≤ 1048576) :
    Ctr Try.prog 25 #[_v_a] w (fun v w' => Ol ics 3 1 w' v (a) ∧ Lo w.heap.size v ∧ Ch [] w w') := by
  obtain ⟨_A_a, _C_a, _e1_a⟩ := _h_a.val
  subst _e1_a
  have _l_a := _h_a.len
  have _h_a := _h_a.here (by decide)
  have E := Ch.refl [] w
  refine Ctr_of_W (N := 22) (vs0 := [(.slice _A_a a.length _C_a)]) Try.func25 rfl rfl rfl ?_
  refine W_seq fun _K_1 _hK_1 => ?_
  refine W_region ?_
  refine WL_step rfl rfl (r_assign rfl) ?_
  refine WL_nil ?_
  refine thn_nrm (_hK_1 _ _ ?_)
  clear _hK_1
  refine W_seq fun _K_2 _hK_2 => ?_
  refine W_region ?_
  refine WL_step rfl rfl (r_move rfl) ?_
  refine WL_step rfl rfl (r_len (by rw [el35]; rfl) rfl) ?_
  refine WL_s rfl rfl ?_
  refine s_make (cs := ics) (0 : Int) el35 sz3 by3 zr3 ics_len (by decide) rfl rfl (by omega) (by omega) fun _v7 _w_3 _q7 _lo7 _cw_3 => ?_
  have _cw_3z := _cw_3.size
  have E := E.trans _cw_3
  obtain ⟨_Av7, _Cv7, _ev7⟩ := _q7.val
  subst _ev7
  have _lv7 := _q7.len
  have _hiv7 := _q7.lt
  refine WL_step rfl rfl (r_assign rfl) ?_
  refine WL_nil ?_
  refine thn_nrm (_hK_2 _ _ ?_)
  clear _hK_2
  refine W_seq fun _K_4 _hK_4 => ?_
  refine W_seq fun _K_5 _hK_5 => ?_
  refine W_region ?_
  refine WL_step rfl rfl (r_assign rfl) ?_
  refine WL_nil ?_
  refine thn_nrm (_hK_5 _ _ ?_)
  clear _hK_5
  refine W_block ?_
  have _oi_6 : Ol ics 3 1 _w_3 (.slice _Av7 ((List.replicate a.length (0 : Int))).length _Cv7) (a.take 0 ++ List.replicate (a.length - 0) (0 : Int)) := by
    have hx := _q7
    simpa using hx
  refine W_loop (σ := Nat) (fun (k : Nat) => [(0, (.slice _A_a a.length _C_a)), (2, (.slice none 0 0)), (3, (.slice _Av7 ((List.replicate a.length (0 : Int))).length _Cv7)), (4, (.int .i64 ((k : Nat) : Int))), (5, (.slice _A_a a.length _C_a)), (6, (.int .i64 ((a.length : Nat) : Int))), (7, (.slice _Av7 ((List.replicate a.length (0 : Int))).length _Cv7))]) (fun (k : Nat) wx => Ch [] w wx ∧ _w_3.heap.size ≤ wx.heap.size ∧ (k ≤ a.length) ∧ Ol ics 3 1 wx (.slice _Av7 ((List.replicate a.length (0 : Int))).length _Cv7) (a.take k ++ List.replicate (a.length - k) (0 : Int))) (fun (k : Nat) => a.length - k) 0 (Sub.cons rfl (Sub.cons rfl (Sub.cons rfl (Sub.cons rfl (Sub.cons rfl (Sub.cons rfl (Sub.cons rfl (Sub.nil _)))))))) ⟨E, (Nat.le_refl _), (by omega), _oi_6⟩ ?_
  rintro k _wr_7 ⟨E, _zz0, _hk, _o0_3⟩
  have _E0h := E
  have _E0hz := _E0h.size
  refine W_seq fun _K_8 _hK_8 => ?_
  refine W_seq fun _K_9 _hK_9 => ?_
  refine W_region ?_
  refine WL_step rfl rfl (r_move rfl) ?_
  refine WL_step rfl rfl (r_move rfl) ?_
  refine WL_step rfl rfl (r_len (by rw [el35]; rfl) rfl) ?_
  refine WL_step rfl rfl (r_lss rfl rfl) ?_
  refine WL_nil ?_
  refine thn_nrm (_hK_9 _ _ ?_)
  clear _hK_9
  refine W_cond rfl (fun _h11 => ?_) (fun _h11 => ?_)
  · have _h11 := bt_d _h11
    refine W_skip ?_
    refine thn_nrm (_hK_8 _ _ ?_)
    clear _hK_8
    refine W_seq fun _K_10 _hK_10 => ?_
    refine W_block ?_
    refine W_region ?_
    refine WL_step rfl rfl (r_move rfl) ?_
    refine WL_step rfl rfl (r_move rfl) ?_
    refine WL_step rfl rfl (r_move rfl) ?_
    refine WL_step rfl rfl (r_move rfl) ?_
    refine WL_s rfl rfl ?_
    have _f_11 := (_h_a.ch0 _E0h)
    refine (s_index _f_11 ics_len el35 sz3 rfl rfl rfl (by omega) fun _p18 _y18 _hy18 _a18 => ?_)
    refine WL_step rfl rfl (r_loadAt0 _a18 agg3 rfl rfl) ?_
    refine WL_s rfl rfl ?_
    refine s_indexO (j := k) _o0_3 el35 sz3 rfl rfl rfl (by simp; omega) fun _g20 _o20 _cp20 _q20 => ?_
    refine WL_s rfl rfl ?_
    refine s_storeO (j := k) _y18 _o0_3 _q20 ics_len sz3 rfl rfl rfl rfl (by simp; omega) fun _w_12 _o_13 _cw_12 => ?_
    have _cw_12z := _cw_12.size
    have E := E.step _cw_12 (fun i hi => .inl (by have _h1 := _lo7 _ hi; omega))
    refine WL_nil ?_
    refine inB_nrm ?_
    refine thn_nrm (_hK_10 _ _ ?_)
    clear _hK_10
    refine W_region ?_
    refine WL_step rfl rfl (r_move rfl) ?_
    refine WL_step rfl rfl (r_add (by omega) rfl rfl) ?_
    refine WL_step rfl rfl (r_assign rfl) ?_
    refine WL_nil ?_
    have _on_14 : Ol ics 3 1 _w_12 (.slice _Av7 ((List.replicate a.length (0 : Int))).length _Cv7) (a.take (k + 1) ++ List.replicate (a.length - (k + 1)) (0 : Int)) := by
      have hx := _o_13
      rwa [fill_step a (0 : Int) _hy18] at hx
    exact thn_nrm (Exists.intro (k + 1) ⟨⟨E, (by omega), (by omega), _on_14⟩, Sub.cons rfl (Sub.cons rfl (Sub.cons rfl (Sub.cons rfl (Sub.cons rfl (Sub.cons rfl (Sub.cons rfl (Sub.nil _))))))), (by first | omega | (dsimp only; omega))⟩)
  · have _h11 := bf_d _h11
    refine W_exit (thn_exit (thn_exit (inB_hit ?_)))
    refine thn_nrm (_hK_4 _ _ ?_)
    clear _hK_4
    refine W_seq fun _K_15 _hK_15 => ?_
    refine W_region ?_
    refine WL_step rfl rfl (r_move rfl) ?_
    refine WL_step rfl rfl (r_assign rfl) ?_
    refine WL_nil ?_
    refine thn_nrm (_hK_15 _ _ ?_)
    clear _hK_15
    refine W_ret ?_
    clear _hK_8
    have _o_16 : Ol ics 3 1 _wr_7 (.slice _Av7 ((List.replicate a.length (0 : Int))).length _Cv7) (a) := by
      have hx := _o0_3
      simpa [List.take_of_length_le (show a.length ≤ k by omega), show a.length - k = 0 by omega] using hx
    exact ret_intro [_] ⟨rfl, trivial⟩ ⟨_o_16, Lo.down _lo7 (by omega), E⟩

/-- laws.toIntSS -/
theorem c_laws_toIntSS {w : World} {_B_sa : Nat} {_v_sa : Value} {sa : List Sv} (_h_sa : Ls Sv.cs 1 w _B_sa _v_sa sa) {BB_a : Nat} {a : List (List Int)} (_rd_a : Rd ics 1 w BB_a sa a) (hb : a.length + a.flatten.length ≤ 1048576) :
    Ctr Try.prog 54 #[_v_sa] w (fun v w' => ∃ vs, Ol Sv.cs 35 1 w' v vs ∧ Lo w.heap.size v ∧ Od ics 3 1 w' w.heap.size w'.heap.size vs (a) ∧ Ch [] w w') := by
  obtain ⟨_A_sa, _C_sa, _e1_sa⟩ := _h_sa.val
  subst _e1_sa
  have _l_sa := _h_sa.len
  have _h_sa := _h_sa.here (by decide)
  have _rd_a := _rd_a.here (by decide)
  have _rl_a := _rd_a.1
  have E := Ch.refl [] w
  refine Ctr_of_W (N := 23) (vs0 := [(.slice _A_sa sa.length _C_sa)]) Try.func54 rfl rfl rfl ?_
  refine W_seq fun _K_1 _hK_1 => ?_
  refine W_region ?_
  refine WL_step rfl rfl (r_assign rfl) ?_
  refine WL_nil ?_
  refine thn_nrm (_hK_1 _ _ ?_)
  clear _hK_1
  refine W_seq fun _K_2 _hK_2 => ?_
  refine W_region ?_
  refine WL_step rfl rfl (r_move rfl) ?_
  refine WL_step rfl rfl (r_len (by rw [el23]; rfl) rfl) ?_
  refine WL_s rfl rfl ?_
  refine s_make (cs := Sv.cs) (⟨none, 0, 0⟩ : Sv) el23 sz35 by35 zr35 Sv.len (by decide) rfl rfl (by omega) (by omega) fun _v7 _w_3 _q7 _lo7 _cw_3 => ?_
  have _cw_3z := _cw_3.size
  have E := E.trans _cw_3
  obtain ⟨_Av7, _Cv7, _ev7⟩ := _q7.val
  subst _ev7
  have _lv7 := _q7.len
  have _hiv7 := _q7.lt
  refine WL_step rfl rfl (r_assign rfl) ?_
  refine WL_nil ?_
  refine thn_nrm (_hK_2 _ _ ?_)
  clear _hK_2
  refine W_seq fun _K_4 _hK_4 => ?_
  refine W_seq fun _K_5 _hK_5 => ?_
  refine W_region ?_
  refine WL_step rfl rfl (r_assign rfl) ?_
  refine WL_nil ?_
  refine thn_nrm (_hK_5 _ _ ?_)
  clear _hK_5
  refine W_block ?_
  have _oi_6 : Ol Sv.cs 35 1 _w_3 (.slice _Av7 ((List.replicate sa.length (⟨none, 0, 0⟩ : Sv))).length _Cv7) (([] : List Sv) ++ List.replicate (a.length - 0) (⟨none, 0, 0⟩ : Sv)) := by
    have hx := _q7
    simpa [_rl_a] using hx
  refine W_loop (σ := Nat × List Sv) (fun ⟨k, vs⟩ => [(0, (.slice _A_sa sa.length _C_sa)), (2, (.slice none 0 0)), (3, (.slice _Av7 ((List.replicate sa.length (⟨none, 0, 0⟩ : Sv))).length _Cv7)), (4, (.int .i64 ((k : Nat) : Int))), (5, (.slice _A_sa sa.length _C_sa)), (6, (.int .i64 ((sa.length : Nat) : Int))), (7, (.slice _Av7 ((List.replicate sa.length (⟨none, 0, 0⟩ : Sv))).length _Cv7))]) (fun ⟨k, vs⟩ wx => Ch [] w wx ∧ _w_3.heap.size ≤ wx.heap.size ∧ (k ≤ a.length) ∧ (vs.length = k) ∧ Ol Sv.cs 35 1 wx (.slice _Av7 ((List.replicate sa.length (⟨none, 0, 0⟩ : Sv))).length _Cv7) (vs ++ List.replicate (a.length - k) (⟨none, 0, 0⟩ : Sv)) ∧ Od ics 3 1 wx _w_3.heap.size wx.heap.size vs (a.take k)) (fun ⟨k, vs⟩ => a.length - k) (0, ([] : List Sv)) (Sub.cons rfl (Sub.cons rfl (Sub.cons rfl (Sub.cons rfl (Sub.cons rfl (Sub.cons rfl (Sub.cons rfl (Sub.nil _)))))))) ⟨E, (Nat.le_refl _), (by omega), rfl, _oi_6, Od.nil⟩ ?_
  rintro ⟨k, vs⟩ _wr_7 ⟨E, _zz0, _hk, hv, _o0_3, od⟩
  have _E0h := E
  have _E0hz := _E0h.size
  refine W_seq fun _K_8 _hK_8 => ?_
  refine W_seq fun _K_9 _hK_9 => ?_
  refine W_region ?_
  refine WL_step rfl rfl (r_move rfl) ?_
  refine WL_step rfl rfl (r_move rfl) ?_
  refine WL_step rfl rfl (r_len (by rw [el23]; rfl) rfl) ?_
  refine WL_step rfl rfl (r_lss rfl rfl) ?_
  refine WL_nil ?_
  refine thn_nrm (_hK_9 _ _ ?_)
  clear _hK_9
  refine W_cond rfl (fun _h11 => ?_) (fun _h11 => ?_)
  · have _h11 := bt_d _h11
    refine W_skip ?_
    refine thn_nrm (_hK_8 _ _ ?_)
    clear _hK_8
    refine W_seq fun _K_10 _hK_10 => ?_
    refine W_block ?_
    refine W_region ?_
    refine WL_step rfl rfl (r_move rfl) ?_
    refine WL_step rfl rfl (r_move rfl) ?_
    refine WL_step rfl rfl (r_move rfl) ?_
    refine WL_step rfl rfl (r_move rfl) ?_
    refine WL_s rfl rfl ?_
    have _f_11 := (_h_sa.ch0 _E0h)
    refine (s_index _f_11 Sv.len el23 sz35 rfl rfl rfl (by omega) fun _p18 _y18 _hy18 _a18 => ?_)
    have _f_12 := (_rd_a.ch0 _E0h)
    obtain ⟨_ys18, _hys18, _fs18⟩ := _f_12.get _hy18
    obtain ⟨_A18, _n18, _C18⟩ := _y18
    obtain rfl := _fs18.eqn
    have _l18 := _fs18.len
    replace _fs18 : Ls ics 1 _wr_7 w.heap.size (.slice _A18 _ys18.length _C18) _ys18 := _fs18
    replace _a18 : At _wr_7 w.heap.size _p18 ([(.slice _A18 _ys18.length _C18)]) := _a18
    refine WL_step rfl rfl (r_loadAt0 _a18 agg35 rfl rfl) ?_
    refine WL_s rfl rfl ?_
    refine Step.call (r_call (xs := [.tmp 19]) fk25 rfl) (c_laws_toIntS _fs18 (by have _h9 := fl_le _hys18; omega)) fun _v20 _w_13 _q20 => ?_
    obtain ⟨_q20, _lo20, _cw_13⟩ := _q20
    have _cw_13z := _cw_13.size
    have E := E.trans _cw_13
    obtain ⟨_Av20, _Cv20, _ev20⟩ := _q20.val
    subst _ev20
    have _lv20 := _q20.len
    have _hiv20 := _q20.lt
    refine WL_s rfl rfl ?_
    have _f_14 := (_o0_3.ch0 _cw_13)
    refine s_indexO (j := k) _f_14 el23 sz35 rfl rfl rfl (by simp; omega) fun _g21 _o21 _cp21 _q21 => ?_
    refine WL_s rfl rfl ?_
    refine s_storeO (j := k) (⟨_Av20, (_ys18).length, _Cv20⟩ : Sv) _f_14 _q21 Sv.len sz35 rfl rfl rfl rfl (by simp; omega) fun _w_15 _o_16 _cw_15 => ?_
    have _cw_15z := _cw_15.size
    have E := E.step _cw_15 (fun i hi => .inl (by have _h1 := _lo7 _ hi; omega))
    refine WL_nil ?_
    refine inB_nrm ?_
    refine thn_nrm (_hK_10 _ _ ?_)
    clear _hK_10
    refine W_region ?_
    refine WL_step rfl rfl (r_move rfl) ?_
    refine WL_step rfl rfl (r_add (by omega) rfl rfl) ?_
    refine WL_step rfl rfl (r_assign rfl) ?_
    refine WL_nil ?_
    have _on_17 : Ol Sv.cs 35 1 _w_15 (.slice _Av7 ((List.replicate sa.length (⟨none, 0, 0⟩ : Sv))).length _Cv7) ((vs ++ [(⟨_Av20, (_ys18).length, _Cv20⟩ : Sv)]) ++ List.replicate (a.length - (k + 1)) (⟨none, 0, 0⟩ : Sv)) := by
      have hx := _o_16
      rwa [fill_sv hv (by omega)] at hx
    have _f_18 := ((od.ch0 _cw_13).ch _cw_15 (fun i hm => by have _h1 := _lo7 _ hm; have _h2 := _hiv7 _ hm; omega))
    have _f_19 := (_q20.ch _cw_15 (fun g hg hm => by have _h1 := _lo7 _ hm; have _h2 := _hiv7 _ hm; have _h3 := _lo20 _ hg; have _h4 := _hiv20 _ hg; omega))
    exact thn_nrm (Exists.intro ((k + 1), (vs ++ [(⟨_Av20, (_ys18).length, _Cv20⟩ : Sv)])) ⟨⟨E, (by omega), (by omega), (by simp [hv]), _on_17, (by rw [take_snoc _hys18]; exact Od.snoc _f_18 _f_19 (Lo.down _lo20 (by omega)) (fun g hg => by have _h1 := _hiv20 g hg; omega) (by omega) (by omega))⟩, Sub.cons rfl (Sub.cons rfl (Sub.cons rfl (Sub.cons rfl (Sub.cons rfl (Sub.cons rfl (Sub.cons rfl (Sub.nil _))))))), (by first | omega | (dsimp only; omega))⟩)
  · have _h11 := bf_d _h11
    refine W_exit (thn_exit (thn_exit (inB_hit ?_)))
    refine thn_nrm (_hK_4 _ _ ?_)
    clear _hK_4
    refine W_seq fun _K_20 _hK_20 => ?_
    refine W_region ?_
    refine WL_step rfl rfl (r_move rfl) ?_
    refine WL_step rfl rfl (r_assign rfl) ?_
    refine WL_nil ?_
    refine thn_nrm (_hK_20 _ _ ?_)
    clear _hK_20
    refine W_ret ?_
    clear _hK_8
    have _o_21 : Ol Sv.cs 35 1 _wr_7 (.slice _Av7 ((List.replicate sa.length (⟨none, 0, 0⟩ : Sv))).length _Cv7) vs := by
      have hx := _o0_3
      simpa [show a.length - k = 0 by omega, show sa.length - k = 0 by omega] using hx
    have _o_22 : Od ics 3 1 _wr_7 w.heap.size _wr_7.heap.size vs (a) := by
      have hx := od.up (lo' := w.heap.size) (hi' := _wr_7.heap.size) (by omega) (by omega)
      rwa [List.take_of_length_le (by omega)] at hx
    exact ret_intro [_] ⟨rfl, trivial⟩ ⟨vs, _o_21, (Lo.down _lo7 (by omega)), _o_22, E⟩

/-- laws.toAutomaton -/
theorem c_laws_toAutomaton {w : World} (aS : Int) {_B_aA : Nat} {_v_aA : Value} {aA : List Bool} (_h_aA : Ls bcs 1 w _B_aA _v_aA aA) {_B_saN : Nat} {_v_saN : Value} {saN : List Sv} (_h_saN : Ls Sv.cs 1 w _B_saN _v_saN saN) {BB_aN : Nat} {aN : List (List Int)} (_rd_aN : Rd ics 1 w BB_aN saN aN) (hb : aA.length + aN.length + aN.flatten.length ≤ 1048576) :
    Ctr Try.prog 17 #[(.agg #[(.int .i64 aS), _v_aA, _v_saN])] w (fun v w' => ∃ _u1 _u2 vs, v = .agg #[.int .i64 (aS), _u1, _u2] ∧ Ol bcs 4 1 w' _u1 (aA) ∧ Lo w.heap.size _u1 ∧ Ol Sv.cs 35 1 w' _u2 vs ∧ Lo w.heap.size _u2 ∧ Od ics 3 1 w' w.heap.size w'.heap.size vs (aN) ∧ Ch [] w w') := by
  obtain ⟨_A_aA, _C_aA, _e1_aA⟩ := _h_aA.val
  subst _e1_aA
  have _l_aA := _h_aA.len
  have _h_aA := _h_aA.here (by decide)
  obtain ⟨_A_saN, _C_saN, _e1_saN⟩ := _h_saN.val
  subst _e1_saN
  have _l_saN := _h_saN.len
  have _h_saN := _h_saN.here (by decide)
  have _rd_aN := _rd_aN.here (by decide)
  have _rl_aN := _rd_aN.1
  have E := Ch.refl [] w
  refine Ctr_of_W (N := 16) (vs0 := [(.agg #[(.int .i64 aS), (.slice _A_aA aA.length _C_aA), (.slice _A_saN saN.length _C_saN)])]) Try.func17 rfl rfl rfl ?_
  refine W_seq fun _K_1 _hK_1 => ?_
  refine W_region ?_
  refine WL_s rfl rfl ?_
  refine s_box rfl fun _b1 _w_2 _m1 _cw_2 _e1 => ?_
  have _cw_2z := _cw_2.size
  have E := E.trans _cw_2
  have _z1 := _m1.lt
  replace _m1 : Blk _w_2 _b1 25 [(.int .i64 aS), (.slice _A_aA aA.length _C_aA), (.slice _A_saN saN.length _C_saN)] := _m1
  refine WL_s rfl rfl ?_
  refine s_alloc zr28 fun _b2 _w_3 _m2 _cw_3 _e2 => ?_
  have _cw_3z := _cw_3.size
  have E := E.trans _cw_3
  have _z2 := _m2.lt
  replace _m2 : Blk _w_3 _b2 28 [(.int .i64 0), (.slice none 0 0), (.slice none 0 0)] := _m2
  refine WL_nil ?_
  refine thn_nrm (_hK_1 _ _ ?_)
  clear _hK_1
  refine W_seq fun _K_4 _hK_4 => ?_
  refine W_region ?_
  refine WL_s rfl rfl ?_
  refine s_alloc zr28 fun _b3 _w_5 _m3 _cw_5 _e3 => ?_
  have _cw_5z := _cw_5.size
  have E := E.trans _cw_5
  have _z3 := _m3.lt
  replace _m3 : Blk _w_5 _b3 28 [(.int .i64 0), (.slice none 0 0), (.slice none 0 0)] := _m3
  refine WL_nil ?_
  refine thn_nrm (_hK_4 _ _ ?_)
  clear _hK_4
  refine W_seq fun _K_6 _hK_6 => ?_
  refine W_region ?_
  refine WL_step rfl rfl (r_fieldAddr fa25_0 rfl) ?_
  have _f_7 := ((_m1.ch0 _cw_3).ch0 _cw_5)
  refine WL_step rfl rfl (r_loadAt _f_7.at_ agg3 rfl rfl) ?_
  refine WL_step rfl rfl (r_fieldAddr fa28_0 rfl) ?_
  refine WL_s rfl rfl ?_
  refine s_store1 (off := 0) _m3 sz3 rfl rfl rfl rfl fun _w_8 _m_9 _cw_8 => ?_
  have _cw_8z := _cw_8.size
  have E := E.step _cw_8 (fun i hi => .inl (by have _h1 := List.mem_singleton.1 hi; omega))
  replace _m_9 : Blk _w_8 _b3 28 [(.int .i64 aS), (.slice none 0 0), (.slice none 0 0)] := _m_9
  refine WL_nil ?_
  refine thn_nrm (_hK_6 _ _ ?_)
  clear _hK_6
  refine W_seq fun _K_10 _hK_10 => ?_
  refine W_region ?_
  refine WL_step rfl rfl (r_fieldAddr fa25_1 rfl) ?_
  have _f_11 := (_f_7.ch _cw_8 (fun hm => by have _h1 := List.mem_singleton.1 hm; omega))
  refine WL_step rfl rfl (r_loadAt _f_11.at_ agg22 rfl rfl) ?_
  refine WL_s rfl rfl ?_
  have _f_12 := ((((_h_aA.ch0 _cw_2).ch0 _cw_3).ch0 _cw_5).ch _cw_8 (fun i hi => by have _h1 := List.mem_singleton.1 hi; omega))
  refine Step.call (r_call (xs := [.tmp 8]) fk53 rfl) (c_laws_toBoolS _f_12 (by omega)) fun _v9 _w_13 _q9 => ?_
  obtain ⟨_q9, _lo9, _cw_13⟩ := _q9
  have _cw_13z := _cw_13.size
  have E := E.trans _cw_13
  obtain ⟨_Av9, _Cv9, _ev9⟩ := _q9.val
  subst _ev9
  have _lv9 := _q9.len
  have _hiv9 := _q9.lt
  refine WL_step rfl rfl (r_fieldAddr fa28_1 rfl) ?_
  refine WL_s rfl rfl ?_
  have _f_14 := (_m_9.ch0 _cw_13)
  refine s_store1 (off := 1) _f_14 sz22 rfl rfl rfl rfl fun _w_15 _m_16 _cw_15 => ?_
  have _cw_15z := _cw_15.size
  have E := E.step _cw_15 (fun i hi => .inl (by have _h1 := List.mem_singleton.1 hi; omega))
  replace _m_16 : Blk _w_15 _b3 28 [(.int .i64 aS), (.slice _Av9 (aA).length _Cv9), (.slice none 0 0)] := _m_16
  refine WL_nil ?_
  refine thn_nrm (_hK_10 _ _ ?_)
  clear _hK_10
  refine W_seq fun _K_17 _hK_17 => ?_
  refine W_region ?_
  refine WL_step rfl rfl (r_fieldAddr fa25_2 rfl) ?_
  have _f_18 := ((_f_11.ch0 _cw_13).ch _cw_15 (fun hm => by have _h1 := List.mem_singleton.1 hm; omega))
  refine WL_step rfl rfl (r_loadAt _f_18.at_ agg23 rfl rfl) ?_
  refine WL_s rfl rfl ?_
  have _f_19 := ((((((_rd_aN.ch0 _cw_2).ch0 _cw_3).ch0 _cw_5).ch _cw_8 (fun i hi => by have _h1 := List.mem_singleton.1 hi; omega)).ch0 _cw_13).ch _cw_15 (fun i hi => by have _h1 := List.mem_singleton.1 hi; omega))
  have _f_20 := ((((((_h_saN.ch0 _cw_2).ch0 _cw_3).ch0 _cw_5).ch _cw_8 (fun i hi => by have _h1 := List.mem_singleton.1 hi; omega)).ch0 _cw_13).ch _cw_15 (fun i hi => by have _h1 := List.mem_singleton.1 hi; omega))
  refine Step.call (r_call (xs := [.tmp 12]) fk54 rfl) (c_laws_toIntSS _f_20 _f_19 (by omega)) fun _v13 _w_21 _q13 => ?_
  obtain ⟨vs13, _q213, _lo213, od13, _cw_21⟩ := _q13
  have _cw_21z := _cw_21.size
  have E := E.trans _cw_21
  obtain ⟨_Av13, _Cv13, _ev13⟩ := _q213.val
  subst _ev13
  have _lv13 := _q213.len
  have _hiv13 := _q213.lt
  refine WL_step rfl rfl (r_fieldAddr fa28_2 rfl) ?_
  refine WL_s rfl rfl ?_
  have _f_22 := (_m_16.ch0 _cw_21)
  refine s_store1 (off := 2) _f_22 sz23 rfl rfl rfl rfl fun _w_23 _m_24 _cw_23 => ?_
  have _cw_23z := _cw_23.size
  have E := E.step _cw_23 (fun i hi => .inl (by have _h1 := List.mem_singleton.1 hi; omega))
  replace _m_24 : Blk _w_23 _b3 28 [(.int .i64 aS), (.slice _Av9 (aA).length _Cv9), (.slice _Av13 (vs13).length _Cv13)] := _m_24
  refine WL_nil ?_
  refine thn_nrm (_hK_17 _ _ ?_)
  clear _hK_17
  refine W_seq fun _K_25 _hK_25 => ?_
  refine W_region ?_
  refine WL_step rfl rfl (r_loadAtA0 _m_24.at_ agg28 sz28 rfl) ?_
  refine WL_s rfl rfl ?_
  have _f_26 := ((((((_m2.ch0 _cw_5).ch _cw_8 (fun hm => by have _h1 := List.mem_singleton.1 hm; omega)).ch0 _cw_13).ch _cw_15 (fun hm => by have _h1 := List.mem_singleton.1 hm; omega)).ch0 _cw_21).ch _cw_23 (fun hm => by have _h1 := List.mem_singleton.1 hm; omega))
  refine s_storeA (off := 0) 3 _f_26 sz28 rfl (us := [(.int .i64 aS), (.slice _Av9 (aA).length _Cv9), (.slice _Av13 (vs13).length _Cv13)]) rfl rfl rfl rfl fun _w_27 _m_28 _cw_27 => ?_
  have _cw_27z := _cw_27.size
  have E := E.step _cw_27 (fun i hi => .inl (by have _h1 := List.mem_singleton.1 hi; omega))
  replace _m_28 : Blk _w_27 _b2 28 [(.int .i64 aS), (.slice _Av9 (aA).length _Cv9), (.slice _Av13 (vs13).length _Cv13)] := _m_28
  refine WL_nil ?_
  refine thn_nrm (_hK_25 _ _ ?_)
  clear _hK_25
  refine W_ret ?_
  have _f_30 := ((((_q9.ch _cw_15 (fun g hg hm => by have _h0 := List.mem_singleton.1 hm; have _h2 := _lo9 _ hg; have _h3 := _hiv9 _ hg; omega)).ch0 _cw_21).ch _cw_23 (fun g hg hm => by have _h0 := List.mem_singleton.1 hm; have _h2 := _lo9 _ hg; have _h3 := _hiv9 _ hg; omega)).ch _cw_27 (fun g hg hm => by have _h0 := List.mem_singleton.1 hm; have _h2 := _lo9 _ hg; have _h3 := _hiv9 _ hg; omega))
  have _o_29 : Ol bcs 4 1 _w_27 (.slice _Av9 (aA).length _Cv9) (aA) := by
    have hx := _f_30
    simpa using hx
  have _f_33 := ((_q213.ch _cw_23 (fun g hg hm => by have _h0 := List.mem_singleton.1 hm; have _h2 := _lo213 _ hg; have _h3 := _hiv13 _ hg; omega)).ch _cw_27 (fun g hg hm => by have _h0 := List.mem_singleton.1 hm; have _h2 := _lo213 _ hg; have _h3 := _hiv13 _ hg; omega))
  have _f_34 := ((od13.ch _cw_23 (fun i hi => by have _h1 := List.mem_singleton.1 hi; omega)).ch _cw_27 (fun i hi => by have _h1 := List.mem_singleton.1 hi; omega))
  have _o_31 : Ol Sv.cs 35 1 _w_27 (.slice _Av13 (vs13).length _Cv13) vs13 := by
    have hx := _f_33
    exact hx
  have _o_32 : Od ics 3 1 _w_27 w.heap.size _w_27.heap.size vs13 (aN) := by
    have hx := _f_34.up (lo' := w.heap.size) (hi' := _w_27.heap.size) (by omega) (by omega)
    exact hx
  exact ret_intro [_] (resOf_loadA _m_28 rfl agg28 sz28 trivial) ⟨_, _, vs13, rfl, _o_29, Lo.down _lo9 (by omega), _o_31, (Lo.down _lo213 (by omega)), _o_32, E⟩

/-- spec.l1In -/
theorem c_spec_l1In {w : World} (n : Int) (a : Int) (b : Int) :
    Ctr Try.prog 58 #[(.int .i64 n), (.int .i64 a), (.int .i64 b)] w (fun v w' => v = .bool (decide (a ≤ n ∧ n ≤ b)) ∧ Ch [] w w') := by
  have E := Ch.refl [] w
  refine Ctr_of_W (N := 15) (vs0 := [(.int .i64 n), (.int .i64 a), (.int .i64 b)]) Try.func58 rfl rfl rfl ?_
  refine W_seq fun _K_1 _hK_1 => ?_
  refine W_region ?_
  refine WL_step rfl rfl (r_assign rfl) ?_
  refine WL_nil ?_
  refine thn_nrm (_hK_1 _ _ ?_)
  clear _hK_1
  refine W_seq fun _K_2 _hK_2 => ?_
  refine W_region ?_
  refine WL_step rfl rfl (r_move rfl) ?_
  refine WL_step rfl rfl (r_move rfl) ?_
  refine WL_step rfl rfl (r_geq rfl rfl) ?_
  refine WL_step rfl rfl (r_move rfl) ?_
  refine WL_split (d := 10) rfl (fun _h10 => ?_) (fun _h10 => ?_)
  · have _h10 := bt_d _h10
    refine WL_step rfl rfl (r_move rfl) ?_
    refine WL_step rfl rfl (r_move rfl) ?_
    refine WL_step rfl rfl (r_leq rfl rfl) ?_
    refine WL_step rfl rfl (r_pickT rfl rfl) ?_
    refine WL_step rfl rfl (r_assign rfl) ?_
    refine WL_nil ?_
    refine thn_nrm (_hK_2 _ _ ?_)
    clear _hK_2
    refine W_ret ?_
    exact ret_intro [_] ⟨rfl, trivial⟩ ⟨congrArg Value.bool (by first | rfl | (rw [Bool.eq_iff_iff]; simp <;> omega) | (rw [Bool.eq_iff_iff]; simp_all; done) | simp_all), E⟩
  · have _h10 := bf_d _h10
    refine WL_skip rfl rfl ?_
    refine WL_skip rfl rfl ?_
    refine WL_skip rfl rfl ?_
    refine WL_step rfl rfl (r_pickF rfl rfl) ?_
    refine WL_step rfl rfl (r_assign rfl) ?_
    refine WL_nil ?_
    refine thn_nrm (_hK_2 _ _ ?_)
    clear _hK_2
    refine W_ret ?_
    exact ret_intro [_] ⟨rfl, trivial⟩ ⟨congrArg Value.bool (by first | rfl | (rw [Bool.eq_iff_iff]; simp <;> omega) | (rw [Bool.eq_iff_iff]; simp_all; done) | simp_all), E⟩

/-- spec.l11Fits -/
theorem c_spec_l11Fits {w : World} (aS : Int) {_B_aA : Nat} {_v_aA : Value} {aA : List Bool} (_h_aA : Ls bcs 1 w _B_aA _v_aA aA) {_B_saN : Nat} {_v_saN : Value} {saN : List Sv} (_h_saN : Ls Sv.cs 1 w _B_saN _v_saN saN) {BB_aN : Nat} {aN : List (List Int)} (_rd_aN : Rd ics 1 w BB_aN saN aN) :
    Ctr Try.prog 52 #[(.agg #[(.int .i64 aS), _v_aA, _v_saN])] w (fun v w' => v = .bool (tt (FitsA aS aA aN)) ∧ Ch [] w w') := by
  obtain ⟨_A_aA, _C_aA, _e1_aA⟩ := _h_aA.val
  subst _e1_aA
  have _l_aA := _h_aA.len
  have _h_aA := _h_aA.here (by decide)
  obtain ⟨_A_saN, _C_saN, _e1_saN⟩ := _h_saN.val
  subst _e1_saN
  have _l_saN := _h_saN.len
  have _h_saN := _h_saN.here (by decide)
  have _rd_aN := _rd_aN.here (by decide)
  have _rl_aN := _rd_aN.1
  have E := Ch.refl [] w
  refine Ctr_of_W (N := 50) (vs0 := [(.agg #[(.int .i64 aS), (.slice _A_aA aA.length _C_aA), (.slice _A_saN saN.length _C_saN)])]) Try.func52 rfl rfl rfl ?_
  refine W_seq fun _K_1 _hK_1 => ?_
  refine W_region ?_
  refine WL_s rfl rfl ?_
  refine s_box rfl fun _b1 _w_2 _m1 _cw_2 _e1 => ?_
  have _cw_2z := _cw_2.size
  have E := E.trans _cw_2
  have _z1 := _m1.lt
  replace _m1 : Blk _w_2 _b1 28 [(.int .i64 aS), (.slice _A_aA aA.length _C_aA), (.slice _A_saN saN.length _C_saN)] := _m1
  refine WL_step rfl rfl (r_assign rfl) ?_
  refine WL_nil ?_
  refine thn_nrm (_hK_1 _ _ ?_)
  clear _hK_1
  refine W_seq fun _K_3 _hK_3 => ?_
  refine W_region ?_
  refine WL_step rfl rfl (r_fieldAddr fa28_1 rfl) ?_
  refine WL_step rfl rfl (r_loadAt _m1.at_ agg22 rfl rfl) ?_
  refine WL_step rfl rfl (r_len (by rw [el22]; rfl) rfl) ?_
  refine WL_step rfl rfl (r_assign rfl) ?_
  refine WL_nil ?_
  refine thn_nrm (_hK_3 _ _ ?_)
  clear _hK_3
  refine W_seq fun _K_4 _hK_4 => ?_
  refine W_seq fun _K_5 _hK_5 => ?_
  refine W_region ?_
  refine WL_step rfl rfl (r_fieldAddr fa28_0 rfl) ?_
  refine WL_step rfl rfl (r_loadAt _m1.at_ agg3 rfl rfl) ?_
  refine WL_step rfl rfl (r_move rfl) ?_
  refine WL_step rfl rfl (r_sub (by omega) rfl rfl) ?_
  refine WL_s rfl rfl ?_
  refine Step.call (r_call (xs := [.tmp 10, .const (Go.Value.int Go.IntKind.i64 0), .tmp 12]) fk58 rfl) (c_spec_l1In _ _ _ ) fun _v13 _w_6 _q13 => ?_
  obtain ⟨rfl, _cw_6⟩ := _q13
  have _cw_6z := _cw_6.size
  have E := E.trans _cw_6
  refine WL_step rfl rfl (r_not rfl) ?_
  refine WL_step rfl rfl (r_move rfl) ?_
  refine WL_split (d := 15) rfl (fun _h15 => ?_) (fun _h15 => ?_)
  · have _h15 := bf_d (bt_n _h15)
    refine WL_skip rfl rfl ?_
    refine WL_skip rfl rfl ?_
    refine WL_skip rfl rfl ?_
    refine WL_skip rfl rfl ?_
    refine WL_skip rfl rfl ?_
    refine WL_step rfl rfl (r_pickT rfl rfl) ?_
    refine WL_nil ?_
    refine thn_nrm (_hK_5 _ _ ?_)
    clear _hK_5
    refine W_condT rfl ?_
    refine W_seq fun _K_7 _hK_7 => ?_
    refine W_region ?_
    refine WL_step rfl rfl (r_assign rfl) ?_
    refine WL_nil ?_
    refine thn_nrm (_hK_7 _ _ ?_)
    clear _hK_7
    refine W_ret (thn_ret ?_)
    clear _hK_4
    exact ret_intro [_] ⟨rfl, trivial⟩ ⟨congrArg Value.bool (by first | exact tt_true ⟨_h15, by omega, rows_all _ht (by omega)⟩ | exact tt_false (fun e => _h15 e.1) | exact tt_false (fun e => _h21 (by have _h1 := e.2.1; omega)) | exact tt_false (fun e => _h49 (fits_el e _hys41 _hy44)) | exact tt_false (fun e => _h33 (by have _h1 := (fits_row e _hys30).1; omega))), E⟩
  · have _h15 := bt_d (bf_n _h15)
    refine WL_step rfl rfl (r_fieldAddr fa28_2 rfl) ?_
    have _f_8 := (_m1.ch0 _cw_6)
    refine WL_step rfl rfl (r_loadAt _f_8.at_ agg23 rfl rfl) ?_
    refine WL_step rfl rfl (r_len (by rw [el23]; rfl) rfl) ?_
    refine WL_step rfl rfl (r_move rfl) ?_
    refine WL_step rfl rfl (r_neq rfl rfl) ?_
    refine WL_step rfl rfl (r_pickF rfl rfl) ?_
    refine WL_nil ?_
    refine thn_nrm (_hK_5 _ _ ?_)
    clear _hK_5
    refine W_cond rfl (fun _h21 => ?_) (fun _h21 => ?_)
    · have _h21 := bf_d (bt_n _h21)
      refine W_seq fun _K_9 _hK_9 => ?_
      refine W_region ?_
      refine WL_step rfl rfl (r_assign rfl) ?_
      refine WL_nil ?_
      refine thn_nrm (_hK_9 _ _ ?_)
      clear _hK_9
      refine W_ret (thn_ret ?_)
      clear _hK_4
      exact ret_intro [_] ⟨rfl, trivial⟩ ⟨congrArg Value.bool (by first | exact tt_true ⟨_h15, by omega, rows_all _ht (by omega)⟩ | exact tt_false (fun e => _h15 e.1) | exact tt_false (fun e => _h21 (by have _h1 := e.2.1; omega)) | exact tt_false (fun e => _h49 (fits_el e _hys41 _hy44)) | exact tt_false (fun e => _h33 (by have _h1 := (fits_row e _hys30).1; omega))), E⟩
    · have _h21 := bt_d (bf_n _h21)
      refine W_skip ?_
      refine thn_nrm (_hK_4 _ _ ?_)
      clear _hK_4
      refine W_seq fun _K_10 _hK_10 => ?_
      refine W_seq fun _K_11 _hK_11 => ?_
      refine W_region ?_
      refine WL_step rfl rfl (r_assign rfl) ?_
      refine WL_nil ?_
      refine thn_nrm (_hK_11 _ _ ?_)
      clear _hK_11
      refine W_block ?_
      refine W_loop (σ := Nat) (fun (s : Nat) => [(0, (.agg #[(.int .i64 aS), (.slice _A_aA aA.length _C_aA), (.slice _A_saN saN.length _C_saN)])), (1, (.pointer (some ⟨_b1, 0, none⟩))), (3, (.int .i64 ((aA.length : Nat) : Int))), (4, (.int .i64 ((s : Nat) : Int))), (6, (.pointer (some (Addr.add ⟨_b1, 0, none⟩ 1)))), (7, (.slice _A_aA aA.length _C_aA)), (8, (.int .i64 ((aA.length : Nat) : Int))), (9, (.pointer (some (Addr.add ⟨_b1, 0, none⟩ 0)))), (10, (.int .i64 aS)), (11, (.int .i64 ((aA.length : Nat) : Int))), (12, (.int .i64 (((aA.length : Nat) : Int) - 1))), (13, (.bool (decide (0 ≤ aS ∧ aS ≤ (((aA.length : Nat) : Int) - 1))))), (14, (.bool (!(decide (0 ≤ aS ∧ aS ≤ (((aA.length : Nat) : Int) - 1)))))), (15, (.bool false)), (16, (.pointer (some (Addr.add ⟨_b1, 0, none⟩ 2)))), (17, (.slice _A_saN saN.length _C_saN)), (18, (.int .i64 ((saN.length : Nat) : Int))), (19, (.int .i64 ((aA.length : Nat) : Int))), (20, (.bool (!decide (((saN.length : Nat) : Int) = ((aA.length : Nat) : Int))))), (21, (.bool (!decide (((saN.length : Nat) : Int) = ((aA.length : Nat) : Int)))))]) (fun (s : Nat) wx => Ch [] w wx ∧ _w_6.heap.size ≤ wx.heap.size ∧ (s ≤ aN.length) ∧ (RowsP aA.length aN s) ∧ Blk wx _b1 28 [(.int .i64 aS), (.slice _A_aA aA.length _C_aA), (.slice _A_saN saN.length _C_saN)]) (fun (s : Nat) => aN.length - s) 0 (Sub.cons rfl (Sub.cons rfl (Sub.cons rfl (Sub.cons rfl (Sub.cons rfl (Sub.cons rfl (Sub.cons rfl (Sub.cons rfl (Sub.cons rfl (Sub.cons rfl (Sub.cons rfl (Sub.cons rfl (Sub.cons rfl (Sub.cons rfl (Sub.cons rfl (Sub.cons rfl (Sub.cons rfl (Sub.cons rfl (Sub.cons rfl (Sub.cons rfl (Sub.nil _))))))))))))))))))))) ⟨E, (Nat.le_refl _), (by omega), (rows_zero _ _), _f_8⟩ ?_
      rintro s _wr_12 ⟨E, _zz0, hs, _ht, _F0_3⟩
      have _E0h := E
      have _E0hz := _E0h.size
      have _F0_3z := _F0_3.lt
      refine W_seq fun _K_13 _hK_13 => ?_
      refine W_seq fun _K_14 _hK_14 => ?_
      refine W_region ?_
      refine WL_step rfl rfl (r_move rfl) ?_
      refine WL_step rfl rfl (r_move rfl) ?_
      refine WL_step rfl rfl (r_lss rfl rfl) ?_
      refine WL_nil ?_
      refine thn_nrm (_hK_14 _ _ ?_)
      clear _hK_14
      refine W_cond rfl (fun _h24 => ?_) (fun _h24 => ?_)
      · have _h24 := bt_d _h24
        refine W_skip ?_
        refine thn_nrm (_hK_13 _ _ ?_)
        clear _hK_13
        refine W_seq fun _K_15 _hK_15 => ?_
        refine W_block ?_
        refine W_seq fun _K_16 _hK_16 => ?_
        refine W_seq fun _K_17 _hK_17 => ?_
        refine W_region ?_
        refine WL_step rfl rfl (r_fieldAddr fa28_2 rfl) ?_
        refine WL_step rfl rfl (r_loadAt _F0_3.at_ agg23 rfl rfl) ?_
        refine WL_step rfl rfl (r_move rfl) ?_
        refine WL_s rfl rfl ?_
        have _f_18 := (_h_saN.ch0 _E0h)
        refine (s_index _f_18 Sv.len el23 sz35 rfl rfl rfl (by omega) fun _p30 _y30 _hy30 _a30 => ?_)
        have _f_19 := (_rd_aN.ch0 _E0h)
        obtain ⟨_ys30, _hys30, _fs30⟩ := _f_19.get _hy30
        obtain ⟨_A30, _n30, _C30⟩ := _y30
        obtain rfl := _fs30.eqn
        have _l30 := _fs30.len
        replace _fs30 : Ls ics 1 _wr_12 w.heap.size (.slice _A30 _ys30.length _C30) _ys30 := _fs30
        replace _a30 : At _wr_12 w.heap.size _p30 ([(.slice _A30 _ys30.length _C30)]) := _a30
        refine WL_step rfl rfl (r_loadAt0 _a30 agg35 rfl rfl) ?_
        refine WL_step rfl rfl (r_len (by rw [el35]; rfl) rfl) ?_
        refine WL_step rfl rfl (r_neq rfl rfl) ?_
        refine WL_nil ?_
        refine thn_nrm (_hK_17 _ _ ?_)
        clear _hK_17
        refine W_cond rfl (fun _h33 => ?_) (fun _h33 => ?_)
        · have _h33 := bf_d (bt_n _h33)
          refine W_seq fun _K_20 _hK_20 => ?_
          refine W_region ?_
          refine WL_step rfl rfl (r_assign rfl) ?_
          refine WL_nil ?_
          refine thn_nrm (_hK_20 _ _ ?_)
          clear _hK_20
          refine W_ret (thn_ret (inB_ret (thn_ret (thn_ret (inB_ret (thn_ret ?_))))))
          clear _hK_10 _hK_15 _hK_16
          exact ret_intro [_] ⟨rfl, trivial⟩ ⟨congrArg Value.bool (by first | exact tt_true ⟨_h15, by omega, rows_all _ht (by omega)⟩ | exact tt_false (fun e => _h15 e.1) | exact tt_false (fun e => _h21 (by have _h1 := e.2.1; omega)) | exact tt_false (fun e => _h49 (fits_el e _hys41 _hy44)) | exact tt_false (fun e => _h33 (by have _h1 := (fits_row e _hys30).1; omega))), E⟩
        · have _h33 := bt_d (bf_n _h33)
          refine W_skip ?_
          refine thn_nrm (_hK_16 _ _ ?_)
          clear _hK_16
          refine W_seq fun _K_21 _hK_21 => ?_
          refine W_region ?_
          refine WL_step rfl rfl (r_assign rfl) ?_
          refine WL_nil ?_
          refine thn_nrm (_hK_21 _ _ ?_)
          clear _hK_21
          refine W_block ?_
          refine W_loop (σ := Nat) (fun (k : Nat) => [(0, (.agg #[(.int .i64 aS), (.slice _A_aA aA.length _C_aA), (.slice _A_saN saN.length _C_saN)])), (1, (.pointer (some ⟨_b1, 0, none⟩))), (3, (.int .i64 ((aA.length : Nat) : Int))), (4, (.int .i64 ((s : Nat) : Int))), (5, (.int .i64 ((k : Nat) : Int))), (6, (.pointer (some (Addr.add ⟨_b1, 0, none⟩ 1)))), (7, (.slice _A_aA aA.length _C_aA)), (8, (.int .i64 ((aA.length : Nat) : Int))), (9, (.pointer (some (Addr.add ⟨_b1, 0, none⟩ 0)))), (10, (.int .i64 aS)), (11, (.int .i64 ((aA.length : Nat) : Int))), (12, (.int .i64 (((aA.length : Nat) : Int) - 1))), (13, (.bool (decide (0 ≤ aS ∧ aS ≤ (((aA.length : Nat) : Int) - 1))))), (14, (.bool (!(decide (0 ≤ aS ∧ aS ≤ (((aA.length : Nat) : Int) - 1)))))), (15, (.bool false)), (16, (.pointer (some (Addr.add ⟨_b1, 0, none⟩ 2)))), (17, (.slice _A_saN saN.length _C_saN)), (18, (.int .i64 ((saN.length : Nat) : Int))), (19, (.int .i64 ((aA.length : Nat) : Int))), (20, (.bool (!decide (((saN.length : Nat) : Int) = ((aA.length : Nat) : Int))))), (21, (.bool (!decide (((saN.length : Nat) : Int) = ((aA.length : Nat) : Int))))), (22, (.int .i64 ((s : Nat) : Int))), (23, (.int .i64 ((aA.length : Nat) : Int))), (24, (.bool (decide (((s : Nat) : Int) < ((aA.length : Nat) : Int))))), (27, (.pointer (some (Addr.add ⟨_b1, 0, none⟩ 2)))), (28, (.slice _A_saN saN.length _C_saN)), (29, (.int .i64 ((s : Nat) : Int))), (30, (.pointer (some _p30))), (31, (.slice _A30 _ys30.length _C30)), (32, (.int .i64 ((_ys30.length : Nat) : Int))), (33, (.bool (!decide (((_ys30.length : Nat) : Int) = 9))))]) (fun (k : Nat) wx => Ch [] w wx ∧ _wr_12.heap.size ≤ wx.heap.size ∧ (k ≤ 9) ∧ (RowP aA.length _ys30 k) ∧ Ls Sv.cs 1 wx w.heap.size (.slice _A_saN saN.length _C_saN) saN ∧ Rd ics 1 wx w.heap.size saN aN ∧ Blk wx _b1 28 [(.int .i64 aS), (.slice _A_aA aA.length _C_aA), (.slice _A_saN saN.length _C_saN)] ∧ At wx w.heap.size _p30 ([(.slice _A30 _ys30.length _C30)]) ∧ Ls ics 1 wx w.heap.size (.slice _A30 _ys30.length _C30) _ys30) (fun (k : Nat) => 9 - k) 0 (Sub.cons rfl (Sub.cons rfl (Sub.cons rfl (Sub.cons rfl (Sub.cons rfl (Sub.cons rfl (Sub.cons rfl (Sub.cons rfl (Sub.cons rfl (Sub.cons rfl (Sub.cons rfl (Sub.cons rfl (Sub.cons rfl (Sub.cons rfl (Sub.cons rfl (Sub.cons rfl (Sub.cons rfl (Sub.cons rfl (Sub.cons rfl (Sub.cons rfl (Sub.cons rfl (Sub.cons rfl (Sub.cons rfl (Sub.cons rfl (Sub.cons rfl (Sub.cons rfl (Sub.cons rfl (Sub.cons rfl (Sub.cons rfl (Sub.cons rfl (Sub.cons rfl (Sub.nil _)))))))))))))))))))))))))))))))) ⟨E, (Nat.le_refl _), (by omega), (rowp_zero _ _), _f_18, _f_19, _F0_3, _a30, _fs30⟩ ?_
          rintro k _wr_22 ⟨E, _zz1, _hk, hp, _F1_1, _F1_2, _F1_3, _F1_4, _F1_5⟩
          have _E1h := E
          have _E1hz := _E1h.size
          have _F1_3z := _F1_3.lt
          refine W_seq fun _K_23 _hK_23 => ?_
          refine W_seq fun _K_24 _hK_24 => ?_
          refine W_region ?_
          refine WL_step rfl rfl (r_move rfl) ?_
          refine WL_step rfl rfl (r_lss rfl rfl) ?_
          refine WL_nil ?_
          refine thn_nrm (_hK_24 _ _ ?_)
          clear _hK_24
          refine W_cond rfl (fun _h35 => ?_) (fun _h35 => ?_)
          · have _h35 := bt_d _h35
            refine W_skip ?_
            refine thn_nrm (_hK_23 _ _ ?_)
            clear _hK_23
            refine W_seq fun _K_25 _hK_25 => ?_
            refine W_block ?_
            refine W_seq fun _K_26 _hK_26 => ?_
            refine W_region ?_
            refine WL_step rfl rfl (r_fieldAddr fa28_2 rfl) ?_
            refine WL_step rfl rfl (r_loadAt _F1_3.at_ agg23 rfl rfl) ?_
            refine WL_step rfl rfl (r_move rfl) ?_
            refine WL_s rfl rfl ?_
            refine (s_index _F1_1 Sv.len el23 sz35 rfl rfl rfl (by omega) fun _p41 _y41 _hy41 _a41 => ?_)
            obtain ⟨_ys41, _hys41, _fs41⟩ := _F1_2.get _hy41
            obtain ⟨_A41, _n41, _C41⟩ := _y41
            obtain rfl := _fs41.eqn
            have _l41 := _fs41.len
            replace _fs41 : Ls ics 1 _wr_22 w.heap.size (.slice _A41 _ys41.length _C41) _ys41 := _fs41
            replace _a41 : At _wr_22 w.heap.size _p41 ([(.slice _A41 _ys41.length _C41)]) := _a41
            have _e41 := congrArg List.length (get_uniq _hys30 _hys41)
            refine WL_step rfl rfl (r_loadAt0 _a41 agg35 rfl rfl) ?_
            refine WL_step rfl rfl (r_move rfl) ?_
            refine WL_s rfl rfl ?_
            refine (s_index _fs41 ics_len el35 sz3 rfl rfl rfl (by omega) fun _p44 _y44 _hy44 _a44 => ?_)
            refine WL_step rfl rfl (r_loadAt0 _a44 agg3 rfl rfl) ?_
            refine WL_step rfl rfl (r_move rfl) ?_
            refine WL_step rfl rfl (r_sub (by omega) rfl rfl) ?_
            refine WL_s rfl rfl ?_
            refine Step.call (r_call (xs := [.tmp 45, .const (Go.Value.int Go.IntKind.i64 (-1)), .tmp 47]) fk58 rfl) (c_spec_l1In _ _ _ ) fun _v48 _w_27 _q48 => ?_
            obtain ⟨rfl, _cw_27⟩ := _q48
            have _cw_27z := _cw_27.size
            have E := E.trans _cw_27
            refine WL_step rfl rfl (r_not rfl) ?_
            refine WL_nil ?_
            refine thn_nrm (_hK_26 _ _ ?_)
            clear _hK_26
            refine W_cond rfl (fun _h49 => ?_) (fun _h49 => ?_)
            · have _h49 := bf_d (bt_n _h49)
              refine W_seq fun _K_28 _hK_28 => ?_
              refine W_region ?_
              refine WL_step rfl rfl (r_assign rfl) ?_
              refine WL_nil ?_
              refine thn_nrm (_hK_28 _ _ ?_)
              clear _hK_28
              refine W_ret (inB_ret (thn_ret (thn_ret (inB_ret (inB_ret (thn_ret (thn_ret (inB_ret (thn_ret ?_)))))))))
              clear _hK_10 _hK_15 _hK_25
              exact ret_intro [_] ⟨rfl, trivial⟩ ⟨congrArg Value.bool (by first | exact tt_true ⟨_h15, by omega, rows_all _ht (by omega)⟩ | exact tt_false (fun e => _h15 e.1) | exact tt_false (fun e => _h21 (by have _h1 := e.2.1; omega)) | exact tt_false (fun e => _h49 (fits_el e _hys41 _hy44)) | exact tt_false (fun e => _h33 (by have _h1 := (fits_row e _hys30).1; omega))), E⟩
            · have _h49 := bt_d (bf_n _h49)
              refine W_skip ?_
              refine inB_nrm ?_
              refine thn_nrm (_hK_25 _ _ ?_)
              clear _hK_25
              refine W_region ?_
              refine WL_step rfl rfl (r_move rfl) ?_
              refine WL_step rfl rfl (r_add (by omega) rfl rfl) ?_
              refine WL_step rfl rfl (r_assign rfl) ?_
              refine WL_nil ?_
              have _f_29 := (_F1_1.ch0 _cw_27)
              have _f_30 := (_F1_2.ch0 _cw_27)
              have _f_31 := (_F1_3.ch0 _cw_27)
              have _f_32 := (_F1_4.ch0 _cw_27)
              have _f_33 := (_F1_5.ch0 _cw_27)
              exact thn_nrm (Exists.intro (k + 1) ⟨⟨E, (by omega), (by omega), (rowp_step hp (get_uniq _hys41 _hys30 ▸ _hy44) _h49), _f_29, _f_30, _f_31, _f_32, _f_33⟩, Sub.cons rfl (Sub.cons rfl (Sub.cons rfl (Sub.cons rfl (Sub.cons rfl (Sub.cons rfl (Sub.cons rfl (Sub.cons rfl (Sub.cons rfl (Sub.cons rfl (Sub.cons rfl (Sub.cons rfl (Sub.cons rfl (Sub.cons rfl (Sub.cons rfl (Sub.cons rfl (Sub.cons rfl (Sub.cons rfl (Sub.cons rfl (Sub.cons rfl (Sub.cons rfl (Sub.cons rfl (Sub.cons rfl (Sub.cons rfl (Sub.cons rfl (Sub.cons rfl (Sub.cons rfl (Sub.cons rfl (Sub.cons rfl (Sub.cons rfl (Sub.cons rfl (Sub.nil _))))))))))))))))))))))))))))))), (by first | omega | (dsimp only; omega))⟩)
          · have _h35 := bf_d _h35
            refine W_exit (thn_exit (thn_exit (inB_hit ?_)))
            refine inB_nrm ?_
            refine thn_nrm (_hK_15 _ _ ?_)
            clear _hK_15
            refine W_region ?_
            refine WL_step rfl rfl (r_move rfl) ?_
            refine WL_step rfl rfl (r_add (by omega) rfl rfl) ?_
            refine WL_step rfl rfl (r_assign rfl) ?_
            refine WL_nil ?_
            exact thn_nrm (Exists.intro (s + 1) ⟨⟨E, (by omega), (by omega), (rows_step _ht _hys30 ⟨by omega, rowp_all hp (by omega)⟩), _F1_3⟩, Sub.cons rfl (Sub.cons rfl (Sub.cons rfl (Sub.cons rfl (Sub.cons rfl (Sub.cons rfl (Sub.cons rfl (Sub.cons rfl (Sub.cons rfl (Sub.cons rfl (Sub.cons rfl (Sub.cons rfl (Sub.cons rfl (Sub.cons rfl (Sub.cons rfl (Sub.cons rfl (Sub.cons rfl (Sub.cons rfl (Sub.cons rfl (Sub.cons rfl (Sub.nil _)))))))))))))))))))), (by first | omega | (dsimp only; omega))⟩)
      · have _h24 := bf_d _h24
        refine W_exit (thn_exit (thn_exit (inB_hit ?_)))
        refine thn_nrm (_hK_10 _ _ ?_)
        clear _hK_10
        refine W_seq fun _K_34 _hK_34 => ?_
        refine W_region ?_
        refine WL_step rfl rfl (r_assign rfl) ?_
        refine WL_nil ?_
        refine thn_nrm (_hK_34 _ _ ?_)
        clear _hK_34
        refine W_ret ?_
        clear _hK_13
        exact ret_intro [_] ⟨rfl, trivial⟩ ⟨congrArg Value.bool (by first | exact tt_true ⟨_h15, by omega, rows_all _ht (by omega)⟩ | exact tt_false (fun e => _h15 e.1) | exact tt_false (fun e => _h21 (by have _h1 := e.2.1; omega)) | exact tt_false (fun e => _h49 (fits_el e _hys41 _hy44)) | exact tt_false (fun e => _h33 (by have _h1 := (fits_row e _hys30).1; omega))), E⟩

/-- spec.IsValidAutomaton -/
theorem c_spec_IsValidAutomaton {w : World} (aS : Int) {_B_aA : Nat} {_v_aA : Value} {aA : List Bool} (_h_aA : Ls bcs 1 w _B_aA _v_aA aA) {_B_saN : Nat} {_v_saN : Value} {saN : List Sv} (_h_saN : Ls Sv.cs 1 w _B_saN _v_saN saN) {BB_aN : Nat} {aN : List (List Int)} (_rd_aN : Rd ics 1 w BB_aN saN aN) :
    Ctr Try.prog 16 #[(.agg #[(.int .i64 aS), _v_aA, _v_saN])] w (fun v w' => v = .bool (tt (ValidA aS aA aN)) ∧ Ch [] w w') := by
  obtain ⟨_A_aA, _C_aA, _e1_aA⟩ := _h_aA.val
  subst _e1_aA
  have _l_aA := _h_aA.len
  have _h_aA := _h_aA.here (by decide)
  obtain ⟨_A_saN, _C_saN, _e1_saN⟩ := _h_saN.val
  subst _e1_saN
  have _l_saN := _h_saN.len
  have _h_saN := _h_saN.here (by decide)
  have _rd_aN := _rd_aN.here (by decide)
  have _rl_aN := _rd_aN.1
  have E := Ch.refl [] w
  refine Ctr_of_W (N := 11) (vs0 := [(.agg #[(.int .i64 aS), (.slice _A_aA aA.length _C_aA), (.slice _A_saN saN.length _C_saN)])]) Try.func16 rfl rfl rfl ?_
  refine W_seq fun _K_1 _hK_1 => ?_
  refine W_region ?_
  refine WL_s rfl rfl ?_
  refine s_box rfl fun _b1 _w_2 _m1 _cw_2 _e1 => ?_
  have _cw_2z := _cw_2.size
  have E := E.trans _cw_2
  have _z1 := _m1.lt
  replace _m1 : Blk _w_2 _b1 28 [(.int .i64 aS), (.slice _A_aA aA.length _C_aA), (.slice _A_saN saN.length _C_saN)] := _m1
  refine WL_step rfl rfl (r_assign rfl) ?_
  refine WL_nil ?_
  refine thn_nrm (_hK_1 _ _ ?_)
  clear _hK_1
  refine W_seq fun _K_3 _hK_3 => ?_
  refine W_region ?_
  refine WL_step rfl rfl (r_fieldAddr fa28_1 rfl) ?_
  refine WL_step rfl rfl (r_loadAt _m1.at_ agg22 rfl rfl) ?_
  refine WL_step rfl rfl (r_len (by rw [el22]; rfl) rfl) ?_
  refine WL_step rfl rfl (r_leq rfl rfl) ?_
  refine WL_step rfl rfl (r_move rfl) ?_
  refine WL_split (d := 7) rfl (fun _h7 => ?_) (fun _h7 => ?_)
  · have _h7 := bt_d _h7
    refine WL_step rfl rfl (r_loadAtA0 _m1.at_ agg28 sz28 rfl) ?_
    refine WL_s rfl rfl ?_
    have _f_4 := (_h_aA.ch0 _cw_2)
    have _f_5 := (_rd_aN.ch0 _cw_2)
    have _f_6 := (_h_saN.ch0 _cw_2)
    refine Step.call (r_call (xs := [.tmp 8]) fk52 rfl) (c_spec_l11Fits _ _f_4 _f_6 _f_5 ) fun _v9 _w_7 _q9 => ?_
    obtain ⟨rfl, _cw_7⟩ := _q9
    have _cw_7z := _cw_7.size
    have E := E.trans _cw_7
    refine WL_step rfl rfl (r_pickT rfl rfl) ?_
    refine WL_step rfl rfl (r_assign rfl) ?_
    refine WL_nil ?_
    refine thn_nrm (_hK_3 _ _ ?_)
    clear _hK_3
    refine W_ret ?_
    exact ret_intro [_] ⟨rfl, trivial⟩ ⟨congrArg Value.bool (by first | exact tt_eq ⟨fun e => ⟨by omega, e⟩, fun e => e.2⟩ | exact tt_false (fun e => _h7 (by have _h1 := e.1; omega))), E⟩
  · have _h7 := bf_d _h7
    refine WL_skip rfl rfl ?_
    refine WL_skip rfl rfl ?_
    refine WL_step rfl rfl (r_pickF rfl rfl) ?_
    refine WL_step rfl rfl (r_assign rfl) ?_
    refine WL_nil ?_
    refine thn_nrm (_hK_3 _ _ ?_)
    clear _hK_3
    refine W_ret ?_
    exact ret_intro [_] ⟨rfl, trivial⟩ ⟨congrArg Value.bool (by first | exact tt_eq ⟨fun e => ⟨by omega, e⟩, fun e => e.2⟩ | exact tt_false (fun e => _h7 (by have _h1 := e.1; omega))), E⟩

/-- spec.l2Letter -/
theorem c_spec_l2Letter {w : World} (n : Int) :
    Ctr Try.prog 96 #[(.int .i64 n)] w (fun v w' => v = .bool (decide (0 ≤ n ∧ n ≤ 8)) ∧ Ch [] w w') := by
  have E := Ch.refl [] w
  refine Ctr_of_W (N := 5) (vs0 := [(.int .i64 n)]) Try.func96 rfl rfl rfl ?_
  refine W_seq fun _K_1 _hK_1 => ?_
  refine W_region ?_
  refine WL_step rfl rfl (r_assign rfl) ?_
  refine WL_nil ?_
  refine thn_nrm (_hK_1 _ _ ?_)
  clear _hK_1
  refine W_seq fun _K_2 _hK_2 => ?_
  refine W_region ?_
  refine WL_step rfl rfl (r_move rfl) ?_
  refine WL_s rfl rfl ?_
  refine Step.call (r_call (xs := [.tmp 3, .const (Go.Value.int Go.IntKind.i64 0), .const (Go.Value.int Go.IntKind.i64 8)]) fk58 rfl) (c_spec_l1In _ _ _ ) fun _v4 _w_3 _q4 => ?_
  obtain ⟨rfl, _cw_3⟩ := _q4
  have _cw_3z := _cw_3.size
  have E := E.trans _cw_3
  refine WL_step rfl rfl (r_assign rfl) ?_
  refine WL_nil ?_
  refine thn_nrm (_hK_2 _ _ ?_)
  clear _hK_2
  refine W_ret ?_
  exact ret_intro [_] ⟨rfl, trivial⟩ ⟨congrArg Value.bool rfl, E⟩

/-- spec.l11Run -/
theorem c_spec_l11Run {w : World} (aS : Int) {_B_aA : Nat} {_v_aA : Value} {aA : List Bool} (_h_aA : Ls bcs 1 w _B_aA _v_aA aA) {_B_saN : Nat} {_v_saN : Value} {saN : List Sv} (_h_saN : Ls Sv.cs 1 w _B_saN _v_saN saN) {BB_aN : Nat} {aN : List (List Int)} (_rd_aN : Rd ics 1 w BB_aN saN aN) (s : Int) {_B_wd : Nat} {_v_wd : Value} {wd : List Int} (_h_wd : Ls ics 1 w _B_wd _v_wd wd) (hv : ValidA aS aA aN) (hs : -1 ≤ s ∧ s ≤ (aA.length : Int) - 1) :
    Ctr Try.prog 65 #[(.agg #[(.int .i64 aS), _v_aA, _v_saN]), (.int .i64 s), _v_wd] w (fun v w' => v = .int .i64 (runA aN s wd wd.length) ∧ Ch [] w w') := by
  obtain ⟨_A_aA, _C_aA, _e1_aA⟩ := _h_aA.val
  subst _e1_aA
  have _l_aA := _h_aA.len
  have _h_aA := _h_aA.here (by decide)
  obtain ⟨_A_saN, _C_saN, _e1_saN⟩ := _h_saN.val
  subst _e1_saN
  have _l_saN := _h_saN.len
  have _h_saN := _h_saN.here (by decide)
  have _rd_aN := _rd_aN.here (by decide)
  have _rl_aN := _rd_aN.1
  obtain ⟨_A_wd, _C_wd, _e1_wd⟩ := _h_wd.val
  subst _e1_wd
  have _l_wd := _h_wd.len
  have _h_wd := _h_wd.here (by decide)
  have E := Ch.refl [] w
  have hv2 := hv.2.2.1
  refine Ctr_of_W (N := 36) (vs0 := [(.agg #[(.int .i64 aS), (.slice _A_aA aA.length _C_aA), (.slice _A_saN saN.length _C_saN)]), (.int .i64 s), (.slice _A_wd wd.length _C_wd)]) Try.func65 rfl rfl rfl ?_
  refine W_seq fun _K_1 _hK_1 => ?_
  refine W_region ?_
  refine WL_s rfl rfl ?_
  refine s_box rfl fun _b3 _w_2 _m3 _cw_2 _e3 => ?_
  have _cw_2z := _cw_2.size
  have E := E.trans _cw_2
  have _z3 := _m3.lt
  replace _m3 : Blk _w_2 _b3 28 [(.int .i64 aS), (.slice _A_aA aA.length _C_aA), (.slice _A_saN saN.length _C_saN)] := _m3
  refine WL_step rfl rfl (r_assign rfl) ?_
  refine WL_nil ?_
  refine thn_nrm (_hK_1 _ _ ?_)
  clear _hK_1
  refine W_seq fun _K_3 _hK_3 => ?_
  refine W_seq fun _K_4 _hK_4 => ?_
  refine W_region ?_
  refine WL_step rfl rfl (r_assign rfl) ?_
  refine WL_nil ?_
  refine thn_nrm (_hK_4 _ _ ?_)
  clear _hK_4
  refine W_block ?_
  refine W_loop (σ := Nat × Int) (fun ⟨k, m⟩ => [(0, (.agg #[(.int .i64 aS), (.slice _A_aA aA.length _C_aA), (.slice _A_saN saN.length _C_saN)])), (1, (.int .i64 m)), (2, (.slice _A_wd wd.length _C_wd)), (3, (.pointer (some ⟨_b3, 0, none⟩))), (7, (.int .i64 ((k : Nat) : Int)))]) (fun ⟨k, m⟩ wx => Ch [] w wx ∧ _w_2.heap.size ≤ wx.heap.size ∧ (k ≤ wd.length) ∧ (m = runA aN s wd k) ∧ (-1 ≤ m ∧ m ≤ (aA.length : Int) - 1) ∧ Blk wx _b3 28 [(.int .i64 aS), (.slice _A_aA aA.length _C_aA), (.slice _A_saN saN.length _C_saN)]) (fun ⟨k, m⟩ => wd.length - k) (0, s) (Sub.cons rfl (Sub.cons rfl (Sub.cons rfl (Sub.cons rfl (Sub.cons rfl (Sub.nil _)))))) ⟨E, (Nat.le_refl _), (by omega), rfl, hs, _m3⟩ ?_
  rintro ⟨k, m⟩ _wr_5 ⟨E, _zz0, _hk, hm, hb, _F0_4⟩
  have _E0h := E
  have _E0hz := _E0h.size
  have _F0_4z := _F0_4.lt
  refine W_seq fun _K_6 _hK_6 => ?_
  refine W_seq fun _K_7 _hK_7 => ?_
  refine W_region ?_
  refine WL_step rfl rfl (r_move rfl) ?_
  refine WL_step rfl rfl (r_move rfl) ?_
  refine WL_step rfl rfl (r_len (by rw [el35]; rfl) rfl) ?_
  refine WL_step rfl rfl (r_lss rfl rfl) ?_
  refine WL_step rfl rfl (r_move rfl) ?_
  refine WL_split (d := 12) rfl (fun _h12 => ?_) (fun _h12 => ?_)
  · have _h12 := bt_d _h12
    refine WL_step rfl rfl (r_move rfl) ?_
    refine WL_step rfl rfl (r_geq rfl rfl) ?_
    refine WL_step rfl rfl (r_pickT rfl rfl) ?_
    refine WL_nil ?_
    refine thn_nrm (_hK_7 _ _ ?_)
    clear _hK_7
    refine W_cond rfl (fun _h15 => ?_) (fun _h15 => ?_)
    · have _h15 := bt_d _h15
      refine W_skip ?_
      refine thn_nrm (_hK_6 _ _ ?_)
      clear _hK_6
      refine W_seq fun _K_8 _hK_8 => ?_
      refine W_block ?_
      refine W_seq fun _K_9 _hK_9 => ?_
      refine W_seq fun _K_10 _hK_10 => ?_
      refine W_region ?_
      refine WL_step rfl rfl (r_move rfl) ?_
      refine WL_step rfl rfl (r_move rfl) ?_
      refine WL_s rfl rfl ?_
      have _f_11 := (_h_wd.ch0 _E0h)
      refine (s_index _f_11 ics_len el35 sz3 rfl rfl rfl (by omega) fun _p20 _y20 _hy20 _a20 => ?_)
      refine WL_step rfl rfl (r_loadAt0 _a20 agg3 rfl rfl) ?_
      refine WL_s rfl rfl ?_
      refine Step.call (r_call (xs := [.tmp 21]) fk96 rfl) (c_spec_l2Letter _ ) fun _v22 _w_12 _q22 => ?_
      obtain ⟨rfl, _cw_12⟩ := _q22
      have _cw_12z := _cw_12.size
      have E := E.trans _cw_12
      refine WL_step rfl rfl (r_not rfl) ?_
      refine WL_nil ?_
      refine thn_nrm (_hK_10 _ _ ?_)
      clear _hK_10
      refine W_cond rfl (fun _h23 => ?_) (fun _h23 => ?_)
      · have _h23 := bf_d (bt_n _h23)
        refine W_seq fun _K_13 _hK_13 => ?_
        refine W_region ?_
        refine WL_step rfl rfl (r_assign rfl) ?_
        refine WL_nil ?_
        refine thn_nrm (_hK_13 _ _ ?_)
        clear _hK_13
        refine W_ret (thn_ret (inB_ret (thn_ret (thn_ret (inB_ret (thn_ret ?_))))))
        clear _hK_3 _hK_8 _hK_9
        exact ret_intro [_] ⟨rfl, trivial⟩ ⟨congrArg (Value.int .i64) (by first | exact run_bad _hy20 _h23 | exact run_dead hm (by omega) (by omega) | (rw [hm, show k = wd.length by omega])), E⟩
      · have _h23 := bt_d (bf_n _h23)
        refine W_skip ?_
        refine thn_nrm (_hK_9 _ _ ?_)
        clear _hK_9
        refine W_drawC [] 12 mixed rfl fun _w_14 _cw_14 => ?_
        have _cw_14z := _cw_14.size
        have E := E.trans _cw_14
        refine DR_s 0 rfl (by kernel_rfl) rfl rfl (t_v (fun _ => (r_fieldAddr fa28_2 rfl)) ?_)
        have _f_15 := ((_F0_4.ch0 _cw_12).ch0 _cw_14)
        refine DR_s 1 rfl (by kernel_rfl) rfl rfl (t_loadAt _f_15.at_ (fun i hi => by first | exact absurd hi (List.not_mem_nil) | (have _h1 := List.mem_singleton.1 hi; omega)) agg23 rfl rfl ?_)
        refine DR_s 2 rfl (by kernel_rfl) rfl rfl (t_v (fun _ => (r_move rfl)) ?_)
        have _f_16 := (((_h_saN.ch0 _E0h).ch0 _cw_12).ch0 _cw_14)
        have _f_17 := (((_rd_aN.ch0 _E0h).ch0 _cw_12).ch0 _cw_14)
        refine DR_s 3 rfl (by kernel_rfl) rfl rfl (t_index (j := m.toNat) _f_16 Sv.len el23 sz35 rfl rfl (by omega) (by omega) fun _p27 _y27 _hy27 _a27 => ?_)
        obtain ⟨_ys27, _hys27, _fs27⟩ := _f_17.get _hy27
        obtain ⟨_A27, _n27, _C27⟩ := _y27
        obtain rfl := _fs27.eqn
        have _l27 := _fs27.len
        replace _fs27 : Ls ics 1 _w_14 w.heap.size (.slice _A27 _ys27.length _C27) _ys27 := _fs27
        replace _a27 : At _w_14 w.heap.size _p27 ([(.slice _A27 _ys27.length _C27)]) := _a27
        have _e27 := (fits_row hv.2 _hys27).1
        refine DR_s 4 rfl (by kernel_rfl) rfl rfl (t_loadAt0 _a27 (fun i hi => by first | exact absurd hi (List.not_mem_nil) | (have _h1 := List.mem_singleton.1 hi; omega)) agg35 rfl rfl ?_)
        refine DR_s 5 rfl (by kernel_rfl) rfl rfl (t_v (fun _ => (r_move rfl)) ?_)
        refine DR_s 6 rfl (by kernel_rfl) rfl rfl (t_v (fun _ => (r_move rfl)) ?_)
        have _f_18 := ((_f_11.ch0 _cw_12).ch0 _cw_14)
        refine DR_s 7 rfl (by kernel_rfl) rfl rfl (t_index _f_18 ics_len el35 sz3 rfl rfl rfl (by omega) fun _p31 _y31 _hy31 _a31 => ?_)
        have _e31 := get_uniq _hy20 _hy31
        refine DR_s 8 rfl (by kernel_rfl) rfl rfl (t_loadAt0 _a31 (fun i hi => by first | exact absurd hi (List.not_mem_nil) | (have _h1 := List.mem_singleton.1 hi; omega)) agg3 rfl rfl ?_)
        refine DR_s 9 rfl (by kernel_rfl) rfl rfl (t_index (j := _y31.toNat) _fs27 ics_len el35 sz3 rfl rfl (by omega) (by omega) fun _p33 _y33 _hy33 _a33 => ?_)
        refine DR_s 10 rfl (by kernel_rfl) rfl rfl (t_loadAt0 _a33 (fun i hi => by first | exact absurd hi (List.not_mem_nil) | (have _h1 := List.mem_singleton.1 hi; omega)) agg3 rfl rfl ?_)
        refine DR_s 11 rfl (by kernel_rfl) rfl rfl (t_v (fun _ => (r_assign rfl)) ?_)
        refine DR_done (by kernel_rfl) ?_
        refine inB_nrm ?_
        refine thn_nrm (_hK_8 _ _ ?_)
        clear _hK_8
        refine W_region ?_
        refine WL_step rfl rfl (r_move rfl) ?_
        refine WL_step rfl rfl (r_add (by omega) rfl rfl) ?_
        refine WL_step rfl rfl (r_assign rfl) ?_
        refine WL_nil ?_
        exact thn_nrm (Exists.intro ((k + 1), _y33) ⟨⟨E, (by omega), (by omega), (by rw [run_succ _hy20, ← hm]; exact move_y (by omega) _h23 _hys27 (_e31 ▸ _hy33)), (fits_el hv.2 _hys27 _hy33), _f_15⟩, Sub.cons rfl (Sub.cons rfl (Sub.cons rfl (Sub.cons rfl (Sub.cons rfl (Sub.nil _))))), (by first | omega | (dsimp only; omega))⟩)
    · have _h15 := bf_d _h15
      refine W_exit (thn_exit (thn_exit (inB_hit ?_)))
      refine thn_nrm (_hK_3 _ _ ?_)
      clear _hK_3
      refine W_seq fun _K_19 _hK_19 => ?_
      refine W_region ?_
      refine WL_step rfl rfl (r_move rfl) ?_
      refine WL_step rfl rfl (r_assign rfl) ?_
      refine WL_nil ?_
      refine thn_nrm (_hK_19 _ _ ?_)
      clear _hK_19
      refine W_ret ?_
      clear _hK_6
      exact ret_intro [_] ⟨rfl, trivial⟩ ⟨congrArg (Value.int .i64) (by first | exact run_bad _hy20 _h23 | exact run_dead hm (by omega) (by omega) | (rw [hm, show k = wd.length by omega])), E⟩
  · have _h12 := bf_d _h12
    refine WL_skip rfl rfl ?_
    refine WL_skip rfl rfl ?_
    refine WL_step rfl rfl (r_pickF rfl rfl) ?_
    refine WL_nil ?_
    refine thn_nrm (_hK_7 _ _ ?_)
    clear _hK_7
    refine W_condF rfl ?_
    refine W_exit (thn_exit (thn_exit (inB_hit ?_)))
    refine thn_nrm (_hK_3 _ _ ?_)
    clear _hK_3
    refine W_seq fun _K_20 _hK_20 => ?_
    refine W_region ?_
    refine WL_step rfl rfl (r_move rfl) ?_
    refine WL_step rfl rfl (r_assign rfl) ?_
    refine WL_nil ?_
    refine thn_nrm (_hK_20 _ _ ?_)
    clear _hK_20
    refine W_ret ?_
    clear _hK_6
    exact ret_intro [_] ⟨rfl, trivial⟩ ⟨congrArg (Value.int .i64) (by first | exact run_bad _hy20 _h23 | exact run_dead hm (by omega) (by omega) | (rw [hm, show k = wd.length by omega])), E⟩

/-- spec.RunWord -/
theorem c_spec_RunWord {w : World} (aS : Int) {_B_aA : Nat} {_v_aA : Value} {aA : List Bool} (_h_aA : Ls bcs 1 w _B_aA _v_aA aA) {_B_saN : Nat} {_v_saN : Value} {saN : List Sv} (_h_saN : Ls Sv.cs 1 w _B_saN _v_saN saN) {BB_aN : Nat} {aN : List (List Int)} (_rd_aN : Rd ics 1 w BB_aN saN aN) {_B_wd : Nat} {_v_wd : Value} {wd : List Int} (_h_wd : Ls ics 1 w _B_wd _v_wd wd) :
    Ctr Try.prog 24 #[(.agg #[(.int .i64 aS), _v_aA, _v_saN]), _v_wd] w (fun v w' => v = .int .i64 (rwR aS aA aN wd) ∧ Ch [] w w') := by
  obtain ⟨_A_aA, _C_aA, _e1_aA⟩ := _h_aA.val
  subst _e1_aA
  have _l_aA := _h_aA.len
  have _h_aA := _h_aA.here (by decide)
  obtain ⟨_A_saN, _C_saN, _e1_saN⟩ := _h_saN.val
  subst _e1_saN
  have _l_saN := _h_saN.len
  have _h_saN := _h_saN.here (by decide)
  have _rd_aN := _rd_aN.here (by decide)
  have _rl_aN := _rd_aN.1
  obtain ⟨_A_wd, _C_wd, _e1_wd⟩ := _h_wd.val
  subst _e1_wd
  have _l_wd := _h_wd.len
  have _h_wd := _h_wd.here (by decide)
  have E := Ch.refl [] w
  refine Ctr_of_W (N := 13) (vs0 := [(.agg #[(.int .i64 aS), (.slice _A_aA aA.length _C_aA), (.slice _A_saN saN.length _C_saN)]), (.slice _A_wd wd.length _C_wd)]) Try.func24 rfl rfl rfl ?_
  refine W_seq fun _K_1 _hK_1 => ?_
  refine W_region ?_
  refine WL_s rfl rfl ?_
  refine s_box rfl fun _b2 _w_2 _m2 _cw_2 _e2 => ?_
  have _cw_2z := _cw_2.size
  have E := E.trans _cw_2
  have _z2 := _m2.lt
  replace _m2 : Blk _w_2 _b2 28 [(.int .i64 aS), (.slice _A_aA aA.length _C_aA), (.slice _A_saN saN.length _C_saN)] := _m2
  refine WL_step rfl rfl (r_assign rfl) ?_
  refine WL_nil ?_
  refine thn_nrm (_hK_1 _ _ ?_)
  clear _hK_1
  refine W_seq fun _K_3 _hK_3 => ?_
  refine W_seq fun _K_4 _hK_4 => ?_
  refine W_region ?_
  refine WL_step rfl rfl (r_loadAtA0 _m2.at_ agg28 sz28 rfl) ?_
  refine WL_s rfl rfl ?_
  have _f_5 := (_h_aA.ch0 _cw_2)
  have _f_6 := (_rd_aN.ch0 _cw_2)
  have _f_7 := (_h_saN.ch0 _cw_2)
  refine Step.call (r_call (xs := [.tmp 5]) fk16 rfl) (c_spec_IsValidAutomaton _ _f_5 _f_7 _f_6 ) fun _v6 _w_8 _q6 => ?_
  obtain ⟨rfl, _cw_8⟩ := _q6
  have _cw_8z := _cw_8.size
  have E := E.trans _cw_8
  refine WL_step rfl rfl (r_not rfl) ?_
  refine WL_nil ?_
  refine thn_nrm (_hK_4 _ _ ?_)
  clear _hK_4
  refine W_cond rfl (fun _h7 => ?_) (fun _h7 => ?_)
  · have _h7 := bf_t (bt_n _h7)
    refine W_seq fun _K_9 _hK_9 => ?_
    refine W_region ?_
    refine WL_step rfl rfl (r_assign rfl) ?_
    refine WL_nil ?_
    refine thn_nrm (_hK_9 _ _ ?_)
    clear _hK_9
    refine W_ret (thn_ret ?_)
    clear _hK_3
    exact ret_intro [_] ⟨rfl, trivial⟩ ⟨congrArg (Value.int .i64) (by first | exact rwR_yes _h7 | exact rwR_no _h7), E⟩
  · have _h7 := bt_t (bf_n _h7)
    refine W_skip ?_
    refine thn_nrm (_hK_3 _ _ ?_)
    clear _hK_3
    refine W_seq fun _K_10 _hK_10 => ?_
    refine W_region ?_
    have _f_11 := (_m2.ch0 _cw_8)
    refine WL_step rfl rfl (r_loadAtA0 _f_11.at_ agg28 sz28 rfl) ?_
    refine WL_step rfl rfl (r_fieldAddr fa28_0 rfl) ?_
    refine WL_step rfl rfl (r_loadAt _f_11.at_ agg3 rfl rfl) ?_
    refine WL_step rfl rfl (r_move rfl) ?_
    refine WL_s rfl rfl ?_
    have _f_12 := (_f_5.ch0 _cw_8)
    have _f_13 := (_f_6.ch0 _cw_8)
    have _f_14 := (_f_7.ch0 _cw_8)
    have _f_15 := ((_h_wd.ch0 _cw_2).ch0 _cw_8)
    refine Step.call (r_call (xs := [.tmp 8, .tmp 10, .tmp 11]) fk65 rfl) (c_spec_l11Run _ _f_12 _f_14 _f_13 _ _f_15 _h7 (by have _h1 := _h7.2.1; omega)) fun _v12 _w_16 _q12 => ?_
    obtain ⟨rfl, _cw_16⟩ := _q12
    have _cw_16z := _cw_16.size
    have E := E.trans _cw_16
    refine WL_step rfl rfl (r_assign rfl) ?_
    refine WL_nil ?_
    refine thn_nrm (_hK_10 _ _ ?_)
    clear _hK_10
    refine W_ret ?_
    exact ret_intro [_] ⟨rfl, trivial⟩ ⟨congrArg (Value.int .i64) (by first | exact rwR_yes _h7 | exact rwR_no _h7), E⟩

/-- spec.AcceptsWord -/
theorem c_spec_AcceptsWord {w : World} (aS : Int) {_B_aA : Nat} {_v_aA : Value} {aA : List Bool} (_h_aA : Ls bcs 1 w _B_aA _v_aA aA) {_B_saN : Nat} {_v_saN : Value} {saN : List Sv} (_h_saN : Ls Sv.cs 1 w _B_saN _v_saN saN) {BB_aN : Nat} {aN : List (List Int)} (_rd_aN : Rd ics 1 w BB_aN saN aN) {_B_wd : Nat} {_v_wd : Value} {wd : List Int} (_h_wd : Ls ics 1 w _B_wd _v_wd wd) :
    Ctr Try.prog 30 #[(.agg #[(.int .i64 aS), _v_aA, _v_saN]), _v_wd] w (fun v w' => v = .bool (accA aA (rwR aS aA aN wd)) ∧ Ch [] w w') := by
  obtain ⟨_A_aA, _C_aA, _e1_aA⟩ := _h_aA.val
  subst _e1_aA
  have _l_aA := _h_aA.len
  have _h_aA := _h_aA.here (by decide)
  obtain ⟨_A_saN, _C_saN, _e1_saN⟩ := _h_saN.val
  subst _e1_saN
  have _l_saN := _h_saN.len
  have _h_saN := _h_saN.here (by decide)
  have _rd_aN := _rd_aN.here (by decide)
  have _rl_aN := _rd_aN.1
  obtain ⟨_A_wd, _C_wd, _e1_wd⟩ := _h_wd.val
  subst _e1_wd
  have _l_wd := _h_wd.len
  have _h_wd := _h_wd.here (by decide)
  have E := Ch.refl [] w
  have hr := rwR_rng aS aA aN wd
  refine Ctr_of_W (N := 18) (vs0 := [(.agg #[(.int .i64 aS), (.slice _A_aA aA.length _C_aA), (.slice _A_saN saN.length _C_saN)]), (.slice _A_wd wd.length _C_wd)]) Try.func30 rfl rfl rfl ?_
  refine W_seq fun _K_1 _hK_1 => ?_
  refine W_region ?_
  refine WL_s rfl rfl ?_
  refine s_box rfl fun _b2 _w_2 _m2 _cw_2 _e2 => ?_
  have _cw_2z := _cw_2.size
  have E := E.trans _cw_2
  have _z2 := _m2.lt
  replace _m2 : Blk _w_2 _b2 28 [(.int .i64 aS), (.slice _A_aA aA.length _C_aA), (.slice _A_saN saN.length _C_saN)] := _m2
  refine WL_step rfl rfl (r_assign rfl) ?_
  refine WL_nil ?_
  refine thn_nrm (_hK_1 _ _ ?_)
  clear _hK_1
  refine W_seq fun _K_3 _hK_3 => ?_
  refine W_region ?_
  refine WL_step rfl rfl (r_loadAtA0 _m2.at_ agg28 sz28 rfl) ?_
  refine WL_step rfl rfl (r_move rfl) ?_
  refine WL_s rfl rfl ?_
  have _f_4 := (_h_aA.ch0 _cw_2)
  have _f_5 := (_rd_aN.ch0 _cw_2)
  have _f_6 := (_h_saN.ch0 _cw_2)
  have _f_7 := (_h_wd.ch0 _cw_2)
  refine Step.call (r_call (xs := [.tmp 6, .tmp 7]) fk24 rfl) (c_spec_RunWord _ _f_4 _f_6 _f_5 _f_7 ) fun _v8 _w_8 _q8 => ?_
  obtain ⟨rfl, _cw_8⟩ := _q8
  have _cw_8z := _cw_8.size
  have E := E.trans _cw_8
  refine WL_step rfl rfl (r_assign rfl) ?_
  refine WL_nil ?_
  refine thn_nrm (_hK_3 _ _ ?_)
  clear _hK_3
  refine W_seq fun _K_9 _hK_9 => ?_
  refine W_region ?_
  refine WL_step rfl rfl (r_move rfl) ?_
  refine WL_step rfl rfl (r_geq rfl rfl) ?_
  refine WL_step rfl rfl (r_move rfl) ?_
  refine WL_split (d := 11) rfl (fun _h11 => ?_) (fun _h11 => ?_)
  · have _h11 := bt_d _h11
    refine WL_step rfl rfl (r_fieldAddr fa28_1 rfl) ?_
    have _f_10 := (_m2.ch0 _cw_8)
    refine WL_step rfl rfl (r_loadAt _f_10.at_ agg22 rfl rfl) ?_
    refine WL_step rfl rfl (r_move rfl) ?_
    refine WL_s rfl rfl ?_
    have _f_11 := (_f_4.ch0 _cw_8)
    refine (s_index (j := (rwR aS aA aN wd).toNat) _f_11 bcs_len el22 sz4 rfl rfl (by omega) (by omega) fun _p15 _y15 _hy15 _a15 => ?_)
    refine WL_step rfl rfl (r_loadAt0 _a15 agg4 rfl rfl) ?_
    refine WL_step rfl rfl (r_pickT rfl rfl) ?_
    refine WL_step rfl rfl (r_assign rfl) ?_
    refine WL_nil ?_
    refine thn_nrm (_hK_9 _ _ ?_)
    clear _hK_9
    refine W_ret ?_
    exact ret_intro [_] ⟨rfl, trivial⟩ ⟨congrArg Value.bool (by first | exact accA_y (by omega) _hy15 | exact accA_n (by omega)), E⟩
  · have _h11 := bf_d _h11
    refine WL_skip rfl rfl ?_
    refine WL_skip rfl rfl ?_
    refine WL_skip rfl rfl ?_
    refine WL_skip rfl rfl ?_
    refine WL_skip rfl rfl ?_
    refine WL_step rfl rfl (r_pickF rfl rfl) ?_
    refine WL_step rfl rfl (r_assign rfl) ?_
    refine WL_nil ?_
    refine thn_nrm (_hK_9 _ _ ?_)
    clear _hK_9
    refine W_ret ?_
    exact ret_intro [_] ⟨rfl, trivial⟩ ⟨congrArg Value.bool (by first | exact accA_y (by omega) _hy15 | exact accA_n (by omega)), E⟩

/-- laws.FnExactAcceptsWord -/
theorem c_laws_FnExactAcceptsWord {w : World} (aS : Int) {_B_aA : Nat} {_v_aA : Value} {aA : List Bool} (_h_aA : Ls bcs 1 w _B_aA _v_aA aA) {_B_saN : Nat} {_v_saN : Value} {saN : List Sv} (_h_saN : Ls Sv.cs 1 w _B_saN _v_saN saN) {BB_aN : Nat} {aN : List (List Int)} (_rd_aN : Rd ics 1 w BB_aN saN aN) {_B_wd : Nat} {_v_wd : Value} {wd : List Int} (_h_wd : Ls ics 1 w _B_wd _v_wd wd) :
    Ctr Try.prog 8 #[(.agg #[(.int .i64 aS), _v_aA, _v_saN]), _v_wd] w (fun v w' => v = .bool (true) ∧ Ch [] w w') := by
  obtain ⟨_A_aA, _C_aA, _e1_aA⟩ := _h_aA.val
  subst _e1_aA
  have _l_aA := _h_aA.len
  have _h_aA := _h_aA.here (by decide)
  obtain ⟨_A_saN, _C_saN, _e1_saN⟩ := _h_saN.val
  subst _e1_saN
  have _l_saN := _h_saN.len
  have _h_saN := _h_saN.here (by decide)
  have _rd_aN := _rd_aN.here (by decide)
  have _rl_aN := _rd_aN.1
  obtain ⟨_A_wd, _C_wd, _e1_wd⟩ := _h_wd.val
  subst _e1_wd
  have _l_wd := _h_wd.len
  have _h_wd := _h_wd.here (by decide)
  have E := Ch.refl [] w
  refine Ctr_of_W (N := 43) (vs0 := [(.agg #[(.int .i64 aS), (.slice _A_aA aA.length _C_aA), (.slice _A_saN saN.length _C_saN)]), (.slice _A_wd wd.length _C_wd)]) Try.func8 rfl rfl rfl ?_
  refine W_seq fun _K_1 _hK_1 => ?_
  refine W_region ?_
  refine WL_s rfl rfl ?_
  refine s_box rfl fun _b2 _w_2 _m2 _cw_2 _e2 => ?_
  have _cw_2z := _cw_2.size
  have E := E.trans _cw_2
  have _z2 := _m2.lt
  replace _m2 : Blk _w_2 _b2 25 [(.int .i64 aS), (.slice _A_aA aA.length _C_aA), (.slice _A_saN saN.length _C_saN)] := _m2
  refine WL_step rfl rfl (r_assign rfl) ?_
  refine WL_nil ?_
  refine thn_nrm (_hK_1 _ _ ?_)
  clear _hK_1
  refine W_seq fun _K_3 _hK_3 => ?_
  refine W_seq fun _K_4 _hK_4 => ?_
  refine W_region ?_
  refine WL_step rfl rfl (r_move rfl) ?_
  refine WL_step rfl rfl (r_len (by rw [el35]; rfl) rfl) ?_
  refine WL_step rfl rfl (r_gtr rfl rfl) ?_
  refine WL_nil ?_
  refine thn_nrm (_hK_4 _ _ ?_)
  clear _hK_4
  refine W_cond rfl (fun _h12 => ?_) (fun _h12 => ?_)
  · have _h12 := bt_d _h12
    refine W_seq fun _K_5 _hK_5 => ?_
    refine W_region ?_
    refine WL_step rfl rfl (r_assign rfl) ?_
    refine WL_nil ?_
    refine thn_nrm (_hK_5 _ _ ?_)
    clear _hK_5
    refine W_ret (thn_ret ?_)
    clear _hK_3
    exact ret_intro [_] ⟨rfl, trivial⟩ ⟨congrArg Value.bool (by first | rfl | (exfalso; omega) | (exfalso; revert _h12; simp; done) | (exfalso; revert _h12; simp; omega)), E⟩
  · have _h12 := bf_d _h12
    refine W_skip ?_
    refine thn_nrm (_hK_3 _ _ ?_)
    clear _hK_3
    refine W_seq fun _K_6 _hK_6 => ?_
    refine W_region ?_
    refine WL_step rfl rfl (r_assign rfl) ?_
    refine WL_nil ?_
    refine thn_nrm (_hK_6 _ _ ?_)
    clear _hK_6
    refine W_seq fun _K_7 _hK_7 => ?_
    refine W_region ?_
    refine WL_step rfl rfl (r_loadAtA0 _m2.at_ agg25 sz25 rfl) ?_
    refine WL_step rfl rfl (r_move rfl) ?_
    refine WL_s rfl rfl ?_
    have _f_8 := (_h_aA.ch0 _cw_2)
    have _f_9 := (_rd_aN.ch0 _cw_2)
    have _f_10 := (_h_saN.ch0 _cw_2)
    refine Step.call (r_call (xs := [.tmp 13, .tmp 14]) fk15 rfl) (c_laws_szAutomaton _ _f_8 _f_10 _f_9 _ (by omega) (by omega)) fun _v15 _w_11 _q15 => ?_
    obtain ⟨rfl, _cw_11⟩ := _q15
    have _cw_11z := _cw_11.size
    have E := E.trans _cw_11
    refine WL_step rfl rfl (r_assign rfl) ?_
    refine WL_nil ?_
    refine thn_nrm (_hK_7 _ _ ?_)
    clear _hK_7
    refine W_seq fun _K_12 _hK_12 => ?_
    refine W_seq fun _K_13 _hK_13 => ?_
    refine W_region ?_
    refine WL_step rfl rfl (r_move rfl) ?_
    refine WL_step rfl rfl (r_lss rfl rfl) ?_
    refine WL_nil ?_
    refine thn_nrm (_hK_13 _ _ ?_)
    clear _hK_13
    refine W_cond rfl (fun _h17 => ?_) (fun _h17 => ?_)
    · have _h17 := bt_d _h17
      refine W_seq fun _K_14 _hK_14 => ?_
      refine W_region ?_
      refine WL_step rfl rfl (r_assign rfl) ?_
      refine WL_nil ?_
      refine thn_nrm (_hK_14 _ _ ?_)
      clear _hK_14
      refine W_ret (thn_ret ?_)
      clear _hK_12
      exact ret_intro [_] ⟨rfl, trivial⟩ ⟨congrArg Value.bool (by first | rfl | (exfalso; omega) | (exfalso; revert _h17; simp; done) | (exfalso; revert _h17; simp; omega)), E⟩
    · have _h17 := bf_d _h17
      refine W_skip ?_
      refine thn_nrm (_hK_12 _ _ ?_)
      clear _hK_12
      refine W_seq fun _K_15 _hK_15 => ?_
      refine W_region ?_
      have _f_16 := (_m2.ch0 _cw_11)
      refine WL_step rfl rfl (r_loadAtA0 _f_16.at_ agg25 sz25 rfl) ?_
      refine WL_s rfl rfl ?_
      have _f_17 := (_f_8.ch0 _cw_11)
      have _f_18 := (_f_9.ch0 _cw_11)
      have _f_19 := (_f_10.ch0 _cw_11)
      refine Step.call (r_call (xs := [.tmp 18]) fk17 rfl) (c_laws_toAutomaton _ _f_17 _f_19 _f_18 (by omega)) fun _v19 _w_20 _q19 => ?_
      obtain ⟨_u19, _t19, vs19, rfl, _q19, _lo19, _q219, _lo219, od19, _cw_20⟩ := _q19
      have _cw_20z := _cw_20.size
      have E := E.trans _cw_20
      obtain ⟨_Au19, _Cu19, _eu19⟩ := _q19.val
      subst _eu19
      have _lu19 := _q19.len
      have _hiu19 := _q19.lt
      obtain ⟨_At19, _Ct19, _et19⟩ := _q219.val
      subst _et19
      have _lt19 := _q219.len
      have _hit19 := _q219.lt
      refine WL_step rfl rfl (r_move rfl) ?_
      refine WL_s rfl rfl ?_
      have _f_21 := (((_h_wd.ch0 _cw_2).ch0 _cw_11).ch0 _cw_20)
      refine Step.call (r_call (xs := [.tmp 20]) fk25 rfl) (c_laws_toIntS _f_21 (by omega)) fun _v21 _w_22 _q21 => ?_
      obtain ⟨_q21, _lo21, _cw_22⟩ := _q21
      have _cw_22z := _cw_22.size
      have E := E.trans _cw_22
      obtain ⟨_Av21, _Cv21, _ev21⟩ := _q21.val
      subst _ev21
      have _lv21 := _q21.len
      have _hiv21 := _q21.lt
      refine WL_s rfl rfl ?_
      have _f_23 := (_q19.ch0 _cw_22)
      have _f_24 := (od19.ch0 _cw_22)
      have _f_25 := (_q219.ch0 _cw_22)
      refine Step.call (r_call (xs := [.tmp 19, .tmp 21]) fk30 rfl) (c_spec_AcceptsWord _ _f_23.ls _f_25.ls _f_24.rd _q21.ls ) fun _v22 _w_26 _q22 => ?_
      obtain ⟨rfl, _cw_26⟩ := _q22
      have _cw_26z := _cw_26.size
      have E := E.trans _cw_26
      refine WL_step rfl rfl (r_assign rfl) ?_
      refine WL_nil ?_
      refine thn_nrm (_hK_15 _ _ ?_)
      clear _hK_15
      refine W_seq fun _K_27 _hK_27 => ?_
      refine W_region ?_
      have _f_28 := (((_f_16.ch0 _cw_20).ch0 _cw_22).ch0 _cw_26)
      refine WL_step rfl rfl (r_loadAtA0 _f_28.at_ agg25 sz25 rfl) ?_
      refine WL_s rfl rfl ?_
      have _f_29 := (((_f_17.ch0 _cw_20).ch0 _cw_22).ch0 _cw_26)
      have _f_30 := (((_f_18.ch0 _cw_20).ch0 _cw_22).ch0 _cw_26)
      have _f_31 := (((_f_19.ch0 _cw_20).ch0 _cw_22).ch0 _cw_26)
      refine Step.call (r_call (xs := [.tmp 23]) fk17 rfl) (c_laws_toAutomaton _ _f_29 _f_31 _f_30 (by omega)) fun _v24 _w_32 _q24 => ?_
      obtain ⟨_u24, _t24, vs24, rfl, _q24, _lo24, _q224, _lo224, od24, _cw_32⟩ := _q24
      have _cw_32z := _cw_32.size
      have E := E.trans _cw_32
      obtain ⟨_Au24, _Cu24, _eu24⟩ := _q24.val
      subst _eu24
      have _lu24 := _q24.len
      have _hiu24 := _q24.lt
      obtain ⟨_At24, _Ct24, _et24⟩ := _q224.val
      subst _et24
      have _lt24 := _q224.len
      have _hit24 := _q224.lt
      refine WL_s rfl rfl ?_
      refine s_alloc zr28 fun _b7 _w_33 _m7 _cw_33 _e7 => ?_
      have _cw_33z := _cw_33.size
      have E := E.trans _cw_33
      have _z7 := _m7.lt
      replace _m7 : Blk _w_33 _b7 28 [(.int .i64 0), (.slice none 0 0), (.slice none 0 0)] := _m7
      refine WL_s rfl rfl ?_
      refine s_storeA (off := 0) 3 _m7 sz28 rfl (us := [(.int .i64 aS), (.slice _Au24 (aA).length _Cu24), (.slice _At24 (vs24).length _Ct24)]) rfl rfl rfl rfl fun _w_34 _m_35 _cw_34 => ?_
      have _cw_34z := _cw_34.size
      have E := E.step _cw_34 (fun i hi => .inl (by have _h1 := List.mem_singleton.1 hi; omega))
      replace _m_35 : Blk _w_34 _b7 28 [(.int .i64 aS), (.slice _Au24 (aA).length _Cu24), (.slice _At24 (vs24).length _Ct24)] := _m_35
      refine WL_nil ?_
      refine thn_nrm (_hK_27 _ _ ?_)
      clear _hK_27
      refine W_seq fun _K_36 _hK_36 => ?_
      refine W_region ?_
      refine WL_step rfl rfl (r_move rfl) ?_
      refine WL_s rfl rfl ?_
      have _f_37 := (((((_f_21.ch0 _cw_22).ch0 _cw_26).ch0 _cw_32).ch0 _cw_33).ch _cw_34 (fun i hi => by have _h1 := List.mem_singleton.1 hi; omega))
      refine Step.call (r_call (xs := [.tmp 25]) fk25 rfl) (c_laws_toIntS _f_37 (by omega)) fun _v26 _w_38 _q26 => ?_
      obtain ⟨_q26, _lo26, _cw_38⟩ := _q26
      have _cw_38z := _cw_38.size
      have E := E.trans _cw_38
      obtain ⟨_Av26, _Cv26, _ev26⟩ := _q26.val
      subst _ev26
      have _lv26 := _q26.len
      have _hiv26 := _q26.lt
      refine WL_step rfl rfl (r_assign rfl) ?_
      refine WL_nil ?_
      refine thn_nrm (_hK_36 _ _ ?_)
      clear _hK_36
      refine W_seq fun _K_39 _hK_39 => ?_
      refine W_region ?_
      have _f_40 := (_m_35.ch0 _cw_38)
      refine WL_step rfl rfl (r_loadAtA0 _f_40.at_ agg28 sz28 rfl) ?_
      refine WL_step rfl rfl (r_move rfl) ?_
      refine WL_s rfl rfl ?_
      have _f_41 := (((_q24.ch0 _cw_33).ch _cw_34 (fun g hg hm => by have _h0 := List.mem_singleton.1 hm; have _h2 := _lo24 _ hg; have _h3 := _hiu24 _ hg; omega)).ch0 _cw_38)
      have _f_42 := (((od24.ch0 _cw_33).ch _cw_34 (fun i hi => by have _h1 := List.mem_singleton.1 hi; omega)).ch0 _cw_38)
      have _f_43 := (((_q224.ch0 _cw_33).ch _cw_34 (fun g hg hm => by have _h0 := List.mem_singleton.1 hm; have _h2 := _lo224 _ hg; have _h3 := _hit24 _ hg; omega)).ch0 _cw_38)
      refine Step.call (r_call (xs := [.tmp 27, .tmp 28]) fk31 rfl) (c_impl_AcceptsWord _ _f_41.ls _f_43.ls _f_42.rd _q26.ls ) fun _v29 _w_44 _q29 => ?_
      obtain ⟨rfl, _cw_44⟩ := _q29
      have _cw_44z := _cw_44.size
      have E := E.trans _cw_44
      refine WL_step rfl rfl (r_assign rfl) ?_
      refine WL_nil ?_
      refine thn_nrm (_hK_39 _ _ ?_)
      clear _hK_39
      refine W_seq fun _K_45 _hK_45 => ?_
      refine W_seq fun _K_46 _hK_46 => ?_
      refine W_region ?_
      refine WL_step rfl rfl (r_move rfl) ?_
      refine WL_step rfl rfl (r_move rfl) ?_
      refine WL_step rfl rfl (r_neqB un4 rfl rfl) ?_
      refine WL_nil ?_
      refine thn_nrm (_hK_46 _ _ ?_)
      clear _hK_46
      refine W_cond rfl (fun _h32 => ?_) (fun _h32 => ?_)
      · have _h32 := bf_e (bt_n _h32)
        refine W_seq fun _K_47 _hK_47 => ?_
        refine W_region ?_
        refine WL_step rfl rfl (r_assign rfl) ?_
        refine WL_nil ?_
        refine thn_nrm (_hK_47 _ _ ?_)
        clear _hK_47
        refine W_ret (thn_ret ?_)
        clear _hK_45
        exact ret_intro [_] ⟨rfl, trivial⟩ ⟨congrArg Value.bool (by first | rfl | (exfalso; omega) | (exfalso; revert _h32; simp; done) | (exfalso; revert _h32; simp; omega)), E⟩
      · have _h32 := bt_e (bf_n _h32)
        refine W_skip ?_
        refine thn_nrm (_hK_45 _ _ ?_)
        clear _hK_45
        refine W_seq fun _K_48 _hK_48 => ?_
        refine W_seq fun _K_49 _hK_49 => ?_
        refine W_drawC [] 5 mixed rfl fun _w_50 _cw_50 => ?_
        have _cw_50z := _cw_50.size
        have E := E.trans _cw_50
        have _f_51 := ((_f_40.ch0 _cw_44).ch0 _cw_50)
        refine DR_s 0 rfl (by kernel_rfl) rfl rfl (t_loadAtA0 _f_51.at_ (fun i hi => by first | exact absurd hi (List.not_mem_nil) | (have _h1 := List.mem_singleton.1 hi; omega)) agg28 sz28 rfl ?_)
        have _f_52 := ((((((_f_28.ch0 _cw_32).ch0 _cw_33).ch _cw_34 (fun hm => by have _h1 := List.mem_singleton.1 hm; omega)).ch0 _cw_38).ch0 _cw_44).ch0 _cw_50)
        refine DR_s 1 rfl (by kernel_rfl) rfl rfl (t_loadAtA0 _f_52.at_ (fun i hi => by first | exact absurd hi (List.not_mem_nil) | (have _h1 := List.mem_singleton.1 hi; omega)) agg25 sz25 rfl ?_)
        refine DR_one 2 (by kernel_rfl) ?_
        refine DO_s rfl rfl rfl ?_
        have _f_53 := ((((((_f_29.ch0 _cw_32).ch0 _cw_33).ch _cw_34 (fun i hi => by have _h1 := List.mem_singleton.1 hi; omega)).ch0 _cw_38).ch0 _cw_44).ch0 _cw_50)
        have _f_54 := ((((((_f_30.ch0 _cw_32).ch0 _cw_33).ch _cw_34 (fun i hi => by have _h1 := List.mem_singleton.1 hi; omega)).ch0 _cw_38).ch0 _cw_44).ch0 _cw_50)
        have _f_55 := ((((((_f_31.ch0 _cw_32).ch0 _cw_33).ch _cw_34 (fun i hi => by have _h1 := List.mem_singleton.1 hi; omega)).ch0 _cw_38).ch0 _cw_44).ch0 _cw_50)
        refine Step.call (r_call (xs := [.tmp 34]) fk17 rfl) (c_laws_toAutomaton _ _f_53 _f_55 _f_54 (by omega)) fun _v35 _w_56 _q35 => ?_
        obtain ⟨_u35, _t35, vs35, rfl, _q35, _lo35, _q235, _lo235, od35, _cw_56⟩ := _q35
        have _cw_56z := _cw_56.size
        have E := E.trans _cw_56
        obtain ⟨_Au35, _Cu35, _eu35⟩ := _q35.val
        subst _eu35
        have _lu35 := _q35.len
        have _hiu35 := _q35.lt
        obtain ⟨_At35, _Ct35, _et35⟩ := _q235.val
        subst _et35
        have _lt35 := _q235.len
        have _hit35 := _q235.lt
        have _S_57 : Ch [] _w_50 _w_56 := ((Ch.refl _ _).trans _cw_56.of_nil)
        refine ⟨_S_57, ?_⟩
        refine DR_one 3 (by kernel_rfl) ?_
        refine DO_s rfl rfl rfl ?_
        have _f_58 := (((_f_41.ch0 _cw_44).ch0 _cw_50).ch0 _cw_56)
        have _f_59 := (((_f_42.ch0 _cw_44).ch0 _cw_50).ch0 _cw_56)
        have _f_60 := (((_f_43.ch0 _cw_44).ch0 _cw_50).ch0 _cw_56)
        refine Step.call (r_call (xs := [.tmp 33, .tmp 35]) fk19 rfl) (c_laws_eqAutomaton _ _f_58.ls _f_60.ls _f_59.rd _ _q35.ls _q235.ls od35.rd ) fun _v36 _w_61 _q36 => ?_
        obtain ⟨rfl, _cw_61⟩ := _q36
        have _cw_61z := _cw_61.size
        have E := E.trans _cw_61
        have _S_62 : Ch [] _w_50 _w_61 := (_S_57.trans _cw_61.of_nil)
        refine ⟨_S_62, ?_⟩
        refine DR_s 4 rfl (by kernel_rfl) rfl rfl (t_v (fun _ => (r_not rfl)) ?_)
        refine DR_done (by kernel_rfl) ?_
        refine thn_nrm (_hK_49 _ _ ?_)
        clear _hK_49
        refine W_cond rfl (fun _h37 => ?_) (fun _h37 => ?_)
        · have _h37 := bf_d (bt_n _h37)
          refine W_seq fun _K_63 _hK_63 => ?_
          refine W_region ?_
          refine WL_step rfl rfl (r_assign rfl) ?_
          refine WL_nil ?_
          refine thn_nrm (_hK_63 _ _ ?_)
          clear _hK_63
          refine W_ret (thn_ret ?_)
          clear _hK_48
          exact ret_intro [_] ⟨rfl, trivial⟩ ⟨congrArg Value.bool (by first | rfl | (exfalso; omega) | (exfalso; revert _h37; simp; done) | (exfalso; revert _h37; simp; omega)), E⟩
        · have _h37 := bt_d (bf_n _h37)
          refine W_skip ?_
          refine thn_nrm (_hK_48 _ _ ?_)
          clear _hK_48
          refine W_seq fun _K_64 _hK_64 => ?_
          refine W_seq fun _K_65 _hK_65 => ?_
          refine W_region ?_
          refine WL_step rfl rfl (r_move rfl) ?_
          refine WL_step rfl rfl (r_move rfl) ?_
          refine WL_s rfl rfl ?_
          have _f_66 := (((((_f_37.ch0 _cw_38).ch0 _cw_44).ch0 _cw_50).ch0 _cw_56).ch0 _cw_61)
          refine Step.call (r_call (xs := [.tmp 39]) fk25 rfl) (c_laws_toIntS _f_66 (by omega)) fun _v40 _w_67 _q40 => ?_
          obtain ⟨_q40, _lo40, _cw_67⟩ := _q40
          have _cw_67z := _cw_67.size
          have E := E.trans _cw_67
          obtain ⟨_Av40, _Cv40, _ev40⟩ := _q40.val
          subst _ev40
          have _lv40 := _q40.len
          have _hiv40 := _q40.lt
          refine WL_s rfl rfl ?_
          have _f_68 := (((((_q26.ch0 _cw_44).ch0 _cw_50).ch0 _cw_56).ch0 _cw_61).ch0 _cw_67)
          refine Step.call (r_call (xs := [.tmp 38, .tmp 40]) fk27 rfl) (c_laws_eqIntS _f_68.ls _q40.ls ) fun _v41 _w_69 _q41 => ?_
          obtain ⟨rfl, _cw_69⟩ := _q41
          have _cw_69z := _cw_69.size
          have E := E.trans _cw_69
          refine WL_step rfl rfl (r_not rfl) ?_
          refine WL_nil ?_
          refine thn_nrm (_hK_65 _ _ ?_)
          clear _hK_65
          refine W_cond rfl (fun _h42 => ?_) (fun _h42 => ?_)
          · have _h42 := bf_d (bt_n _h42)
            refine W_seq fun _K_70 _hK_70 => ?_
            refine W_region ?_
            refine WL_step rfl rfl (r_assign rfl) ?_
            refine WL_nil ?_
            refine thn_nrm (_hK_70 _ _ ?_)
            clear _hK_70
            refine W_ret (thn_ret ?_)
            clear _hK_64
            exact ret_intro [_] ⟨rfl, trivial⟩ ⟨congrArg Value.bool (by first | rfl | (exfalso; omega) | (exfalso; revert _h42; simp; done) | (exfalso; revert _h42; simp; omega)), E⟩
          · have _h42 := bt_d (bf_n _h42)
            refine W_skip ?_
            refine thn_nrm (_hK_64 _ _ ?_)
            clear _hK_64
            refine W_seq fun _K_71 _hK_71 => ?_
            refine W_region ?_
            refine WL_step rfl rfl (r_assign rfl) ?_
            refine WL_nil ?_
            refine thn_nrm (_hK_71 _ _ ?_)
            clear _hK_71
            refine W_ret ?_
            exact ret_intro [_] ⟨rfl, trivial⟩ ⟨congrArg Value.bool (by first | rfl | (exfalso; omega) | (exfalso; revert _h42; simp; done) | (exfalso; revert _h42; simp; omega)), E⟩

end Go.Proofs.Ytdhadlkeogoiiaa
