/- Walks of functions that FnExactIsFiniteLanguage reaches: what each returns, and that it leaves the memory that was there alone. -/
import Derived.Test.YtmjldcgddhnmpaaLibA
import Derived.Test.YtmjldcgddhnmpaaLibB
import Derived.Test.YtmjldcgddhnmpaaLibC
import Derived.Test.YtmjldcgddhnmpaaProg
namespace Go.Proofs.Ytmjldcgddhnmpaa
open Go.KLib Go.Shelf
set_option maxHeartbeats 1000000
set_option maxRecDepth 20000
set_option linter.unusedVariables false
set_option linter.unusedSimpArgs false
namespace TExactIsFiniteLanguage
theorem agg26 : aggB Try.prog 26 = some false := by kernel_rfl
theorem agg3 : aggB Try.prog 3 = some false := by kernel_rfl
theorem agg37 : aggB Try.prog 37 = some false := by kernel_rfl
theorem agg4 : aggB Try.prog 4 = some false := by kernel_rfl
theorem agg42 : aggB Try.prog 42 = some true := by kernel_rfl
theorem agg46 : aggB Try.prog 46 = some false := by kernel_rfl
theorem by3 : bytesB Try.prog 3 = some 8 := by kernel_rfl
theorem by4 : bytesB Try.prog 4 = some 1 := by kernel_rfl
theorem by46 : bytesB Try.prog 46 = some 24 := by kernel_rfl
theorem el26 : elB Try.prog 26 = some 46 := by kernel_rfl
theorem el37 : elB Try.prog 37 = some 4 := by kernel_rfl
theorem el46 : elB Try.prog 46 = some 3 := by kernel_rfl
theorem fa39_0 : faB Try.prog 39 0 = some 0 := by kernel_rfl
theorem fa39_1 : faB Try.prog 39 1 = some 1 := by kernel_rfl
theorem fa39_2 : faB Try.prog 39 2 = some 2 := by kernel_rfl
theorem fa42_0 : faB Try.prog 42 0 = some 0 := by kernel_rfl
theorem fa42_1 : faB Try.prog 42 1 = some 1 := by kernel_rfl
theorem fa42_2 : faB Try.prog 42 2 = some 2 := by kernel_rfl
theorem fk11 : fnB Try.prog 11 = true := by kernel_rfl
theorem fk118 : fnB Try.prog 118 = true := by kernel_rfl
theorem fk121 : fnB Try.prog 121 = true := by kernel_rfl
theorem fk122 : fnB Try.prog 122 = true := by kernel_rfl
theorem fk123 : fnB Try.prog 123 = true := by kernel_rfl
theorem fk153 : fnB Try.prog 153 = true := by kernel_rfl
theorem fk44 : fnB Try.prog 44 = true := by kernel_rfl
theorem fk49 : fnB Try.prog 49 = true := by kernel_rfl
theorem fk53 : fnB Try.prog 53 = true := by kernel_rfl
theorem fk58 : fnB Try.prog 58 = true := by kernel_rfl
theorem fk59 : fnB Try.prog 59 = true := by kernel_rfl
theorem fk63 : fnB Try.prog 63 = true := by kernel_rfl
theorem fk64 : fnB Try.prog 64 = true := by kernel_rfl
theorem fk65 : fnB Try.prog 65 = true := by kernel_rfl
theorem fk66 : fnB Try.prog 66 = true := by kernel_rfl
theorem fk67 : fnB Try.prog 67 = true := by kernel_rfl
theorem fk68 : fnB Try.prog 68 = true := by kernel_rfl
theorem fk69 : fnB Try.prog 69 = true := by kernel_rfl
theorem fk70 : fnB Try.prog 70 = true := by kernel_rfl
theorem fk71 : fnB Try.prog 71 = true := by kernel_rfl
theorem fk72 : fnB Try.prog 72 = true := by kernel_rfl
theorem fk73 : fnB Try.prog 73 = true := by kernel_rfl
theorem fk74 : fnB Try.prog 74 = true := by kernel_rfl
theorem fk78 : fnB Try.prog 78 = true := by kernel_rfl
theorem mixed : Try.prog.follows .mixedOrders = true := by kernel_rfl
theorem sz26 : sizeB Try.prog 26 = some 1 := by kernel_rfl
theorem sz3 : sizeB Try.prog 3 = some 1 := by kernel_rfl
theorem sz37 : sizeB Try.prog 37 = some 1 := by kernel_rfl
theorem sz4 : sizeB Try.prog 4 = some 1 := by kernel_rfl
theorem sz42 : sizeB Try.prog 42 = some 3 := by kernel_rfl
theorem sz46 : sizeB Try.prog 46 = some 1 := by kernel_rfl
theorem un4 : Try.prog.underlying 4 = some (.bool) := by kernel_rfl
theorem zr3 : zeroB Try.prog 3 = some (.int .i64 0) := by kernel_rfl
theorem zr4 : zeroB Try.prog 4 = some (.bool false) := by kernel_rfl
theorem zr42 : zeroB Try.prog 42 = some (.agg #[.int .i64 0, .slice none 0 0, .slice none 0 0]) := by kernel_rfl
theorem zr46 : zeroB Try.prog 46 = some (.slice none 0 0) := by kernel_rfl
end TExactIsFiniteLanguage
open TExactIsFiniteLanguage

/-- impl.within -/
theorem c_impl_within {w : World} (n : Int) (a : Int) (b : Int) :
    Ctr Try.prog 49 #[(.int .i64 n), (.int .i64 a), (.int .i64 b)] w (fun v w' => v = .bool (decide (a ≤ n ∧ n ≤ b)) ∧ Ch [] w w') := by
  have E := Ch.refl [] w
  refine Ctr_of_W (N := 15) (vs0 := [(.int .i64 n), (.int .i64 a), (.int .i64 b)]) Try.func49 rfl rfl rfl ?_
  refine W_seq fun _K_1 _hK_1 => ?_
  refine W_region ?_
  refine WL_step rfl rfl (r_assign rfl) ?_
  refine WL_nil ?_
  refine thn_nrm (_hK_1 _ _ ?_)
  clear _hK_1
  refine W_seq fun _K_2 _hK_2 => ?_
  refine W_region ?_
  refine WL_step rfl rfl (r_move rfl) ?_
  refine WL_step rfl rfl (r_move rfl) ?_
  refine WL_step rfl rfl (r_geq rfl rfl) ?_
  refine WL_step rfl rfl (r_move rfl) ?_
  refine WL_split (d := 10) rfl (fun _h10 => ?_) (fun _h10 => ?_)
  · have _kb_3 := _h10
    have _h10 := bt_d _h10
    refine WL_step rfl rfl (r_move rfl) ?_
    refine WL_step rfl rfl (r_move rfl) ?_
    refine WL_step rfl rfl (r_leq rfl rfl) ?_
    refine WL_step rfl rfl (r_pickT rfl rfl) ?_
    refine WL_step rfl rfl (r_assign rfl) ?_
    refine WL_nil ?_
    refine thn_nrm (_hK_2 _ _ ?_)
    clear _hK_2
    refine W_ret ?_
    exact ret_intro [_] ⟨rfl, trivial⟩ ⟨congrArg Value.bool (by first | rfl | (rw [Bool.eq_iff_iff]; simp <;> omega) | (rw [Bool.eq_iff_iff]; simp_all; done) | simp_all), E⟩
  · have _kb_3 := _h10
    have _h10 := bf_d _h10
    refine WL_skip rfl rfl ?_
    refine WL_skip rfl rfl ?_
    refine WL_skip rfl rfl ?_
    refine WL_step rfl rfl (r_pickF rfl rfl) ?_
    refine WL_step rfl rfl (r_assign rfl) ?_
    refine WL_nil ?_
    refine thn_nrm (_hK_2 _ _ ?_)
    clear _hK_2
    refine W_ret ?_
    exact ret_intro [_] ⟨rfl, trivial⟩ ⟨congrArg Value.bool (by first | rfl | (rw [Bool.eq_iff_iff]; simp <;> omega) | (rw [Bool.eq_iff_iff]; simp_all; done) | simp_all), E⟩

/-- impl.IsValidAutomaton -/
theorem c_impl_IsValidAutomaton {w : World} (aS : Int) {LL_aA _B_aA : Nat} {_v_aA : Value} {aA : List Bool} (_h_aA : Ls bcs 1 w LL_aA _B_aA _v_aA aA) {LL_saN _B_saN : Nat} {_v_saN : Value} {saN : List Sv} (_h_saN : Ls Sv.cs 1 w LL_saN _B_saN _v_saN saN) {LR_aN BB_aN : Nat} {aN : List (List Int)} (_rd_aN : Rd ics 1 w LR_aN BB_aN saN aN) :
    Ctr Try.prog 65 #[(.agg #[(.int .i64 aS), _v_aA, _v_saN])] w (fun v w' => v = .bool (tt (ValidA aS aA aN)) ∧ Ch [] w w') := by
  obtain ⟨_A_aA, _C_aA, _e1_aA⟩ := _h_aA.val
  subst _e1_aA
  have _l_aA := _h_aA.len
  have _h_aA := _h_aA.here (by decide)
  obtain ⟨_A_saN, _C_saN, _e1_saN⟩ := _h_saN.val
  subst _e1_saN
  have _l_saN := _h_saN.len
  have _h_saN := _h_saN.here (by decide)
  have _rd_aN := _rd_aN.here (by decide)
  have _rl_aN := _rd_aN.1
  have E := Ch.refl [] w
  refine Ctr_of_W (N := 52) (vs0 := [(.agg #[(.int .i64 aS), (.slice _A_aA aA.length _C_aA), (.slice _A_saN saN.length _C_saN)])]) Try.func65 rfl rfl rfl ?_
  refine W_seq fun _K_1 _hK_1 => ?_
  refine W_region ?_
  refine WL_s rfl rfl ?_
  refine s_box rfl fun _b1 _w_2 _m1 _cw_2 _e1 => ?_
  have _cw_2z := _cw_2.size
  have E := E.trans _cw_2
  have _z1 := _m1.lt
  replace _m1 : Blk _w_2 _b1 42 [(.int .i64 aS), (.slice _A_aA aA.length _C_aA), (.slice _A_saN saN.length _C_saN)] := _m1
  refine WL_step rfl rfl (r_assign rfl) ?_
  refine WL_nil ?_
  refine thn_nrm (_hK_1 _ _ ?_)
  clear _hK_1
  refine W_seq fun _K_3 _hK_3 => ?_
  refine W_region ?_
  refine WL_step rfl rfl (r_fieldAddr fa42_1 rfl) ?_
  refine WL_step rfl rfl (r_loadAt _m1.at_ agg37 rfl rfl) ?_
  refine WL_step rfl rfl (r_len (by rw [el37]; rfl) rfl) ?_
  refine WL_step rfl rfl (r_assign rfl) ?_
  refine WL_nil ?_
  refine thn_nrm (_hK_3 _ _ ?_)
  clear _hK_3
  refine W_seq fun _K_4 _hK_4 => ?_
  refine W_seq fun _K_5 _hK_5 => ?_
  refine W_region ?_
  refine WL_step rfl rfl (r_move rfl) ?_
  refine WL_s rfl rfl ?_
  refine Step.call (r_call (xs := [.tmp 11, .const (Go.Value.int Go.IntKind.i64 1), .const (Go.Value.int Go.IntKind.i64 12)]) fk49 rfl) (c_impl_within _ _ _ ) fun _v12 _w_6 _q12 => ?_
  obtain ⟨rfl, _cw_6⟩ := _q12
  have _cw_6z := _cw_6.size
  have E := E.trans _cw_6
  refine WL_step rfl rfl (r_not rfl) ?_
  refine WL_step rfl rfl (r_move rfl) ?_
  refine WL_split (d := 14) rfl (fun _h14 => ?_) (fun _h14 => ?_)
  · have _kb_7 := _h14
    have _h14 := bf_d (bt_n _h14)
    refine WL_skip rfl rfl ?_
    refine WL_skip rfl rfl ?_
    refine WL_skip rfl rfl ?_
    refine WL_skip rfl rfl ?_
    refine WL_skip rfl rfl ?_
    refine WL_skip rfl rfl ?_
    refine WL_step rfl rfl (r_pickT rfl rfl) ?_
    refine WL_step rfl rfl (r_move rfl) ?_
    refine WL_skip rfl rfl ?_
    refine WL_skip rfl rfl ?_
    refine WL_skip rfl rfl ?_
    refine WL_skip rfl rfl ?_
    refine WL_skip rfl rfl ?_
    refine WL_step rfl rfl (r_pickT rfl rfl) ?_
    refine WL_nil ?_
    refine thn_nrm (_hK_5 _ _ ?_)
    clear _hK_5
    refine W_condT rfl ?_
    refine W_seq fun _K_8 _hK_8 => ?_
    refine W_region ?_
    refine WL_step rfl rfl (r_assign rfl) ?_
    refine WL_nil ?_
    refine thn_nrm (_hK_8 _ _ ?_)
    clear _hK_8
    refine W_ret (thn_ret ?_)
    clear _hK_4
    exact ret_intro [_] ⟨rfl, trivial⟩ ⟨congrArg Value.bool (by first | exact tt_true ⟨by omega, _h22, by omega, rows_all _ht (by omega)⟩ | exact tt_false (fun e => _h14 (by have _h1 := e.1; have _h2 := e.2.1; omega)) | exact tt_false (fun e => _h22 e.2.1) | exact tt_false (fun e => _h28 (by have _h1 := e.2.2.1; omega)) | exact tt_false (fun e => _h46 (fits_el e.2 _hys34 _hy40)) | exact tt_false (fun e => _h50 (by have _h1 := (fits_row e.2 _hys34).1; omega))), E⟩
  · have _kb_7 := _h14
    have _h14 := bt_d (bf_n _h14)
    refine WL_step rfl rfl (r_fieldAddr fa42_0 rfl) ?_
    have _f_9 := (_m1.ch0 _cw_6)
    refine WL_step rfl rfl (r_loadAt _f_9.at_ agg3 rfl rfl) ?_
    refine WL_step rfl rfl (r_move rfl) ?_
    refine WL_step rfl rfl (r_sub (by omega) rfl rfl) ?_
    refine WL_s rfl rfl ?_
    refine Step.call (r_call (xs := [.tmp 16, .const (Go.Value.int Go.IntKind.i64 0), .tmp 18]) fk49 rfl) (c_impl_within _ _ _ ) fun _v19 _w_10 _q19 => ?_
    obtain ⟨rfl, _cw_10⟩ := _q19
    have _cw_10z := _cw_10.size
    have E := E.trans _cw_10
    refine WL_step rfl rfl (r_not rfl) ?_
    refine WL_step rfl rfl (r_pickF rfl rfl) ?_
    refine WL_step rfl rfl (r_move rfl) ?_
    refine WL_split (d := 22) rfl (fun _h22 => ?_) (fun _h22 => ?_)
    · have _kb_11 := _h22
      have _h22 := bf_d (bt_n _h22)
      refine WL_skip rfl rfl ?_
      refine WL_skip rfl rfl ?_
      refine WL_skip rfl rfl ?_
      refine WL_skip rfl rfl ?_
      refine WL_skip rfl rfl ?_
      refine WL_step rfl rfl (r_pickT rfl rfl) ?_
      refine WL_nil ?_
      refine thn_nrm (_hK_5 _ _ ?_)
      clear _hK_5
      refine W_condT rfl ?_
      refine W_seq fun _K_12 _hK_12 => ?_
      refine W_region ?_
      refine WL_step rfl rfl (r_assign rfl) ?_
      refine WL_nil ?_
      refine thn_nrm (_hK_12 _ _ ?_)
      clear _hK_12
      refine W_ret (thn_ret ?_)
      clear _hK_4
      exact ret_intro [_] ⟨rfl, trivial⟩ ⟨congrArg Value.bool (by first | exact tt_true ⟨by omega, _h22, by omega, rows_all _ht (by omega)⟩ | exact tt_false (fun e => _h14 (by have _h1 := e.1; have _h2 := e.2.1; omega)) | exact tt_false (fun e => _h22 e.2.1) | exact tt_false (fun e => _h28 (by have _h1 := e.2.2.1; omega)) | exact tt_false (fun e => _h46 (fits_el e.2 _hys34 _hy40)) | exact tt_false (fun e => _h50 (by have _h1 := (fits_row e.2 _hys34).1; omega))), E⟩
    · have _kb_11 := _h22
      have _h22 := bt_d (bf_n _h22)
      refine WL_step rfl rfl (r_fieldAddr fa42_2 rfl) ?_
      have _f_13 := (_f_9.ch0 _cw_10)
      refine WL_step rfl rfl (r_loadAt _f_13.at_ agg26 rfl rfl) ?_
      refine WL_step rfl rfl (r_len (by rw [el26]; rfl) rfl) ?_
      refine WL_step rfl rfl (r_move rfl) ?_
      refine WL_step rfl rfl (r_neq rfl rfl) ?_
      refine WL_step rfl rfl (r_pickF rfl rfl) ?_
      refine WL_nil ?_
      refine thn_nrm (_hK_5 _ _ ?_)
      clear _hK_5
      refine W_cond rfl (fun _h28 => ?_) (fun _h28 => ?_)
      · have _kb_14 := _h28
        have _h28 := bf_d (bt_n _h28)
        refine W_seq fun _K_15 _hK_15 => ?_
        refine W_region ?_
        refine WL_step rfl rfl (r_assign rfl) ?_
        refine WL_nil ?_
        refine thn_nrm (_hK_15 _ _ ?_)
        clear _hK_15
        refine W_ret (thn_ret ?_)
        clear _hK_4
        exact ret_intro [_] ⟨rfl, trivial⟩ ⟨congrArg Value.bool (by first | exact tt_true ⟨by omega, _h22, by omega, rows_all _ht (by omega)⟩ | exact tt_false (fun e => _h14 (by have _h1 := e.1; have _h2 := e.2.1; omega)) | exact tt_false (fun e => _h22 e.2.1) | exact tt_false (fun e => _h28 (by have _h1 := e.2.2.1; omega)) | exact tt_false (fun e => _h46 (fits_el e.2 _hys34 _hy40)) | exact tt_false (fun e => _h50 (by have _h1 := (fits_row e.2 _hys34).1; omega))), E⟩
      · have _kb_14 := _h28
        have _h28 := bt_d (bf_n _h28)
        refine W_skip ?_
        refine thn_nrm (_hK_4 _ _ ?_)
        clear _hK_4
        refine W_seq fun _K_16 _hK_16 => ?_
        refine W_seq fun _K_17 _hK_17 => ?_
        refine W_region ?_
        refine WL_step rfl rfl (r_fieldAddr fa42_2 rfl) ?_
        refine WL_step rfl rfl (r_loadAt _f_13.at_ agg26 rfl rfl) ?_
        refine WL_step rfl rfl (r_len (by rw [el26]; rfl) rfl) ?_
        refine WL_step rfl rfl (r_move rfl) ?_
        refine WL_nil ?_
        refine thn_nrm (_hK_17 _ _ ?_)
        clear _hK_17
        refine W_block ?_
        refine W_loop (σ := Nat) (fun (s : Nat) => [(3, (.int .i64 ((aA.length : Nat) : Int))), (30, (.slice _A_saN saN.length _C_saN)), (31, (.int .i64 ((saN.length : Nat) : Int))), (32, (.int .i64 ((s : Nat) : Int)))]) (fun (s : Nat) wx => Ch [] w wx ∧ _w_10.heap.size ≤ wx.heap.size ∧ (s ≤ aN.length) ∧ (RowsP aA.length aN s)) (fun (s : Nat) => aN.length - s) 0 (Sub.cons rfl (Sub.cons rfl (Sub.cons rfl (Sub.cons rfl (Sub.nil _))))) ⟨E, (Nat.le_refl _), (by omega), (rows_zero _ _)⟩ ?_
        rintro s _wr_18 ⟨E, _zz0, hs, _ht⟩
        have _E0h := E
        have _E0hz := _E0h.size
        refine W_seq fun _K_19 _hK_19 => ?_
        refine W_region ?_
        refine WL_step rfl rfl (r_lss rfl rfl) ?_
        refine WL_nil ?_
        refine thn_nrm (_hK_19 _ _ ?_)
        clear _hK_19
        refine W_seq fun _K_20 _hK_20 => ?_
        refine W_cond rfl (fun _h33 => ?_) (fun _h33 => ?_)
        · have _kb_21 := _h33
          have _h33 := bt_d _h33
          refine W_skip ?_
          refine thn_nrm (_hK_20 _ _ ?_)
          clear _hK_20
          refine W_seq fun _K_22 _hK_22 => ?_
          refine W_block ?_
          refine W_seq fun _K_23 _hK_23 => ?_
          refine W_region ?_
          refine WL_s rfl rfl ?_
          have _f_24 := (_h_saN.ch0 _E0h)
          refine (s_index _f_24 Sv.len el26 sz46 rfl rfl rfl (by omega) fun _p34 _y34 _hy34 _a34 => ?_)
          have _f_25 := (_rd_aN.ch0 _E0h)
          obtain ⟨_ys34, _hys34, _fs34⟩ := _f_25.get _hy34
          obtain ⟨_A34, _n34, _C34⟩ := _y34
          obtain rfl := _fs34.eqn
          have _l34 := _fs34.len
          replace _fs34 : Ls ics 1 _wr_18 LR_aN w.heap.size (.slice _A34 _ys34.length _C34) _ys34 := _fs34
          replace _a34 : At _wr_18 LL_saN w.heap.size _p34 ([(.slice _A34 _ys34.length _C34)]) := _a34
          refine WL_step rfl rfl (r_loadAt0 _a34 agg46 rfl rfl) ?_
          refine WL_step rfl rfl (r_assign rfl) ?_
          refine WL_nil ?_
          refine thn_nrm (_hK_23 _ _ ?_)
          clear _hK_23
          refine W_seq fun _K_26 _hK_26 => ?_
          refine W_seq fun _K_27 _hK_27 => ?_
          refine W_region ?_
          refine WL_step rfl rfl (r_move rfl) ?_
          refine WL_step rfl rfl (r_len (by rw [el46]; rfl) rfl) ?_
          refine WL_step rfl rfl (r_move rfl) ?_
          refine WL_nil ?_
          refine thn_nrm (_hK_27 _ _ ?_)
          clear _hK_27
          refine W_block ?_
          refine W_loop (σ := Nat) (fun (k : Nat) => [(3, (.int .i64 ((aA.length : Nat) : Int))), (5, (.slice _A34 _ys34.length _C34)), (30, (.slice _A_saN saN.length _C_saN)), (31, (.int .i64 ((saN.length : Nat) : Int))), (32, (.int .i64 ((s : Nat) : Int))), (33, (.bool (decide (((s : Nat) : Int) < ((saN.length : Nat) : Int))))), (34, (.pointer (some _p34))), (35, (.slice _A34 _ys34.length _C34)), (36, (.slice _A34 _ys34.length _C34)), (37, (.int .i64 ((_ys34.length : Nat) : Int))), (38, (.int .i64 ((k : Nat) : Int)))]) (fun (k : Nat) wx => Ch [] w wx ∧ _wr_18.heap.size ≤ wx.heap.size ∧ (k ≤ _ys34.length) ∧ (RowP aA.length _ys34 k) ∧ Ls Sv.cs 1 wx LL_saN w.heap.size (.slice _A_saN saN.length _C_saN) saN ∧ Rd ics 1 wx LR_aN w.heap.size saN aN ∧ At wx LL_saN w.heap.size _p34 ([(.slice _A34 _ys34.length _C34)]) ∧ Ls ics 1 wx LR_aN w.heap.size (.slice _A34 _ys34.length _C34) _ys34) (fun (k : Nat) => _ys34.length - k) 0 (Sub.cons rfl (Sub.cons rfl (Sub.cons rfl (Sub.cons rfl (Sub.cons rfl (Sub.cons rfl (Sub.cons rfl (Sub.cons rfl (Sub.cons rfl (Sub.cons rfl (Sub.cons rfl (Sub.nil _)))))))))))) ⟨E, (Nat.le_refl _), (by omega), (rowp_zero _ _), _f_24, _f_25, _a34, _fs34⟩ ?_
          rintro k _wr_28 ⟨E, _zz1, _hk, hp, _F1_0, _F1_1, _F1_2, _F1_3⟩
          have _E1h := E
          have _E1hz := _E1h.size
          refine W_seq fun _K_29 _hK_29 => ?_
          refine W_region ?_
          refine WL_step rfl rfl (r_lss rfl rfl) ?_
          refine WL_nil ?_
          refine thn_nrm (_hK_29 _ _ ?_)
          clear _hK_29
          refine W_seq fun _K_30 _hK_30 => ?_
          refine W_cond rfl (fun _h39 => ?_) (fun _h39 => ?_)
          · have _kb_31 := _h39
            have _h39 := bt_d _h39
            refine W_skip ?_
            refine thn_nrm (_hK_30 _ _ ?_)
            clear _hK_30
            refine W_seq fun _K_32 _hK_32 => ?_
            refine W_block ?_
            refine W_seq fun _K_33 _hK_33 => ?_
            refine W_region ?_
            refine WL_s rfl rfl ?_
            refine (s_index _F1_3 ics_len el46 sz3 rfl rfl rfl (by omega) fun _p40 _y40 _hy40 _a40 => ?_)
            refine WL_step rfl rfl (r_loadAt0 _a40 agg3 rfl rfl) ?_
            refine WL_step rfl rfl (r_assign rfl) ?_
            refine WL_nil ?_
            refine thn_nrm (_hK_33 _ _ ?_)
            clear _hK_33
            refine W_seq fun _K_34 _hK_34 => ?_
            refine W_region ?_
            refine WL_step rfl rfl (r_move rfl) ?_
            refine WL_step rfl rfl (r_move rfl) ?_
            refine WL_step rfl rfl (r_sub (by omega) rfl rfl) ?_
            refine WL_s rfl rfl ?_
            refine Step.call (r_call (xs := [.tmp 42, .const (Go.Value.int Go.IntKind.i64 (-1)), .tmp 44]) fk49 rfl) (c_impl_within _ _ _ ) fun _v45 _w_35 _q45 => ?_
            obtain ⟨rfl, _cw_35⟩ := _q45
            have _cw_35z := _cw_35.size
            have E := E.trans _cw_35
            refine WL_step rfl rfl (r_not rfl) ?_
            refine WL_nil ?_
            refine thn_nrm (_hK_34 _ _ ?_)
            clear _hK_34
            refine W_cond rfl (fun _h46 => ?_) (fun _h46 => ?_)
            · have _kb_36 := _h46
              have _h46 := bf_d (bt_n _h46)
              refine W_seq fun _K_37 _hK_37 => ?_
              refine W_region ?_
              refine WL_step rfl rfl (r_assign rfl) ?_
              refine WL_nil ?_
              refine thn_nrm (_hK_37 _ _ ?_)
              clear _hK_37
              refine W_ret (inB_ret (thn_ret (thn_ret (inB_ret (thn_ret (inB_ret (thn_ret (thn_ret (inB_ret (thn_ret ?_))))))))))
              clear _hK_16 _hK_22 _hK_26 _hK_32
              exact ret_intro [_] ⟨rfl, trivial⟩ ⟨congrArg Value.bool (by first | exact tt_true ⟨by omega, _h22, by omega, rows_all _ht (by omega)⟩ | exact tt_false (fun e => _h14 (by have _h1 := e.1; have _h2 := e.2.1; omega)) | exact tt_false (fun e => _h22 e.2.1) | exact tt_false (fun e => _h28 (by have _h1 := e.2.2.1; omega)) | exact tt_false (fun e => _h46 (fits_el e.2 _hys34 _hy40)) | exact tt_false (fun e => _h50 (by have _h1 := (fits_row e.2 _hys34).1; omega))), E⟩
            · have _kb_36 := _h46
              have _h46 := bt_d (bf_n _h46)
              refine W_skip ?_
              refine inB_nrm ?_
              refine thn_nrm (_hK_32 _ _ ?_)
              clear _hK_32
              refine W_region ?_
              refine WL_step rfl rfl (r_add (by omega) rfl rfl) ?_
              refine WL_step rfl rfl (r_move rfl) ?_
              refine WL_nil ?_
              have _f_38 := (_F1_0.ch0 _cw_35)
              have _f_39 := (_F1_1.ch0 _cw_35)
              have _f_40 := (_F1_2.ch0 _cw_35)
              have _f_41 := (_F1_3.ch0 _cw_35)
              exact thn_nrm (Exists.intro (k + 1) ⟨⟨E, (by omega), (by omega), (rowp_step hp _hy40 _h46), _f_38, _f_39, _f_40, _f_41⟩, Sub.cons rfl (Sub.cons rfl (Sub.cons rfl (Sub.cons rfl (Sub.cons rfl (Sub.cons rfl (Sub.cons rfl (Sub.cons rfl (Sub.cons rfl (Sub.cons rfl (Sub.cons rfl (Sub.nil _))))))))))), (by first | omega | (dsimp only; omega))⟩)
          · have _kb_31 := _h39
            have _h39 := bf_d _h39
            refine W_exit (thn_exit (thn_exit (inB_hit ?_)))
            refine thn_nrm (_hK_26 _ _ ?_)
            clear _hK_26
            refine W_seq fun _K_42 _hK_42 => ?_
            refine W_region ?_
            refine WL_step rfl rfl (r_move rfl) ?_
            refine WL_step rfl rfl (r_len (by rw [el46]; rfl) rfl) ?_
            refine WL_step rfl rfl (r_neq rfl rfl) ?_
            refine WL_nil ?_
            refine thn_nrm (_hK_42 _ _ ?_)
            clear _hK_42
            refine W_cond rfl (fun _h50 => ?_) (fun _h50 => ?_)
            · have _kb_43 := _h50
              have _h50 := bf_d (bt_n _h50)
              refine W_seq fun _K_44 _hK_44 => ?_
              refine W_region ?_
              refine WL_step rfl rfl (r_assign rfl) ?_
              refine WL_nil ?_
              refine thn_nrm (_hK_44 _ _ ?_)
              clear _hK_44
              refine W_ret (inB_ret (thn_ret (thn_ret (inB_ret (thn_ret ?_)))))
              clear _hK_16 _hK_22 _hK_30
              exact ret_intro [_] ⟨rfl, trivial⟩ ⟨congrArg Value.bool (by first | exact tt_true ⟨by omega, _h22, by omega, rows_all _ht (by omega)⟩ | exact tt_false (fun e => _h14 (by have _h1 := e.1; have _h2 := e.2.1; omega)) | exact tt_false (fun e => _h22 e.2.1) | exact tt_false (fun e => _h28 (by have _h1 := e.2.2.1; omega)) | exact tt_false (fun e => _h46 (fits_el e.2 _hys34 _hy40)) | exact tt_false (fun e => _h50 (by have _h1 := (fits_row e.2 _hys34).1; omega))), E⟩
            · have _kb_43 := _h50
              have _h50 := bt_d (bf_n _h50)
              refine W_skip ?_
              refine inB_nrm ?_
              refine thn_nrm (_hK_22 _ _ ?_)
              clear _hK_22
              refine W_region ?_
              refine WL_step rfl rfl (r_add (by omega) rfl rfl) ?_
              refine WL_step rfl rfl (r_move rfl) ?_
              refine WL_nil ?_
              exact thn_nrm (Exists.intro (s + 1) ⟨⟨E, (by omega), (by omega), (rows_step _ht _hys34 ⟨by omega, rowp_all hp (by omega)⟩)⟩, Sub.cons rfl (Sub.cons rfl (Sub.cons rfl (Sub.cons rfl (Sub.nil _)))), (by first | omega | (dsimp only; omega))⟩)
        · have _kb_21 := _h33
          have _h33 := bf_d _h33
          refine W_exit (thn_exit (thn_exit (inB_hit ?_)))
          refine thn_nrm (_hK_16 _ _ ?_)
          clear _hK_16
          refine W_seq fun _K_45 _hK_45 => ?_
          refine W_region ?_
          refine WL_step rfl rfl (r_assign rfl) ?_
          refine WL_nil ?_
          refine thn_nrm (_hK_45 _ _ ?_)
          clear _hK_45
          refine W_ret ?_
          clear _hK_20
          exact ret_intro [_] ⟨rfl, trivial⟩ ⟨congrArg Value.bool (by first | exact tt_true ⟨by omega, _h22, by omega, rows_all _ht (by omega)⟩ | exact tt_false (fun e => _h14 (by have _h1 := e.1; have _h2 := e.2.1; omega)) | exact tt_false (fun e => _h22 e.2.1) | exact tt_false (fun e => _h28 (by have _h1 := e.2.2.1; omega)) | exact tt_false (fun e => _h46 (fits_el e.2 _hys34 _hy40)) | exact tt_false (fun e => _h50 (by have _h1 := (fits_row e.2 _hys34).1; omega))), E⟩

/-- impl.Automaton).found -/
theorem c_impl_Automaton_found {w : World} (aS : Int) {LL_aA _B_aA : Nat} {_v_aA : Value} {aA : List Bool} (_h_aA : Ls bcs 1 w LL_aA _B_aA _v_aA aA) {LL_saN _B_saN : Nat} {_v_saN : Value} {saN : List Sv} (_h_saN : Ls Sv.cs 1 w LL_saN _B_saN _v_saN saN) {LR_aN BB_aN : Nat} {aN : List (List Int)} (_rd_aN : Rd ics 1 w LR_aN BB_aN saN aN) (hv : ValidA aS aA aN) :
    Ctr Try.prog 122 #[(.agg #[(.int .i64 aS), _v_aA, _v_saN])] w (fun v w' => Ol bcs 4 1 w' v (reachL aS aA.length aN) ∧ Lo w.heap.size v ∧ Ch [] w w') := by
  obtain ⟨_A_aA, _C_aA, _e1_aA⟩ := _h_aA.val
  subst _e1_aA
  have _l_aA := _h_aA.len
  have _h_aA := _h_aA.here (by decide)
  obtain ⟨_A_saN, _C_saN, _e1_saN⟩ := _h_saN.val
  subst _e1_saN
  have _l_saN := _h_saN.len
  have _h_saN := _h_saN.here (by decide)
  have _rd_aN := _rd_aN.here (by decide)
  have _rl_aN := _rd_aN.1
  have E := Ch.refl [] w
  have hv2 := hv.2.2.1; have hv1 := hv.1; have hv0 := hv.2.1
  refine Ctr_of_W (N := 53) (vs0 := [(.agg #[(.int .i64 aS), (.slice _A_aA aA.length _C_aA), (.slice _A_saN saN.length _C_saN)])]) Try.func122 rfl rfl rfl ?_
  refine W_seq fun _K_1 _hK_1 => ?_
  refine W_region ?_
  refine WL_s rfl rfl ?_
  refine s_box rfl fun _b1 _w_2 _m1 _cw_2 _e1 => ?_
  have _cw_2z := _cw_2.size
  have E := E.trans _cw_2
  have _z1 := _m1.lt
  replace _m1 : Blk _w_2 _b1 42 [(.int .i64 aS), (.slice _A_aA aA.length _C_aA), (.slice _A_saN saN.length _C_saN)] := _m1
  refine WL_step rfl rfl (r_assign rfl) ?_
  refine WL_nil ?_
  refine thn_nrm (_hK_1 _ _ ?_)
  clear _hK_1
  refine W_seq fun _K_3 _hK_3 => ?_
  refine W_region ?_
  refine WL_step rfl rfl (r_fieldAddr fa42_1 rfl) ?_
  refine WL_step rfl rfl (r_loadAt _m1.at_ agg37 rfl rfl) ?_
  refine WL_step rfl rfl (r_len (by rw [el37]; rfl) rfl) ?_
  refine WL_s rfl rfl ?_
  refine s_make (cs := bcs) false el37 sz4 by4 zr4 bcs_len (by decide) rfl rfl (by omega) (by omega) fun _v10 _w_4 _q10 _lo10 _cw_4 => ?_
  have _cw_4z := _cw_4.size
  have E := E.trans _cw_4
  obtain ⟨_Av10, _Cv10, _ev10⟩ := _q10.val
  subst _ev10
  have _lv10 := _q10.len
  have _hiv10 := _q10.lt
  refine WL_step rfl rfl (r_assign rfl) ?_
  refine WL_nil ?_
  refine thn_nrm (_hK_3 _ _ ?_)
  clear _hK_3
  refine W_seq fun _K_5 _hK_5 => ?_
  refine W_region ?_
  refine WL_step rfl rfl (r_move rfl) ?_
  refine WL_step rfl rfl (r_fieldAddr fa42_0 rfl) ?_
  have _f_6 := (_m1.ch0 _cw_4)
  refine WL_step rfl rfl (r_loadAt _f_6.at_ agg3 rfl rfl) ?_
  refine WL_s rfl rfl ?_
  refine s_indexO (j := aS.toNat) _q10 el37 sz4 rfl rfl (by omega) (by (first | omega | (simp only [List.length_replicate, List.length_set]; omega))) fun _g14 _o14 _cp14 _q14 => ?_
  refine WL_s rfl rfl ?_
  refine s_storeO (j := aS.toNat) true _q10 _q14 bcs_len sz4 rfl rfl rfl rfl (by (first | omega | (simp only [List.length_replicate, List.length_set]; omega))) fun _w_7 _o_8 _cw_7 => ?_
  have _cw_7z := _cw_7.size
  have E := E.step _cw_7 (fun i hi => .inl (by have _h1 := _lo10 _ hi; omega))
  refine WL_nil ?_
  refine thn_nrm (_hK_5 _ _ ?_)
  clear _hK_5
  refine W_seq fun _K_9 _hK_9 => ?_
  refine W_seq fun _K_10 _hK_10 => ?_
  refine W_region ?_
  refine WL_step rfl rfl (r_fieldAddr fa42_0 rfl) ?_
  have _f_11 := (_f_6.ch _cw_7 (fun hm => by have _h1 := _lo10 _ hm; have _h2 := _hiv10 _ hm; omega))
  refine WL_step rfl rfl (r_loadAt _f_11.at_ agg3 rfl rfl) ?_
  refine WL_s rfl rfl ?_
  refine s_buildSlice (cs := ics) (parts := [(0, .tmp 16)]) (0 : Int) [aS] el46 sz3 zr3 ics_len (by decide) rfl rfl rfl (by decide) (by decide) rfl fun _v17 _w_12 _q17 _lo17 _cw_12 => ?_
  have _cw_12z := _cw_12.size
  have E := E.trans _cw_12
  obtain ⟨_Av17, _Cv17, _ev17⟩ := _q17.val
  subst _ev17
  have _lv17 := _q17.len
  have _hiv17 := _q17.lt
  refine WL_step rfl rfl (r_assign rfl) ?_
  refine WL_nil ?_
  refine thn_nrm (_hK_10 _ _ ?_)
  clear _hK_10
  refine W_block ?_
  have _f_13 := (_o_8.ch0 _cw_12)
  have _oi_14 : Ol bcs 4 1 _w_12 (.slice _Av10 ((List.replicate aA.length false)).length _Cv10) (((List.replicate aA.length false).set aS.toNat true)) := by
    have hx := _f_13
    exact hx
  have _oi_15 : Ol ics 3 1 _w_12 (.slice _Av17 ([aS]).length _Cv17) (([aS])) := by
    have hx := _q17
    exact hx
  have _f_16 := (_f_11.ch0 _cw_12)
  refine W_loop (σ := List Bool × List Int × Value) (fun ⟨_o1, _l1, lv⟩ => [(1, (.pointer (some ⟨_b1, 0, none⟩))), (2, (.slice none 0 0)), (3, (.slice _Av10 ((List.replicate aA.length false)).length _Cv10)), (4, lv)]) (fun ⟨_o1, _l1, lv⟩ wx => Ch [] w wx ∧ _w_12.heap.size ≤ wx.heap.size ∧ (_o1.length = aA.length) ∧ (ClBelow (ReachB aS) (BackA aN) _o1) ∧ (_o1[aS.toNat]? = some true) ∧ (InL aA.length _o1 _l1) ∧ (Todo aN _o1 _l1) ∧ (2 * _o1.count false + _l1.length ≤ 100) ∧ Blk wx _b1 42 [(.int .i64 aS), (.slice _A_aA aA.length _C_aA), (.slice _A_saN saN.length _C_saN)] ∧ Ol bcs 4 1 wx (.slice _Av10 ((List.replicate aA.length false)).length _Cv10) _o1 ∧ Ol ics 3 1 wx lv _l1 ∧ Lo _w_7.heap.size lv) (fun ⟨_o1, _l1, lv⟩ => 2 * _o1.count false + _l1.length) (((List.replicate aA.length false).set aS.toNat true), ([aS]), (.slice _Av17 ([aS]).length _Cv17)) (Sub.cons rfl (Sub.cons rfl (Sub.cons rfl (Sub.cons rfl (Sub.nil _))))) ⟨E, (Nat.le_refl _), (by simp), (reach_base (by omega) (by omega)), (set_here (by simp; omega)), (inl_start (by omega) (by omega)), (todo_start (by omega)), (by have _h9 := List.count_le_length (a := false) (l := (List.replicate aA.length false).set aS.toNat true); simp only [List.length_set, List.length_replicate] at _h9; simp only [List.length_singleton]; omega), _f_16, _oi_14, _oi_15, _lo17⟩ ?_
  rintro ⟨_o1, _l1, lv⟩ _wr_17 ⟨E, _zz0, hl1, hb1, hS1, hi1, ht1, _hc1, _F0_0, _o0_3, _o0_4, _lo0_4⟩
  have _E0h := E
  have _E0hz := _E0h.size
  have _F0_0z := _F0_0.lt
  obtain ⟨Alv, Clv, elv⟩ := _o0_4.val
  subst elv
  have llv := _o0_4.len
  have hilv := _o0_4.lt
  refine W_seq fun _K_18 _hK_18 => ?_
  refine W_seq fun _K_19 _hK_19 => ?_
  refine W_region ?_
  refine WL_step rfl rfl (r_move rfl) ?_
  refine WL_step rfl rfl (r_len (by rw [el46]; rfl) rfl) ?_
  refine WL_step rfl rfl (r_gtr rfl rfl) ?_
  refine WL_nil ?_
  refine thn_nrm (_hK_19 _ _ ?_)
  clear _hK_19
  refine W_cond rfl (fun _h20 => ?_) (fun _h20 => ?_)
  · have _kb_20 := _h20
    have _h20 := bt_d _h20
    refine W_skip ?_
    refine thn_nrm (_hK_18 _ _ ?_)
    clear _hK_18
    refine W_seq fun _K_21 _hK_21 => ?_
    refine W_block ?_
    refine W_seq fun _K_22 _hK_22 => ?_
    refine W_drawC [] 9 mixed rfl fun _w_23 _cw_23 => ?_
    have _cw_23z := _cw_23.size
    have E := E.trans _cw_23
    refine DR_s 0 rfl (by kernel_rfl) rfl rfl (t_v (fun _ => (r_fieldAddr fa42_2 rfl)) ?_)
    have _f_24 := (_F0_0.ch0 _cw_23)
    refine DR_s 1 rfl (by kernel_rfl) rfl rfl (t_loadAt _f_24.at_ (fun i hi => absurd hi List.not_mem_nil) agg26 rfl rfl ?_)
    refine DR_s 2 rfl (by kernel_rfl) rfl rfl (t_v (fun _ => (r_move rfl)) ?_)
    refine DR_s 8 rfl (by kernel_rfl) rfl rfl (t_v (fun _ => (r_move rfl)) ?_)
    refine DR_one 3 (by kernel_rfl) ?_
    refine DO_s rfl rfl rfl ?_
    have _f_25 := (_o0_4.ch0 _cw_23)
    refine (s_index (j := 0) _f_25.ls ics_len el46 sz3 rfl rfl rfl (by omega) fun _p26 _y26 _hy26 _a26 => ?_)
    have i26 := hi1 _y26 (mem_of_get _hy26)
    refine ⟨(Ch.refl _ _), ?_⟩
    refine DR_s 4 rfl (by kernel_rfl) rfl rfl (t_loadAt0 _a26 (fun i hi => absurd hi List.not_mem_nil) agg3 rfl rfl ?_)
    have _f_26 := ((_h_saN.ch0 _E0h).ch0 _cw_23)
    have _f_27 := ((_rd_aN.ch0 _E0h).ch0 _cw_23)
    refine DR_s 5 rfl (by kernel_rfl) rfl rfl (t_index (j := _y26.toNat) _f_26 Sv.len el26 sz46 rfl rfl (by omega) (by omega) fun _p28 _y28 _hy28 _a28 => ?_)
    obtain ⟨_ys28, _hys28, _fs28⟩ := _f_27.get _hy28
    obtain ⟨_A28, _n28, _C28⟩ := _y28
    obtain rfl := _fs28.eqn
    have _l28 := _fs28.len
    replace _fs28 : Ls ics 1 _w_23 LR_aN w.heap.size (.slice _A28 _ys28.length _C28) _ys28 := _fs28
    replace _a28 : At _w_23 LL_saN w.heap.size _p28 ([(.slice _A28 _ys28.length _C28)]) := _a28
    have _e28 := (fits_row hv.2 _hys28).1
    refine DR_s 6 rfl (by kernel_rfl) rfl rfl (t_loadAt0 _a28 (fun i hi => absurd hi List.not_mem_nil) agg46 rfl rfl ?_)
    refine DR_s 7 rfl (by kernel_rfl) rfl rfl (t_v (fun _ => (r_len (by rw [el46]; rfl) rfl)) ?_)
    refine DR_done (by kernel_rfl) ?_
    refine thn_nrm (_hK_22 _ _ ?_)
    clear _hK_22
    refine W_block ?_
    have _f_28 := (_o0_3.ch0 _cw_23)
    have _oi_29 : Ol bcs 4 1 _w_23 (.slice _Av10 ((List.replicate aA.length false)).length _Cv10) (_o1) := by
      have hx := _f_28
      exact hx
    have _oi_30 : Ol ics 3 1 _w_23 (.slice Alv (_l1).length Clv) (_l1) := by
      have hx := _f_25
      exact hx
    refine W_loop (σ := Nat × List Bool × List Int × Value) (fun ⟨k, _o2, _l2, lw⟩ => [(1, (.pointer (some ⟨_b1, 0, none⟩))), (2, (.slice none 0 0)), (3, (.slice _Av10 ((List.replicate aA.length false)).length _Cv10)), (4, lw), (20, (.bool (decide (0 < ((_l1.length : Nat) : Int))))), (29, (.slice _A28 _ys28.length _C28)), (30, (.int .i64 ((_ys28.length : Nat) : Int))), (31, (.int .i64 ((k : Nat) : Int)))]) (fun ⟨k, _o2, _l2, lw⟩ wx => Ch [] w wx ∧ _w_23.heap.size ≤ wx.heap.size ∧ (k ≤ 9) ∧ (_o2.length = aA.length) ∧ (ClBelow (ReachB aS) (BackA aN) _o2) ∧ (_o2[aS.toNat]? = some true) ∧ (InL aA.length _o2 _l2) ∧ (TodoH aN _o2 (_l2.drop 1) _y26) ∧ (RowG aN _o2 _y26.toNat k) ∧ (0 < _l2.length) ∧ (_o2[_y26.toNat]? = some true) ∧ (2 * _o2.count false + _l2.length ≤ 2 * _o1.count false + _l1.length) ∧ Blk wx _b1 42 [(.int .i64 aS), (.slice _A_aA aA.length _C_aA), (.slice _A_saN saN.length _C_saN)] ∧ Ls Sv.cs 1 wx LL_saN w.heap.size (.slice _A_saN saN.length _C_saN) saN ∧ Rd ics 1 wx LR_aN w.heap.size saN aN ∧ Ls ics 1 wx LR_aN w.heap.size (.slice _A28 _ys28.length _C28) _ys28 ∧ Ol bcs 4 1 wx (.slice _Av10 ((List.replicate aA.length false)).length _Cv10) _o2 ∧ Ol ics 3 1 wx lw _l2 ∧ Lo _w_7.heap.size lw) (fun ⟨k, _o2, _l2, lw⟩ => 9 - k) (0, _o1, _l1, (.slice Alv (_l1).length Clv)) (Sub.cons rfl (Sub.cons rfl (Sub.cons rfl (Sub.cons rfl (Sub.cons rfl (Sub.cons rfl (Sub.cons rfl (Sub.cons rfl (Sub.nil _))))))))) ⟨E, (Nat.le_refl _), (by omega), hl1, hb1, hS1, hi1, (todo_head ht1 _hy26), rowg_zero, (by omega), i26.2, (Nat.le_refl _), _f_24, _f_26, _f_27, _fs28, _oi_29, _oi_30, _lo0_4⟩ ?_
    rintro ⟨k, _o2, _l2, lw⟩ _wr_31 ⟨E, _zz1, _hk, hl2, hb2, hS2, hi2, ht2, hg2, hn2, hf2, _hc2, _F1_0, _F1_2, _F1_3, _F1_4, _o1_3, _o1_4, _lo1_4⟩
    have _E1h := E
    have _E1hz := _E1h.size
    have _F1_0z := _F1_0.lt
    obtain ⟨Alw, Clw, elw⟩ := _o1_4.val
    subst elw
    have llw := _o1_4.len
    have hilw := _o1_4.lt
    refine W_seq fun _K_32 _hK_32 => ?_
    refine W_region ?_
    refine WL_step rfl rfl (r_lss rfl rfl) ?_
    refine WL_nil ?_
    refine thn_nrm (_hK_32 _ _ ?_)
    clear _hK_32
    refine W_seq fun _K_33 _hK_33 => ?_
    refine W_cond rfl (fun _h32 => ?_) (fun _h32 => ?_)
    · have _kb_34 := _h32
      have _h32 := bt_d _h32
      refine W_skip ?_
      refine thn_nrm (_hK_33 _ _ ?_)
      clear _hK_33
      refine W_seq fun _K_35 _hK_35 => ?_
      refine W_block ?_
      refine W_seq fun _K_36 _hK_36 => ?_
      refine W_region ?_
      refine WL_s rfl rfl ?_
      refine (s_index _F1_4 ics_len el46 sz3 rfl rfl rfl (by omega) fun _p33 _y33 _hy33 _a33 => ?_)
      have f33 := fits_el hv.2 _hys28 _hy33
      refine WL_step rfl rfl (r_loadAt0 _a33 agg3 rfl rfl) ?_
      refine WL_step rfl rfl (r_assign rfl) ?_
      refine WL_nil ?_
      refine thn_nrm (_hK_36 _ _ ?_)
      clear _hK_36
      refine W_seq fun _K_37 _hK_37 => ?_
      refine W_region ?_
      refine WL_step rfl rfl (r_move rfl) ?_
      refine WL_step rfl rfl (r_geq rfl rfl) ?_
      refine WL_step rfl rfl (r_move rfl) ?_
      refine WL_split (d := 37) rfl (fun _h37 => ?_) (fun _h37 => ?_)
      · have _kb_38 := _h37
        have _h37 := bt_d _h37
        refine WL_step rfl rfl (r_move rfl) ?_
        refine WL_step rfl rfl (r_move rfl) ?_
        refine WL_s rfl rfl ?_
        refine (s_index (j := _y33.toNat) _o1_3.ls bcs_len el37 sz4 rfl rfl (by omega) (by omega) fun _p40 _y40 _hy40 _a40 => ?_)
        refine WL_step rfl rfl (r_loadAt0 _a40 agg4 rfl rfl) ?_
        refine WL_step rfl rfl (r_not rfl) ?_
        refine WL_step rfl rfl (r_pickT rfl rfl) ?_
        refine WL_nil ?_
        refine thn_nrm (_hK_37 _ _ ?_)
        clear _hK_37
        refine W_cond rfl (fun _h43 => ?_) (fun _h43 => ?_)
        · have _kb_39 := _h43
          refine W_seq fun _K_40 _hK_40 => ?_
          refine W_region ?_
          refine WL_step rfl rfl (r_move rfl) ?_
          refine WL_step rfl rfl (r_move rfl) ?_
          refine WL_s rfl rfl ?_
          refine s_indexO (j := _y33.toNat) _o1_3 el37 sz4 rfl rfl (by omega) (by (first | omega | (simp only [List.length_replicate, List.length_set]; omega))) fun _g46 _o46 _cp46 _q46 => ?_
          refine WL_s rfl rfl ?_
          refine s_storeO (j := _y33.toNat) true _o1_3 _q46 bcs_len sz4 rfl rfl rfl rfl (by (first | omega | (simp only [List.length_replicate, List.length_set]; omega))) fun _w_41 _o_42 _cw_41 => ?_
          have _cw_41z := _cw_41.size
          have E := E.step _cw_41 (fun i hi => .inl (by have _h1 := _lo10 _ hi; omega))
          refine WL_nil ?_
          refine thn_nrm (_hK_40 _ _ ?_)
          clear _hK_40
          refine W_region ?_
          refine WL_step rfl rfl (r_move rfl) ?_
          refine WL_step rfl rfl (r_move rfl) ?_
          refine WL_s rfl rfl ?_
          refine s_buildSlice (cs := ics) (parts := [(0, .tmp 48)]) (0 : Int) [_y33] el46 sz3 zr3 ics_len (by decide) rfl rfl rfl (by decide) (by decide) rfl fun _v49 _w_43 _q49 _lo49 _cw_43 => ?_
          have _cw_43z := _cw_43.size
          have E := E.trans _cw_43
          obtain ⟨_Av49, _Cv49, _ev49⟩ := _q49.val
          subst _ev49
          have _lv49 := _q49.len
          have _hiv49 := _q49.lt
          refine WL_s rfl rfl ?_
          have _f_45 := ((_o1_4.ch _cw_41 (fun g hg hm => by have _h1 := _lo10 _ hm; have _h2 := _hiv10 _ hm; have _h3 := _lo1_4 _ hg; have _h4 := hilw _ hg; omega)).ch0 _cw_43)
          refine s_append (cs := ics) el46 sz3 by3 zr3 rfl (by decide) ics_one _f_45 _q49.ls rfl rfl (by simp only [List.length_singleton]; omega) (by simp only [List.length_singleton]; omega) _lo1_4 (by omega) fun _v50 _w_44 _q50 _lo50 _ap50 _cw_44 => ?_
          have _cw_44z := _cw_44.size
          have E := E.step _cw_44 (fun i hi => .inl (by have _h1 := _lo1_4 _ hi; omega))
          obtain ⟨_Av50, _Cv50, _ev50⟩ := _q50.val
          subst _ev50
          have _lv50 := _q50.len
          have _hiv50 := _q50.lt
          refine WL_step rfl rfl (r_assign rfl) ?_
          refine WL_nil ?_
          refine inB_nrm ?_
          refine thn_nrm (_hK_35 _ _ ?_)
          clear _hK_35
          refine W_region ?_
          refine WL_step rfl rfl (r_add (by omega) rfl rfl) ?_
          refine WL_step rfl rfl (r_move rfl) ?_
          refine WL_nil ?_
          have _f_47 := ((_o_42.ch0 _cw_43).ch _cw_44 (fun g hg hm => by have _h1 := _lo1_4 _ hm; have _h2 := hilw _ hm; have _h3 := _lo10 _ hg; have _h4 := _hiv10 _ hg; omega))
          have _on_46 : Ol bcs 4 1 _w_44 (.slice _Av10 ((List.replicate aA.length false)).length _Cv10) ((_o2.set _y33.toNat true)) := by
            have hx := _f_47
            exact hx
          have _on_48 : Ol ics 3 1 _w_44 (.slice _Av50 ((_l2 ++ [_y33])).length _Cv50) ((_l2 ++ [_y33])) := by
            have hx := _q50
            exact hx
          have _f_49 := (((_F1_0.ch _cw_41 (fun hm => by have _h1 := _lo10 _ hm; have _h2 := _hiv10 _ hm; omega)).ch0 _cw_43).ch _cw_44 (fun hm => by have _h1 := _lo1_4 _ hm; have _h2 := hilw _ hm; omega))
          have _f_50 := (((_F1_2.ch _cw_41 (fun i hi => by have _h1 := _lo10 _ hi; omega)).ch0 _cw_43).ch _cw_44 (fun i hi => by have _h1 := _lo1_4 _ hi; omega))
          have _f_51 := (((_F1_3.ch _cw_41 (fun i hi => by have _h1 := _lo10 _ hi; omega)).ch0 _cw_43).ch _cw_44 (fun i hi => by have _h1 := _lo1_4 _ hi; omega))
          have _f_52 := (((_F1_4.ch _cw_41 (fun i hi => by have _h1 := _lo10 _ hi; omega)).ch0 _cw_43).ch _cw_44 (fun i hi => by have _h1 := _lo1_4 _ hi; omega))
          exact thn_nrm (Exists.intro ((k + 1), (_o2.set _y33.toNat true), (_l2 ++ [_y33]), (.slice _Av50 ((_l2 ++ [_y33])).length _Cv50)) ⟨⟨E, (by omega), (by omega), (by first | exact hl2 | simpa using hl2), (by first | exact hb2 | exact set_below hb2 (.step (show BackA aN _y33.toNat _y26.toNat from ⟨k, _ys28, _hys28, by rw [_hy33, Int.toNat_of_nonneg (by omega)]⟩) (hb2 _ hf2))), (by first | exact hS2 | exact set_true hS2), (by first | exact hi2 | (have _h9 := inl_push hi2 (i := _y33.toNat) (by omega) hl2; rw [Int.toNat_of_nonneg (by omega)] at _h9; exact _h9)), (by first | exact ht2 | (have _h9 := todo_push ht2 (i := _y33.toNat); rw [Int.toNat_of_nonneg (by omega)] at _h9; rw [drop_push hn2]; exact _h9)), (by first | exact rowg_skip hg2 _hys28 _hy33 (fun t e => by omega) | exact rowg_skip hg2 _hys28 _hy33 (fun t e => by obtain rfl : t = _y33.toNat := (by omega); rw [_hy40]; simpa using _h43) | exact rowg_set hg2 _hys28 _hy33 (by omega) (by omega)), (by first | exact hn2 | (simp only [List.length_append]; omega)), (by first | exact hf2 | exact set_true hf2), (by first | exact _hc2 | (have hq := count_set (l := _o2) (s := _y33.toNat) (by rw [_hy40]; simpa using _h43); simp only [List.length_append, List.length_singleton]; omega)), _f_49, _f_50, _f_51, _f_52, _on_46, _on_48, (Lo.down _lo50 (by omega))⟩, Sub.cons rfl (Sub.cons rfl (Sub.cons rfl (Sub.cons rfl (Sub.cons rfl (Sub.cons rfl (Sub.cons rfl (Sub.cons rfl (Sub.nil _)))))))), (by first | omega | (dsimp only; omega))⟩)
        · have _kb_39 := _h43
          refine W_skip ?_
          refine inB_nrm ?_
          refine thn_nrm (_hK_35 _ _ ?_)
          clear _hK_35
          refine W_region ?_
          refine WL_step rfl rfl (r_add (by omega) rfl rfl) ?_
          refine WL_step rfl rfl (r_move rfl) ?_
          refine WL_nil ?_
          have _on_53 : Ol bcs 4 1 _wr_31 (.slice _Av10 ((List.replicate aA.length false)).length _Cv10) (_o2) := by
            have hx := _o1_3
            exact hx
          have _on_54 : Ol ics 3 1 _wr_31 (.slice Alw (_l2).length Clw) (_l2) := by
            have hx := _o1_4
            exact hx
          exact thn_nrm (Exists.intro ((k + 1), _o2, _l2, (.slice Alw (_l2).length Clw)) ⟨⟨E, (by omega), (by omega), (by first | exact hl2 | simpa using hl2), (by first | exact hb2 | exact set_below hb2 (.step (show BackA aN _y33.toNat _y26.toNat from ⟨k, _ys28, _hys28, by rw [_hy33, Int.toNat_of_nonneg (by omega)]⟩) (hb2 _ hf2))), (by first | exact hS2 | exact set_true hS2), (by first | exact hi2 | (have _h9 := inl_push hi2 (i := _y33.toNat) (by omega) hl2; rw [Int.toNat_of_nonneg (by omega)] at _h9; exact _h9)), (by first | exact ht2 | (have _h9 := todo_push ht2 (i := _y33.toNat); rw [Int.toNat_of_nonneg (by omega)] at _h9; rw [drop_push hn2]; exact _h9)), (by first | exact rowg_skip hg2 _hys28 _hy33 (fun t e => by omega) | exact rowg_skip hg2 _hys28 _hy33 (fun t e => by obtain rfl : t = _y33.toNat := (by omega); rw [_hy40]; simpa using _h43) | exact rowg_set hg2 _hys28 _hy33 (by omega) (by omega)), (by first | exact hn2 | (simp only [List.length_append]; omega)), (by first | exact hf2 | exact set_true hf2), (by first | exact _hc2 | (have hq := count_set (l := _o2) (s := _y33.toNat) (by rw [_hy40]; simpa using _h43); simp only [List.length_append, List.length_singleton]; omega)), _F1_0, _F1_2, _F1_3, _F1_4, _on_53, _on_54, (Lo.down _lo1_4 (by omega))⟩, Sub.cons rfl (Sub.cons rfl (Sub.cons rfl (Sub.cons rfl (Sub.cons rfl (Sub.cons rfl (Sub.cons rfl (Sub.cons rfl (Sub.nil _)))))))), (by first | omega | (dsimp only; omega))⟩)
      · have _kb_38 := _h37
        have _h37 := bf_d _h37
        refine WL_skip rfl rfl ?_
        refine WL_skip rfl rfl ?_
        refine WL_skip rfl rfl ?_
        refine WL_skip rfl rfl ?_
        refine WL_skip rfl rfl ?_
        refine WL_step rfl rfl (r_pickF rfl rfl) ?_
        refine WL_nil ?_
        refine thn_nrm (_hK_37 _ _ ?_)
        clear _hK_37
        refine W_condF rfl ?_
        refine W_skip ?_
        refine inB_nrm ?_
        refine thn_nrm (_hK_35 _ _ ?_)
        clear _hK_35
        refine W_region ?_
        refine WL_step rfl rfl (r_add (by omega) rfl rfl) ?_
        refine WL_step rfl rfl (r_move rfl) ?_
        refine WL_nil ?_
        have _on_55 : Ol bcs 4 1 _wr_31 (.slice _Av10 ((List.replicate aA.length false)).length _Cv10) (_o2) := by
          have hx := _o1_3
          exact hx
        have _on_56 : Ol ics 3 1 _wr_31 (.slice Alw (_l2).length Clw) (_l2) := by
          have hx := _o1_4
          exact hx
        exact thn_nrm (Exists.intro ((k + 1), _o2, _l2, (.slice Alw (_l2).length Clw)) ⟨⟨E, (by omega), (by omega), (by first | exact hl2 | simpa using hl2), (by first | exact hb2 | exact set_below hb2 (.step (show BackA aN _y33.toNat _y26.toNat from ⟨k, _ys28, _hys28, by rw [_hy33, Int.toNat_of_nonneg (by omega)]⟩) (hb2 _ hf2))), (by first | exact hS2 | exact set_true hS2), (by first | exact hi2 | (have _h9 := inl_push hi2 (i := _y33.toNat) (by omega) hl2; rw [Int.toNat_of_nonneg (by omega)] at _h9; exact _h9)), (by first | exact ht2 | (have _h9 := todo_push ht2 (i := _y33.toNat); rw [Int.toNat_of_nonneg (by omega)] at _h9; rw [drop_push hn2]; exact _h9)), (by first | exact rowg_skip hg2 _hys28 _hy33 (fun t e => by omega) | exact rowg_skip hg2 _hys28 _hy33 (fun t e => by obtain rfl : t = _y33.toNat := (by omega); rw [_hy40]; simpa using _h43) | exact rowg_set hg2 _hys28 _hy33 (by omega) (by omega)), (by first | exact hn2 | (simp only [List.length_append]; omega)), (by first | exact hf2 | exact set_true hf2), (by first | exact _hc2 | (have hq := count_set (l := _o2) (s := _y33.toNat) (by rw [_hy40]; simpa using _h43); simp only [List.length_append, List.length_singleton]; omega)), _F1_0, _F1_2, _F1_3, _F1_4, _on_55, _on_56, (Lo.down _lo1_4 (by omega))⟩, Sub.cons rfl (Sub.cons rfl (Sub.cons rfl (Sub.cons rfl (Sub.cons rfl (Sub.cons rfl (Sub.cons rfl (Sub.cons rfl (Sub.nil _)))))))), (by first | omega | (dsimp only; omega))⟩)
    · have _kb_34 := _h32
      have _h32 := bf_d _h32
      refine W_exit (thn_exit (thn_exit (inB_hit ?_)))
      refine inB_nrm ?_
      refine thn_nrm (_hK_21 _ _ ?_)
      clear _hK_21
      refine W_region ?_
      refine WL_step rfl rfl (r_move rfl) ?_
      refine WL_s rfl rfl ?_
      refine (s_cutO (ys := (_l2.drop 1)) 1 _l2.length _o1_4 ics_len el46 sz3 rfl ⟨_, _, rfl, by omega⟩ rfl (by omega) (by omega) (cut_all _ _) fun _v22 _q22 _bb22 _ln22 => ?_)
      obtain ⟨_A22, _C22, _e22⟩ := _q22.val
      subst _e22
      have _l22 := _q22.len
      have hi22 := _q22.lt
      refine WL_step rfl rfl (r_assign rfl) ?_
      refine WL_nil ?_
      have _on_57 : Ol bcs 4 1 _wr_31 (.slice _Av10 ((List.replicate aA.length false)).length _Cv10) (_o2) := by
        have hx := _o1_3
        exact hx
      have _on_58 : Ol ics 3 1 _wr_31 (.slice _A22 ((_l2.drop 1)).length _C22) ((_l2.drop 1)) := by
        have hx := _q22
        exact hx
      exact thn_nrm (Exists.intro (_o2, (_l2.drop 1), (.slice _A22 ((_l2.drop 1)).length _C22)) ⟨⟨E, (by omega), hl2, hb2, hS2, (fun x hx => hi2 x (List.mem_of_mem_drop hx)), (todo_done ht2 (rowg_gone hg2 (fun r hr => by have _h1 := (fits_row hv.2 hr).1; omega))), (by omega), _F1_0, _on_57, _on_58, (Lo.down (fun g hg => _lo1_4 g (_bb22 ▸ hg)) (by omega))⟩, Sub.cons rfl (Sub.cons rfl (Sub.cons rfl (Sub.cons rfl (Sub.nil _)))), (by first | omega | (dsimp only; omega))⟩)
  · have _kb_20 := _h20
    have _h20 := bf_d _h20
    refine W_exit (thn_exit (thn_exit (inB_hit ?_)))
    refine thn_nrm (_hK_9 _ _ ?_)
    clear _hK_9
    refine W_seq fun _K_59 _hK_59 => ?_
    refine W_region ?_
    refine WL_step rfl rfl (r_move rfl) ?_
    refine WL_step rfl rfl (r_assign rfl) ?_
    refine WL_nil ?_
    refine thn_nrm (_hK_59 _ _ ?_)
    clear _hK_59
    refine W_ret ?_
    clear _hK_18
    have _o_60 : Ol bcs 4 1 _wr_17 (.slice _Av10 ((List.replicate aA.length false)).length _Cv10) (reachL aS aA.length aN) := by
      have hx := _o0_3
      exact hx.eq (reach_of_todo hv.2 hl1 hb1 hS1 (by have _h9 : _l1 = [] := List.eq_nil_of_length_eq_zero (by omega); rw [_h9] at ht1; exact ht1))
    exact ret_intro [_] ⟨rfl, trivial⟩ ⟨_o_60, Lo.down _lo10 (by omega), E⟩

/-- slices.Clone[[]bool,bool] -/
theorem c_slices_Clone_bool_bool {w : World} {LL_s _B_s : Nat} {_v_s : Value} {s : List Bool} (_h_s : Ls bcs 1 w LL_s _B_s _v_s s) (hb : s.length ≤ 1048576) :
    Ctr Try.prog 153 #[_v_s] w (fun v w' => Ol bcs 4 1 w' v (s) ∧ Lo w.heap.size v ∧ Ch [] w w') := by
  obtain ⟨_A_s, _C_s, _e1_s⟩ := _h_s.val
  subst _e1_s
  have _l_s := _h_s.len
  have _h_s := _h_s.here (by decide)
  have E := Ch.refl [] w
  refine Ctr_of_W (N := 8) (vs0 := [(.slice _A_s s.length _C_s)]) Try.func153 rfl rfl rfl ?_
  refine W_seq fun _K_1 _hK_1 => ?_
  refine W_region ?_
  refine WL_step rfl rfl (r_assign rfl) ?_
  refine WL_nil ?_
  refine thn_nrm (_hK_1 _ _ ?_)
  clear _hK_1
  refine W_seq fun _K_2 _hK_2 => ?_
  refine W_seq fun _K_3 _hK_3 => ?_
  refine W_region ?_
  refine WL_step rfl rfl (r_move rfl) ?_
  refine WL_step rfl rfl (r_eqNil (by rw [el37]; rfl) rfl rfl) ?_
  refine WL_nil ?_
  refine thn_nrm (_hK_3 _ _ ?_)
  clear _hK_3
  refine W_cond rfl (fun _h4 => ?_) (fun _h4 => ?_)
  · have _kb_4 := _h4
    refine W_seq fun _K_5 _hK_5 => ?_
    refine W_region ?_
    refine WL_step rfl rfl (r_assign rfl) ?_
    refine WL_nil ?_
    refine thn_nrm (_hK_5 _ _ ?_)
    clear _hK_5
    refine W_ret (thn_ret ?_)
    clear _hK_2
    have _o_6 : Ol bcs 4 1 w (.slice none 0 0) (s) := by
      have hx := (Ol.nil (cs := bcs) (e := 4) (k := 1) w)
      first | (have hn := Ls.none _h_s _h4; subst hn; exact hx) | exact hx
    exact ret_intro [_] ⟨rfl, trivial⟩ ⟨_o_6, Lo.nil _, E⟩
  · have _kb_4 := _h4
    refine W_skip ?_
    refine thn_nrm (_hK_2 _ _ ?_)
    clear _hK_2
    refine W_seq fun _K_7 _hK_7 => ?_
    refine W_region ?_
    refine WL_s rfl rfl ?_
    refine s_buildSlice0 (k := 1) bcs el37 sz4 fun _v5 _w_8 _q5 _lo5 _cw_8 => ?_
    have _cw_8z := _cw_8.size
    have E := E.trans _cw_8
    obtain ⟨_Av5, _Cv5, _ev5⟩ := _q5.val
    subst _ev5
    have _lv5 := _q5.len
    have _hiv5 := _q5.lt
    refine WL_step rfl rfl (r_move rfl) ?_
    refine WL_s rfl rfl ?_
    have _f_10 := (_h_s.ch0 _cw_8)
    refine s_append (cs := bcs) el37 sz4 by4 zr4 rfl (by decide) bcs_one _q5 _f_10 rfl rfl (by first | omega | (simp only [List.length_append, List.length_nil, List.length_cons, List.length_replicate, List.length_set, List.length_reverse, List.length_map] at *; omega) | (simp at *; omega)) (by first | omega | (simp only [List.length_append, List.length_nil, List.length_cons, List.length_replicate, List.length_set, List.length_reverse, List.length_map] at *; omega) | (simp at *; omega)) _lo5 (by omega) fun _v7 _w_9 _q7 _lo7 _ap7 _cw_9 => ?_
    have _cw_9z := _cw_9.size
    have E := E.step _cw_9 (fun i hi => .inl (by have _h1 := _lo5 _ hi; omega))
    replace _q7 : Ol bcs 4 1 _w_9 _v7 s := _q7
    obtain ⟨_Av7, _Cv7, _ev7⟩ := _q7.val
    subst _ev7
    have _lv7 := _q7.len
    have _hiv7 := _q7.lt
    refine WL_step rfl rfl (r_assign rfl) ?_
    refine WL_nil ?_
    refine thn_nrm (_hK_7 _ _ ?_)
    clear _hK_7
    refine W_ret ?_
    have _o_11 : Ol bcs 4 1 _w_9 (.slice _Av7 (s).length _Cv7) (s) := by
      have hx := _q7
      first | (have hn := Ls.none _h_s _h4; subst hn; exact hx) | exact hx
    exact ret_intro [_] ⟨rfl, trivial⟩ ⟨_o_11, Lo.down _lo7 (by omega), E⟩

/-- impl.Automaton).live -/
theorem c_impl_Automaton_live {w : World} (aS : Int) {LL_aA _B_aA : Nat} {_v_aA : Value} {aA : List Bool} (_h_aA : Ls bcs 1 w LL_aA _B_aA _v_aA aA) {LL_saN _B_saN : Nat} {_v_saN : Value} {saN : List Sv} (_h_saN : Ls Sv.cs 1 w LL_saN _B_saN _v_saN saN) {LR_aN BB_aN : Nat} {aN : List (List Int)} (_rd_aN : Rd ics 1 w LR_aN BB_aN saN aN) (hv : ValidA aS aA aN) :
    Ctr Try.prog 121 #[(.agg #[(.int .i64 aS), _v_aA, _v_saN])] w (fun v w' => Ol bcs 4 1 w' v (liveL aA aN) ∧ Lo w.heap.size v ∧ Ch [] w w') := by
  obtain ⟨_A_aA, _C_aA, _e1_aA⟩ := _h_aA.val
  subst _e1_aA
  have _l_aA := _h_aA.len
  have _h_aA := _h_aA.here (by decide)
  obtain ⟨_A_saN, _C_saN, _e1_saN⟩ := _h_saN.val
  subst _e1_saN
  have _l_saN := _h_saN.len
  have _h_saN := _h_saN.here (by decide)
  have _rd_aN := _rd_aN.here (by decide)
  have _rl_aN := _rd_aN.1
  have E := Ch.refl [] w
  have hv2 := hv.2.2.1; have hv1 := hv.1
  refine Ctr_of_W (N := 48) (vs0 := [(.agg #[(.int .i64 aS), (.slice _A_aA aA.length _C_aA), (.slice _A_saN saN.length _C_saN)])]) Try.func121 rfl rfl rfl ?_
  refine W_seq fun _K_1 _hK_1 => ?_
  refine W_region ?_
  refine WL_s rfl rfl ?_
  refine s_box rfl fun _b1 _w_2 _m1 _cw_2 _e1 => ?_
  have _cw_2z := _cw_2.size
  have E := E.trans _cw_2
  have _z1 := _m1.lt
  replace _m1 : Blk _w_2 _b1 42 [(.int .i64 aS), (.slice _A_aA aA.length _C_aA), (.slice _A_saN saN.length _C_saN)] := _m1
  refine WL_step rfl rfl (r_assign rfl) ?_
  refine WL_nil ?_
  refine thn_nrm (_hK_1 _ _ ?_)
  clear _hK_1
  refine W_seq fun _K_3 _hK_3 => ?_
  refine W_region ?_
  refine WL_step rfl rfl (r_fieldAddr fa42_1 rfl) ?_
  refine WL_step rfl rfl (r_loadAt _m1.at_ agg37 rfl rfl) ?_
  refine WL_s rfl rfl ?_
  have _f_4 := (_h_aA.ch0 _cw_2)
  refine Step.call (r_call (xs := [.tmp 10]) fk153 rfl) (c_slices_Clone_bool_bool _f_4 (by omega)) fun _v11 _w_5 _q11 => ?_
  obtain ⟨_q11, _lo11, _cw_5⟩ := _q11
  have _cw_5z := _cw_5.size
  have E := E.trans _cw_5
  obtain ⟨_Av11, _Cv11, _ev11⟩ := _q11.val
  subst _ev11
  have _lv11 := _q11.len
  have _hiv11 := _q11.lt
  refine WL_step rfl rfl (r_assign rfl) ?_
  refine WL_nil ?_
  refine thn_nrm (_hK_3 _ _ ?_)
  clear _hK_3
  refine W_seq fun _K_6 _hK_6 => ?_
  refine W_seq fun _K_7 _hK_7 => ?_
  refine W_region ?_
  refine WL_step rfl rfl (r_assign rfl) ?_
  refine WL_nil ?_
  refine thn_nrm (_hK_7 _ _ ?_)
  clear _hK_7
  refine W_block ?_
  have _oi_8 : Ol bcs 4 1 _w_5 (.slice _Av11 (aA).length _Cv11) (aA) := by
    have hx := _q11
    exact hx
  have _f_9 := (_m1.ch0 _cw_5)
  have _f_10 := (_f_4.ch0 _cw_5)
  refine W_loop (σ := Bool × List Bool) (fun ⟨ag1, _o1⟩ => [(1, (.pointer (some ⟨_b1, 0, none⟩))), (2, (.slice none 0 0)), (3, (.slice _Av11 (aA).length _Cv11)), (4, (.bool ag1))]) (fun ⟨ag1, _o1⟩ wx => Ch [] w wx ∧ _w_5.heap.size ≤ wx.heap.size ∧ (_o1.length = aA.length) ∧ (ClBelow (LiveB aA) (EdgeA aN) _o1) ∧ (∀ q, LiveB aA q → _o1[q]? = some true) ∧ (ag1 = false → PUp aN _o1 aN.length) ∧ Blk wx _b1 42 [(.int .i64 aS), (.slice _A_aA aA.length _C_aA), (.slice _A_saN saN.length _C_saN)] ∧ Ls bcs 1 wx LL_aA w.heap.size (.slice _A_aA aA.length _C_aA) aA ∧ Ol bcs 4 1 wx (.slice _Av11 (aA).length _Cv11) _o1) (fun ⟨ag1, _o1⟩ => 2 * _o1.count false + (if ag1 = true then 1 else 0)) (true, aA) (Sub.cons rfl (Sub.cons rfl (Sub.cons rfl (Sub.cons rfl (Sub.nil _))))) ⟨E, (Nat.le_refl _), rfl, (fun s h => .base h), (fun s h => h), (fun h => by cases h), _f_9, _f_10, _oi_8⟩ ?_
  rintro ⟨ag1, _o1⟩ _wr_11 ⟨E, _zz0, hl1, hb1, hB1, _hc1, _F0_0, _F0_1, _o0_3⟩
  have _E0h := E
  have _E0hz := _E0h.size
  have _F0_0z := _F0_0.lt
  refine W_seq fun _K_12 _hK_12 => ?_
  refine W_seq fun _K_13 _hK_13 => ?_
  refine W_region ?_
  refine WL_step rfl rfl (r_move rfl) ?_
  refine WL_nil ?_
  refine thn_nrm (_hK_13 _ _ ?_)
  clear _hK_13
  refine W_cond rfl (fun _h12 => ?_) (fun _h12 => ?_)
  · have _kb_14 := _h12
    refine W_skip ?_
    refine thn_nrm (_hK_12 _ _ ?_)
    clear _hK_12
    refine W_block ?_
    refine W_seq fun _K_15 _hK_15 => ?_
    refine W_region ?_
    refine WL_step rfl rfl (r_assign rfl) ?_
    refine WL_nil ?_
    refine thn_nrm (_hK_15 _ _ ?_)
    clear _hK_15
    refine W_seq fun _K_16 _hK_16 => ?_
    refine W_region ?_
    refine WL_step rfl rfl (r_fieldAddr fa42_2 rfl) ?_
    refine WL_step rfl rfl (r_loadAt _F0_0.at_ agg26 rfl rfl) ?_
    refine WL_step rfl rfl (r_len (by rw [el26]; rfl) rfl) ?_
    refine WL_step rfl rfl (r_move rfl) ?_
    refine WL_nil ?_
    refine thn_nrm (_hK_16 _ _ ?_)
    clear _hK_16
    refine W_block ?_
    have _oi_17 : Ol bcs 4 1 _wr_11 (.slice _Av11 (aA).length _Cv11) (_o1) := by
      have hx := _o0_3
      exact hx
    refine W_loop (σ := Nat × Bool × List Bool) (fun ⟨s, ag2, _o2⟩ => [(1, (.pointer (some ⟨_b1, 0, none⟩))), (2, (.slice none 0 0)), (3, (.slice _Av11 (aA).length _Cv11)), (4, (.bool ag2)), (12, (.bool ag1)), (13, (.pointer (some (Addr.add ⟨_b1, 0, none⟩ 2)))), (14, (.slice _A_saN saN.length _C_saN)), (15, (.int .i64 ((saN.length : Nat) : Int))), (16, (.int .i64 ((s : Nat) : Int)))]) (fun ⟨s, ag2, _o2⟩ wx => Ch [] w wx ∧ _wr_11.heap.size ≤ wx.heap.size ∧ (s ≤ aN.length) ∧ (_o2.length = aA.length) ∧ (ClBelow (LiveB aA) (EdgeA aN) _o2) ∧ (∀ q, LiveB aA q → _o2[q]? = some true) ∧ (ag2 = false → PUp aN _o2 s) ∧ (_o2.count false + (if ag2 = true then 1 else 0) ≤ _o1.count false) ∧ Blk wx _b1 42 [(.int .i64 aS), (.slice _A_aA aA.length _C_aA), (.slice _A_saN saN.length _C_saN)] ∧ Ls bcs 1 wx LL_aA w.heap.size (.slice _A_aA aA.length _C_aA) aA ∧ Ol bcs 4 1 wx (.slice _Av11 (aA).length _Cv11) _o2) (fun ⟨s, ag2, _o2⟩ => aN.length - s) (0, false, _o1) (Sub.cons rfl (Sub.cons rfl (Sub.cons rfl (Sub.cons rfl (Sub.cons rfl (Sub.cons rfl (Sub.cons rfl (Sub.cons rfl (Sub.cons rfl (Sub.nil _)))))))))) ⟨E, (Nat.le_refl _), (by omega), hl1, hb1, hB1, (fun _ => pup_zero), (by simp), _F0_0, _F0_1, _oi_17⟩ ?_
    rintro ⟨s, ag2, _o2⟩ _wr_18 ⟨E, _zz1, hs, hl2, hb2, hB2, hu2, hf2, _F1_0, _F1_1, _o1_3⟩
    have _E1h := E
    have _E1hz := _E1h.size
    have _F1_0z := _F1_0.lt
    refine W_seq fun _K_19 _hK_19 => ?_
    refine W_region ?_
    refine WL_step rfl rfl (r_lss rfl rfl) ?_
    refine WL_nil ?_
    refine thn_nrm (_hK_19 _ _ ?_)
    clear _hK_19
    refine W_seq fun _K_20 _hK_20 => ?_
    refine W_cond rfl (fun _h17 => ?_) (fun _h17 => ?_)
    · have _kb_21 := _h17
      have _h17 := bt_d _h17
      refine W_skip ?_
      refine thn_nrm (_hK_20 _ _ ?_)
      clear _hK_20
      refine W_seq fun _K_22 _hK_22 => ?_
      refine W_block ?_
      refine W_seq fun _K_23 _hK_23 => ?_
      refine W_region ?_
      refine WL_step rfl rfl (r_move rfl) ?_
      refine WL_s rfl rfl ?_
      have _f_24 := (_h_saN.ch0 _E1h)
      refine (s_index _f_24 Sv.len el26 sz46 rfl rfl rfl (by omega) fun _p19 _y19 _hy19 _a19 => ?_)
      have _f_25 := (_rd_aN.ch0 _E1h)
      obtain ⟨_ys19, _hys19, _fs19⟩ := _f_25.get _hy19
      obtain ⟨_A19, _n19, _C19⟩ := _y19
      obtain rfl := _fs19.eqn
      have _l19 := _fs19.len
      replace _fs19 : Ls ics 1 _wr_18 LR_aN w.heap.size (.slice _A19 _ys19.length _C19) _ys19 := _fs19
      replace _a19 : At _wr_18 LL_saN w.heap.size _p19 ([(.slice _A19 _ys19.length _C19)]) := _a19
      have _e19 := (fits_row hv.2 _hys19).1
      refine WL_step rfl rfl (r_loadAt0 _a19 agg46 rfl rfl) ?_
      refine WL_step rfl rfl (r_assign rfl) ?_
      refine WL_step rfl rfl (r_assign rfl) ?_
      refine WL_nil ?_
      refine thn_nrm (_hK_23 _ _ ?_)
      clear _hK_23
      refine W_seq fun _K_26 _hK_26 => ?_
      refine W_region ?_
      refine WL_step rfl rfl (r_move rfl) ?_
      refine WL_step rfl rfl (r_len (by rw [el46]; rfl) rfl) ?_
      refine WL_step rfl rfl (r_move rfl) ?_
      refine WL_nil ?_
      refine thn_nrm (_hK_26 _ _ ?_)
      clear _hK_26
      refine W_block ?_
      have _oi_27 : Ol bcs 4 1 _wr_18 (.slice _Av11 (aA).length _Cv11) (_o2) := by
        have hx := _o1_3
        exact hx
      refine W_loop (σ := Nat × Bool × List Bool) (fun ⟨k, ag3, _o3⟩ => [(1, (.pointer (some ⟨_b1, 0, none⟩))), (2, (.slice none 0 0)), (3, (.slice _Av11 (aA).length _Cv11)), (4, (.bool ag3)), (5, (.int .i64 ((s : Nat) : Int))), (6, (.slice _A19 _ys19.length _C19)), (12, (.bool ag1)), (13, (.pointer (some (Addr.add ⟨_b1, 0, none⟩ 2)))), (14, (.slice _A_saN saN.length _C_saN)), (15, (.int .i64 ((saN.length : Nat) : Int))), (16, (.int .i64 ((s : Nat) : Int))), (17, (.bool (decide (((s : Nat) : Int) < ((saN.length : Nat) : Int))))), (18, (.int .i64 ((s : Nat) : Int))), (19, (.pointer (some _p19))), (20, (.slice _A19 _ys19.length _C19)), (21, (.slice _A19 _ys19.length _C19)), (22, (.int .i64 ((_ys19.length : Nat) : Int))), (23, (.int .i64 ((k : Nat) : Int)))]) (fun ⟨k, ag3, _o3⟩ wx => Ch [] w wx ∧ _wr_18.heap.size ≤ wx.heap.size ∧ (k ≤ _ys19.length) ∧ (_o3.length = aA.length) ∧ (ClBelow (LiveB aA) (EdgeA aN) _o3) ∧ (∀ q, LiveB aA q → _o3[q]? = some true) ∧ (ag3 = false → PUp aN _o3 s ∧ PRow aN _o3 s k) ∧ (_o3.count false + (if ag3 = true then 1 else 0) ≤ _o1.count false) ∧ Blk wx _b1 42 [(.int .i64 aS), (.slice _A_aA aA.length _C_aA), (.slice _A_saN saN.length _C_saN)] ∧ Ls bcs 1 wx LL_aA w.heap.size (.slice _A_aA aA.length _C_aA) aA ∧ Ls Sv.cs 1 wx LL_saN w.heap.size (.slice _A_saN saN.length _C_saN) saN ∧ Rd ics 1 wx LR_aN w.heap.size saN aN ∧ At wx LL_saN w.heap.size _p19 ([(.slice _A19 _ys19.length _C19)]) ∧ Ls ics 1 wx LR_aN w.heap.size (.slice _A19 _ys19.length _C19) _ys19 ∧ Ol bcs 4 1 wx (.slice _Av11 (aA).length _Cv11) _o3) (fun ⟨k, ag3, _o3⟩ => _ys19.length - k) (0, ag2, _o2) (Sub.cons rfl (Sub.cons rfl (Sub.cons rfl (Sub.cons rfl (Sub.cons rfl (Sub.cons rfl (Sub.cons rfl (Sub.cons rfl (Sub.cons rfl (Sub.cons rfl (Sub.cons rfl (Sub.cons rfl (Sub.cons rfl (Sub.cons rfl (Sub.cons rfl (Sub.cons rfl (Sub.cons rfl (Sub.cons rfl (Sub.nil _))))))))))))))))))) ⟨E, (Nat.le_refl _), (by omega), hl2, hb2, hB2, (fun e => ⟨hu2 e, prow_zero⟩), hf2, _F1_0, _F1_1, _f_24, _f_25, _a19, _fs19, _oi_27⟩ ?_
      rintro ⟨k, ag3, _o3⟩ _wr_28 ⟨E, _zz2, _hk, hl3, hb3, hB3, hu3, hf3, _F2_0, _F2_1, _F2_2, _F2_3, _F2_4, _F2_5, _o2_3⟩
      have _E2h := E
      have _E2hz := _E2h.size
      have _F2_0z := _F2_0.lt
      refine W_seq fun _K_29 _hK_29 => ?_
      refine W_region ?_
      refine WL_step rfl rfl (r_lss rfl rfl) ?_
      refine WL_nil ?_
      refine thn_nrm (_hK_29 _ _ ?_)
      clear _hK_29
      refine W_seq fun _K_30 _hK_30 => ?_
      refine W_cond rfl (fun _h24 => ?_) (fun _h24 => ?_)
      · have _kb_31 := _h24
        have _h24 := bt_d _h24
        refine W_skip ?_
        refine thn_nrm (_hK_30 _ _ ?_)
        clear _hK_30
        refine W_seq fun _K_32 _hK_32 => ?_
        refine W_block ?_
        refine W_seq fun _K_33 _hK_33 => ?_
        refine W_region ?_
        refine WL_s rfl rfl ?_
        refine (s_index _F2_5 ics_len el46 sz3 rfl rfl rfl (by omega) fun _p25 _y25 _hy25 _a25 => ?_)
        have f25 := fits_el hv.2 _hys19 _hy25
        refine WL_step rfl rfl (r_loadAt0 _a25 agg3 rfl rfl) ?_
        refine WL_step rfl rfl (r_assign rfl) ?_
        refine WL_nil ?_
        refine thn_nrm (_hK_33 _ _ ?_)
        clear _hK_33
        refine W_seq fun _K_34 _hK_34 => ?_
        refine W_region ?_
        refine WL_step rfl rfl (r_move rfl) ?_
        refine WL_step rfl rfl (r_geq rfl rfl) ?_
        refine WL_step rfl rfl (r_move rfl) ?_
        refine WL_split (d := 29) rfl (fun _h29 => ?_) (fun _h29 => ?_)
        · have _kb_35 := _h29
          have _h29 := bt_d _h29
          refine WL_step rfl rfl (r_move rfl) ?_
          refine WL_step rfl rfl (r_move rfl) ?_
          refine WL_s rfl rfl ?_
          refine (s_index (j := _y25.toNat) _o2_3.ls bcs_len el37 sz4 rfl rfl (by omega) (by omega) fun _p32 _y32 _hy32 _a32 => ?_)
          refine WL_step rfl rfl (r_loadAt0 _a32 agg4 rfl rfl) ?_
          refine WL_step rfl rfl (r_pickT rfl rfl) ?_
          refine WL_step rfl rfl (r_move rfl) ?_
          refine WL_split (d := 35) rfl (fun _h35 => ?_) (fun _h35 => ?_)
          · have _kb_36 := _h35
            refine WL_step rfl rfl (r_move rfl) ?_
            refine WL_step rfl rfl (r_move rfl) ?_
            refine WL_s rfl rfl ?_
            refine (s_index _o2_3.ls bcs_len el37 sz4 rfl rfl rfl (by omega) fun _p38 _y38 _hy38 _a38 => ?_)
            refine WL_step rfl rfl (r_loadAt0 _a38 agg4 rfl rfl) ?_
            refine WL_step rfl rfl (r_not rfl) ?_
            refine WL_step rfl rfl (r_pickT rfl rfl) ?_
            refine WL_nil ?_
            refine thn_nrm (_hK_34 _ _ ?_)
            clear _hK_34
            refine W_cond rfl (fun _h41 => ?_) (fun _h41 => ?_)
            · have _kb_37 := _h41
              refine W_seq fun _K_38 _hK_38 => ?_
              refine W_region ?_
              refine WL_step rfl rfl (r_move rfl) ?_
              refine WL_step rfl rfl (r_move rfl) ?_
              refine WL_s rfl rfl ?_
              refine s_indexO (j := s) _o2_3 el37 sz4 rfl rfl rfl (by omega) fun _g44 _o44 _cp44 _q44 => ?_
              refine WL_s rfl rfl ?_
              refine s_storeO (j := s) true _o2_3 _q44 bcs_len sz4 rfl rfl rfl rfl (by omega) fun _w_39 _o_40 _cw_39 => ?_
              have _cw_39z := _cw_39.size
              have E := E.step _cw_39 (fun i hi => .inl (by have _h1 := _lo11 _ hi; omega))
              refine WL_nil ?_
              refine thn_nrm (_hK_38 _ _ ?_)
              clear _hK_38
              refine W_region ?_
              refine WL_step rfl rfl (r_assign rfl) ?_
              refine WL_nil ?_
              refine inB_nrm ?_
              refine thn_nrm (_hK_32 _ _ ?_)
              clear _hK_32
              refine W_region ?_
              refine WL_step rfl rfl (r_add (by omega) rfl rfl) ?_
              refine WL_step rfl rfl (r_move rfl) ?_
              refine WL_nil ?_
              have _on_41 : Ol bcs 4 1 _w_39 (.slice _Av11 (aA).length _Cv11) ((_o3.set s true)) := by
                have hx := _o_40
                exact hx
              have _f_42 := (_F2_0.ch _cw_39 (fun hm => by have _h1 := _lo11 _ hm; have _h2 := _hiv11 _ hm; omega))
              have _f_43 := (_F2_1.ch _cw_39 (fun i hi => by have _h1 := _lo11 _ hi; omega))
              have _f_44 := (_F2_2.ch _cw_39 (fun i hi => by have _h1 := _lo11 _ hi; omega))
              have _f_45 := (_F2_3.ch _cw_39 (fun i hi => by have _h1 := _lo11 _ hi; omega))
              have _f_46 := (_F2_4.ch _cw_39 (fun i hi => by have _h1 := _lo11 _ hi; omega))
              have _f_47 := (_F2_5.ch _cw_39 (fun i hi => by have _h1 := _lo11 _ hi; omega))
              exact thn_nrm (Exists.intro ((k + 1), true, (_o3.set s true)) ⟨⟨E, (by omega), (by omega), (by first | exact hl3 | simpa using hl3), (by first | exact hb3 | exact set_below hb3 (.step (t := _y25.toNat) ⟨k, _ys19, _hys19, by rw [_hy25, Int.toNat_of_nonneg (by omega)]⟩ (hb3 _ (by rw [_hy32, _h35])))), (by first | exact hB3 | exact fun q hq => set_true (hB3 q hq)), (by first | exact (fun e => absurd e Bool.noConfusion) | exact (fun e => ⟨(hu3 e).1, prow_step (hu3 e).2 _hys19 _hy25 (fun t _e2 _ => by omega)⟩) | exact (fun e => ⟨(hu3 e).1, prow_step (hu3 e).2 _hys19 _hy25 (fun t _e2 q => by obtain rfl : t = _y25.toNat := (by omega); first | (rw [_hy32, _h35] at q; cases q; done) | (rw [_hy38, show _y38 = true from (by simpa using _h41)]; done))⟩)), (by first | exact hf3 | (have hq := count_set (l := _o3) (s := s) (by rw [_hy38, show _y38 = false from (by simpa using _h41)]); simp only [if_true]; split at hf3 <;> omega)), _f_42, _f_43, _f_44, _f_45, _f_46, _f_47, _on_41⟩, Sub.cons rfl (Sub.cons rfl (Sub.cons rfl (Sub.cons rfl (Sub.cons rfl (Sub.cons rfl (Sub.cons rfl (Sub.cons rfl (Sub.cons rfl (Sub.cons rfl (Sub.cons rfl (Sub.cons rfl (Sub.cons rfl (Sub.cons rfl (Sub.cons rfl (Sub.cons rfl (Sub.cons rfl (Sub.cons rfl (Sub.nil _)))))))))))))))))), (by first | omega | (dsimp only; omega))⟩)
            · have _kb_37 := _h41
              refine W_skip ?_
              refine inB_nrm ?_
              refine thn_nrm (_hK_32 _ _ ?_)
              clear _hK_32
              refine W_region ?_
              refine WL_step rfl rfl (r_add (by omega) rfl rfl) ?_
              refine WL_step rfl rfl (r_move rfl) ?_
              refine WL_nil ?_
              have _on_48 : Ol bcs 4 1 _wr_28 (.slice _Av11 (aA).length _Cv11) (_o3) := by
                have hx := _o2_3
                exact hx
              exact thn_nrm (Exists.intro ((k + 1), ag3, _o3) ⟨⟨E, (by omega), (by omega), (by first | exact hl3 | simpa using hl3), (by first | exact hb3 | exact set_below hb3 (.step (t := _y25.toNat) ⟨k, _ys19, _hys19, by rw [_hy25, Int.toNat_of_nonneg (by omega)]⟩ (hb3 _ (by rw [_hy32, _h35])))), (by first | exact hB3 | exact fun q hq => set_true (hB3 q hq)), (by first | exact (fun e => absurd e Bool.noConfusion) | exact (fun e => ⟨(hu3 e).1, prow_step (hu3 e).2 _hys19 _hy25 (fun t _e2 _ => by omega)⟩) | exact (fun e => ⟨(hu3 e).1, prow_step (hu3 e).2 _hys19 _hy25 (fun t _e2 q => by obtain rfl : t = _y25.toNat := (by omega); first | (rw [_hy32, _h35] at q; cases q; done) | (rw [_hy38, show _y38 = true from (by simpa using _h41)]; done))⟩)), (by first | exact hf3 | (have hq := count_set (l := _o3) (s := s) (by rw [_hy38, show _y38 = false from (by simpa using _h41)]); simp only [if_true]; split at hf3 <;> omega)), _F2_0, _F2_1, _F2_2, _F2_3, _F2_4, _F2_5, _on_48⟩, Sub.cons rfl (Sub.cons rfl (Sub.cons rfl (Sub.cons rfl (Sub.cons rfl (Sub.cons rfl (Sub.cons rfl (Sub.cons rfl (Sub.cons rfl (Sub.cons rfl (Sub.cons rfl (Sub.cons rfl (Sub.cons rfl (Sub.cons rfl (Sub.cons rfl (Sub.cons rfl (Sub.cons rfl (Sub.cons rfl (Sub.nil _)))))))))))))))))), (by first | omega | (dsimp only; omega))⟩)
          · have _kb_36 := _h35
            refine WL_skip rfl rfl ?_
            refine WL_skip rfl rfl ?_
            refine WL_skip rfl rfl ?_
            refine WL_skip rfl rfl ?_
            refine WL_skip rfl rfl ?_
            refine WL_step rfl rfl (r_pickF rfl rfl) ?_
            refine WL_nil ?_
            refine thn_nrm (_hK_34 _ _ ?_)
            clear _hK_34
            refine W_condF rfl ?_
            refine W_skip ?_
            refine inB_nrm ?_
            refine thn_nrm (_hK_32 _ _ ?_)
            clear _hK_32
            refine W_region ?_
            refine WL_step rfl rfl (r_add (by omega) rfl rfl) ?_
            refine WL_step rfl rfl (r_move rfl) ?_
            refine WL_nil ?_
            have _on_49 : Ol bcs 4 1 _wr_28 (.slice _Av11 (aA).length _Cv11) (_o3) := by
              have hx := _o2_3
              exact hx
            exact thn_nrm (Exists.intro ((k + 1), ag3, _o3) ⟨⟨E, (by omega), (by omega), (by first | exact hl3 | simpa using hl3), (by first | exact hb3 | exact set_below hb3 (.step (t := _y25.toNat) ⟨k, _ys19, _hys19, by rw [_hy25, Int.toNat_of_nonneg (by omega)]⟩ (hb3 _ (by rw [_hy32, _h35])))), (by first | exact hB3 | exact fun q hq => set_true (hB3 q hq)), (by first | exact (fun e => absurd e Bool.noConfusion) | exact (fun e => ⟨(hu3 e).1, prow_step (hu3 e).2 _hys19 _hy25 (fun t _e2 _ => by omega)⟩) | exact (fun e => ⟨(hu3 e).1, prow_step (hu3 e).2 _hys19 _hy25 (fun t _e2 q => by obtain rfl : t = _y25.toNat := (by omega); first | (rw [_hy32, _h35] at q; cases q; done) | (rw [_hy38, show _y38 = true from (by simpa using _h41)]; done))⟩)), (by first | exact hf3 | (have hq := count_set (l := _o3) (s := s) (by rw [_hy38, show _y38 = false from (by simpa using _h41)]); simp only [if_true]; split at hf3 <;> omega)), _F2_0, _F2_1, _F2_2, _F2_3, _F2_4, _F2_5, _on_49⟩, Sub.cons rfl (Sub.cons rfl (Sub.cons rfl (Sub.cons rfl (Sub.cons rfl (Sub.cons rfl (Sub.cons rfl (Sub.cons rfl (Sub.cons rfl (Sub.cons rfl (Sub.cons rfl (Sub.cons rfl (Sub.cons rfl (Sub.cons rfl (Sub.cons rfl (Sub.cons rfl (Sub.cons rfl (Sub.cons rfl (Sub.nil _)))))))))))))))))), (by first | omega | (dsimp only; omega))⟩)
        · have _kb_35 := _h29
          have _h29 := bf_d _h29
          refine WL_skip rfl rfl ?_
          refine WL_skip rfl rfl ?_
          refine WL_skip rfl rfl ?_
          refine WL_skip rfl rfl ?_
          refine WL_step rfl rfl (r_pickF rfl rfl) ?_
          refine WL_step rfl rfl (r_move rfl) ?_
          refine WL_skip rfl rfl ?_
          refine WL_skip rfl rfl ?_
          refine WL_skip rfl rfl ?_
          refine WL_skip rfl rfl ?_
          refine WL_skip rfl rfl ?_
          refine WL_step rfl rfl (r_pickF rfl rfl) ?_
          refine WL_nil ?_
          refine thn_nrm (_hK_34 _ _ ?_)
          clear _hK_34
          refine W_condF rfl ?_
          refine W_skip ?_
          refine inB_nrm ?_
          refine thn_nrm (_hK_32 _ _ ?_)
          clear _hK_32
          refine W_region ?_
          refine WL_step rfl rfl (r_add (by omega) rfl rfl) ?_
          refine WL_step rfl rfl (r_move rfl) ?_
          refine WL_nil ?_
          have _on_50 : Ol bcs 4 1 _wr_28 (.slice _Av11 (aA).length _Cv11) (_o3) := by
            have hx := _o2_3
            exact hx
          exact thn_nrm (Exists.intro ((k + 1), ag3, _o3) ⟨⟨E, (by omega), (by omega), (by first | exact hl3 | simpa using hl3), (by first | exact hb3 | exact set_below hb3 (.step (t := _y25.toNat) ⟨k, _ys19, _hys19, by rw [_hy25, Int.toNat_of_nonneg (by omega)]⟩ (hb3 _ (by rw [_hy32, _h35])))), (by first | exact hB3 | exact fun q hq => set_true (hB3 q hq)), (by first | exact (fun e => absurd e Bool.noConfusion) | exact (fun e => ⟨(hu3 e).1, prow_step (hu3 e).2 _hys19 _hy25 (fun t _e2 _ => by omega)⟩) | exact (fun e => ⟨(hu3 e).1, prow_step (hu3 e).2 _hys19 _hy25 (fun t _e2 q => by obtain rfl : t = _y25.toNat := (by omega); first | (rw [_hy32, _h35] at q; cases q; done) | (rw [_hy38, show _y38 = true from (by simpa using _h41)]; done))⟩)), (by first | exact hf3 | (have hq := count_set (l := _o3) (s := s) (by rw [_hy38, show _y38 = false from (by simpa using _h41)]); simp only [if_true]; split at hf3 <;> omega)), _F2_0, _F2_1, _F2_2, _F2_3, _F2_4, _F2_5, _on_50⟩, Sub.cons rfl (Sub.cons rfl (Sub.cons rfl (Sub.cons rfl (Sub.cons rfl (Sub.cons rfl (Sub.cons rfl (Sub.cons rfl (Sub.cons rfl (Sub.cons rfl (Sub.cons rfl (Sub.cons rfl (Sub.cons rfl (Sub.cons rfl (Sub.cons rfl (Sub.cons rfl (Sub.cons rfl (Sub.cons rfl (Sub.nil _)))))))))))))))))), (by first | omega | (dsimp only; omega))⟩)
      · have _kb_31 := _h24
        have _h24 := bf_d _h24
        refine W_exit (thn_exit (thn_exit (inB_hit ?_)))
        refine inB_nrm ?_
        refine thn_nrm (_hK_22 _ _ ?_)
        clear _hK_22
        refine W_region ?_
        refine WL_step rfl rfl (r_add (by omega) rfl rfl) ?_
        refine WL_step rfl rfl (r_move rfl) ?_
        refine WL_nil ?_
        have _on_51 : Ol bcs 4 1 _wr_28 (.slice _Av11 (aA).length _Cv11) (_o3) := by
          have hx := _o2_3
          exact hx
        exact thn_nrm (Exists.intro ((s + 1), ag3, _o3) ⟨⟨E, (by omega), (by omega), hl3, hb3, hB3, (fun e => pup_row (hu3 e).1 (hu3 e).2 (fun r hr => by have _h1 := (fits_row hv.2 hr).1; omega)), hf3, _F2_0, _F2_1, _on_51⟩, Sub.cons rfl (Sub.cons rfl (Sub.cons rfl (Sub.cons rfl (Sub.cons rfl (Sub.cons rfl (Sub.cons rfl (Sub.cons rfl (Sub.cons rfl (Sub.nil _))))))))), (by first | omega | (dsimp only; omega))⟩)
    · have _kb_21 := _h17
      have _h17 := bf_d _h17
      refine W_exit (thn_exit (thn_exit (inB_hit ?_)))
      refine inB_nrm ?_
      have _on_52 : Ol bcs 4 1 _wr_18 (.slice _Av11 (aA).length _Cv11) (_o2) := by
        have hx := _o1_3
        exact hx
      exact thn_nrm (Exists.intro (ag2, _o2) ⟨⟨E, (by omega), hl2, hb2, hB2, (fun e => (show s = aN.length by omega) ▸ hu2 e), _F1_0, _F1_1, _on_52⟩, Sub.cons rfl (Sub.cons rfl (Sub.cons rfl (Sub.cons rfl (Sub.nil _)))), (by have hf := hf2; rw [_h12] ; simp only [if_true]; split at hf <;> simp_all <;> omega)⟩)
  · have _kb_14 := _h12
    refine W_exit (thn_exit (thn_exit (inB_hit ?_)))
    refine thn_nrm (_hK_6 _ _ ?_)
    clear _hK_6
    refine W_seq fun _K_53 _hK_53 => ?_
    refine W_region ?_
    refine WL_step rfl rfl (r_move rfl) ?_
    refine WL_step rfl rfl (r_assign rfl) ?_
    refine WL_nil ?_
    refine thn_nrm (_hK_53 _ _ ?_)
    clear _hK_53
    refine W_ret ?_
    clear _hK_12
    have _o_54 : Ol bcs 4 1 _wr_11 (.slice _Av11 (aA).length _Cv11) (liveL aA aN) := by
      have hx := _o0_3
      (rw [← live_of_closed hl1 hb1 hB1 (_hc1 _h12)]; exact hx)
    exact ret_intro [_] ⟨rfl, trivial⟩ ⟨_o_54, Lo.down _lo11 (by omega), E⟩

/-- impl.UsefulStates -/
theorem c_impl_UsefulStates {w : World} (aS : Int) {LL_aA _B_aA : Nat} {_v_aA : Value} {aA : List Bool} (_h_aA : Ls bcs 1 w LL_aA _B_aA _v_aA aA) {LL_saN _B_saN : Nat} {_v_saN : Value} {saN : List Sv} (_h_saN : Ls Sv.cs 1 w LL_saN _B_saN _v_saN saN) {LR_aN BB_aN : Nat} {aN : List (List Int)} (_rd_aN : Rd ics 1 w LR_aN BB_aN saN aN) :
    Ctr Try.prog 66 #[(.agg #[(.int .i64 aS), _v_aA, _v_saN])] w (fun v w' => Ol ics 3 1 w' v (usfR aS aA aN) ∧ Lo w.heap.size v ∧ Ch [] w w') := by
  obtain ⟨_A_aA, _C_aA, _e1_aA⟩ := _h_aA.val
  subst _e1_aA
  have _l_aA := _h_aA.len
  have _h_aA := _h_aA.here (by decide)
  obtain ⟨_A_saN, _C_saN, _e1_saN⟩ := _h_saN.val
  subst _e1_saN
  have _l_saN := _h_saN.len
  have _h_saN := _h_saN.here (by decide)
  have _rd_aN := _rd_aN.here (by decide)
  have _rl_aN := _rd_aN.1
  have E := Ch.refl [] w
  refine Ctr_of_W (N := 36) (vs0 := [(.agg #[(.int .i64 aS), (.slice _A_aA aA.length _C_aA), (.slice _A_saN saN.length _C_saN)])]) Try.func66 rfl rfl rfl ?_
  refine W_seq fun _K_1 _hK_1 => ?_
  refine W_region ?_
  refine WL_s rfl rfl ?_
  refine s_box rfl fun _b1 _w_2 _m1 _cw_2 _e1 => ?_
  have _cw_2z := _cw_2.size
  have E := E.trans _cw_2
  have _z1 := _m1.lt
  replace _m1 : Blk _w_2 _b1 42 [(.int .i64 aS), (.slice _A_aA aA.length _C_aA), (.slice _A_saN saN.length _C_saN)] := _m1
  refine WL_step rfl rfl (r_assign rfl) ?_
  refine WL_nil ?_
  refine thn_nrm (_hK_1 _ _ ?_)
  clear _hK_1
  refine W_seq fun _K_3 _hK_3 => ?_
  refine W_seq fun _K_4 _hK_4 => ?_
  refine W_region ?_
  refine WL_step rfl rfl (r_loadAtA0 _m1.at_ agg42 sz42 rfl) ?_
  refine WL_s rfl rfl ?_
  have _f_5 := (_h_aA.ch0 _cw_2)
  have _f_6 := (_rd_aN.ch0 _cw_2)
  have _f_7 := (_h_saN.ch0 _cw_2)
  refine Step.call (r_call (xs := [.tmp 7]) fk65 rfl) (c_impl_IsValidAutomaton _ _f_5 _f_7 _f_6 ) fun _v8 _w_8 _q8 => ?_
  obtain ⟨rfl, _cw_8⟩ := _q8
  have _cw_8z := _cw_8.size
  have E := E.trans _cw_8
  refine WL_step rfl rfl (r_not rfl) ?_
  refine WL_nil ?_
  refine thn_nrm (_hK_4 _ _ ?_)
  clear _hK_4
  refine W_cond rfl (fun _h9 => ?_) (fun _h9 => ?_)
  · have _kb_9 := _h9
    have _h9 := bf_t (bt_n _h9)
    refine W_seq fun _K_10 _hK_10 => ?_
    refine W_region ?_
    refine WL_step rfl rfl (r_assign rfl) ?_
    refine WL_nil ?_
    refine thn_nrm (_hK_10 _ _ ?_)
    clear _hK_10
    refine W_ret (thn_ret ?_)
    clear _hK_3
    have _o_11 : Ol ics 3 1 _w_8 (.slice none 0 0) (usfR aS aA aN) := by
      have hx := (Ol.nil (cs := ics) (e := 3) (k := 1) _w_8)
      first | exact hx.eq (usfR_n _h9) | exact hx.eq (usfR_y _h9 (by omega))
    exact ret_intro [_] ⟨rfl, trivial⟩ ⟨_o_11, Lo.nil _, E⟩
  · have _kb_9 := _h9
    have _h9 := bt_t (bf_n _h9)
    refine W_skip ?_
    refine thn_nrm (_hK_3 _ _ ?_)
    clear _hK_3
    refine W_seq fun _K_12 _hK_12 => ?_
    refine W_drawC [] 6 mixed rfl fun _w_13 _cw_13 => ?_
    have _cw_13z := _cw_13.size
    have E := E.trans _cw_13
    have _f_14 := ((_m1.ch0 _cw_8).ch0 _cw_13)
    refine DR_s 0 rfl (by kernel_rfl) rfl rfl (t_loadAtA0 _f_14.at_ (fun i hi => absurd hi List.not_mem_nil) agg42 sz42 rfl ?_)
    refine DR_s 2 rfl (by kernel_rfl) rfl rfl (t_loadAtA0 _f_14.at_ (fun i hi => absurd hi List.not_mem_nil) agg42 sz42 rfl ?_)
    refine DR_one 1 (by kernel_rfl) ?_
    refine DO_s rfl rfl rfl ?_
    have _f_15 := ((_f_5.ch0 _cw_8).ch0 _cw_13)
    have _f_16 := ((_f_6.ch0 _cw_8).ch0 _cw_13)
    have _f_17 := ((_f_7.ch0 _cw_8).ch0 _cw_13)
    refine Step.call (r_call (xs := [.tmp 10]) fk121 rfl) (c_impl_Automaton_live _ _f_15 _f_17 _f_16 _h9) fun _v11 _w_18 _q11 => ?_
    obtain ⟨_q11, _lo11, _cw_18⟩ := _q11
    have _cw_18z := _cw_18.size
    have E := E.trans _cw_18
    obtain ⟨_Av11, _Cv11, _ev11⟩ := _q11.val
    subst _ev11
    have _lv11 := _q11.len
    have _hiv11 := _q11.lt
    have _e11 := liveL_len aA aN
    have _S_19 : Ch [] _w_13 _w_18 := ((Ch.refl _ _).trans _cw_18)
    refine ⟨_S_19, ?_⟩
    refine DR_one 3 (by kernel_rfl) ?_
    refine DO_s rfl rfl rfl ?_
    have _f_20 := (_f_15.ch0 _cw_18)
    have _f_21 := (_f_16.ch0 _cw_18)
    have _f_22 := (_f_17.ch0 _cw_18)
    refine Step.call (r_call (xs := [.tmp 12]) fk122 rfl) (c_impl_Automaton_found _ _f_20 _f_22 _f_21 _h9) fun _v13 _w_23 _q13 => ?_
    obtain ⟨_q13, _lo13, _cw_23⟩ := _q13
    have _cw_23z := _cw_23.size
    have E := E.trans _cw_23
    obtain ⟨_Av13, _Cv13, _ev13⟩ := _q13.val
    subst _ev13
    have _lv13 := _q13.len
    have _hiv13 := _q13.lt
    have _e13 := reachL_len aS aA.length aN
    have _S_24 : Ch [] _w_13 _w_23 := (_S_19.trans _cw_23)
    refine ⟨_S_24, ?_⟩
    refine DR_s 4 rfl (by kernel_rfl) rfl rfl (t_v (fun _ => (r_assign rfl)) ?_)
    refine DR_s 5 rfl (by kernel_rfl) rfl rfl (t_v (fun _ => (r_assign rfl)) ?_)
    refine DR_done (by kernel_rfl) ?_
    refine thn_nrm (_hK_12 _ _ ?_)
    clear _hK_12
    refine W_seq fun _K_25 _hK_25 => ?_
    refine W_region ?_
    refine WL_s rfl rfl ?_
    refine s_buildSlice0 (k := 1) ics el46 sz3 fun _v14 _w_26 _q14 _lo14 _cw_26 => ?_
    have _cw_26z := _cw_26.size
    have E := E.trans _cw_26
    obtain ⟨_Av14, _Cv14, _ev14⟩ := _q14.val
    subst _ev14
    have _lv14 := _q14.len
    have _hiv14 := _q14.lt
    refine WL_step rfl rfl (r_assign rfl) ?_
    refine WL_nil ?_
    refine thn_nrm (_hK_25 _ _ ?_)
    clear _hK_25
    refine W_seq fun _K_27 _hK_27 => ?_
    refine W_seq fun _K_28 _hK_28 => ?_
    refine W_region ?_
    refine WL_step rfl rfl (r_move rfl) ?_
    refine WL_step rfl rfl (r_len (by rw [el37]; rfl) rfl) ?_
    refine WL_step rfl rfl (r_move rfl) ?_
    refine WL_nil ?_
    refine thn_nrm (_hK_28 _ _ ?_)
    clear _hK_28
    refine W_block ?_
    have _oi_29 : Ol ics 3 1 _w_26 (.slice _Av14 (([] : List Int)).length _Cv14) (usfP aS aA aN 0) := by
      have hx := _q14
      simpa [usfP] using hx
    have _f_30 := ((_q11.ch0 _cw_23).ch0 _cw_26)
    have _f_31 := (_q13.ch0 _cw_26)
    refine W_loop (σ := Nat × Value) (fun ⟨k, sv⟩ => [(2, (.slice none 0 0)), (3, (.slice _Av11 (liveL aA aN).length _Cv11)), (4, (.slice _Av13 (reachL aS aA.length aN).length _Cv13)), (5, sv), (16, (.int .i64 (((liveL aA aN).length : Nat) : Int))), (17, (.int .i64 ((k : Nat) : Int)))]) (fun ⟨k, sv⟩ wx => Ch [] w wx ∧ _w_26.heap.size ≤ wx.heap.size ∧ (k ≤ aA.length) ∧ Ol bcs 4 1 wx (.slice _Av11 (liveL aA aN).length _Cv11) (liveL aA aN) ∧ Ol bcs 4 1 wx (.slice _Av13 (reachL aS aA.length aN).length _Cv13) (reachL aS aA.length aN) ∧ Ol ics 3 1 wx sv (usfP aS aA aN k) ∧ Lo _w_23.heap.size sv) (fun ⟨k, sv⟩ => aA.length - k) (0, (.slice _Av14 (([] : List Int)).length _Cv14)) (Sub.cons rfl (Sub.cons rfl (Sub.cons rfl (Sub.cons rfl (Sub.cons rfl (Sub.cons rfl (Sub.nil _))))))) ⟨E, (Nat.le_refl _), (by omega), _f_30, _f_31, _oi_29, _lo14⟩ ?_
    rintro ⟨k, sv⟩ _wr_32 ⟨E, _zz0, _hk, _F0_0, _F0_1, _o0_5, _lo0_5⟩
    have _E0h := E
    have _E0hz := _E0h.size
    obtain ⟨Asv, Csv, esv⟩ := _o0_5.val
    subst esv
    have lsv := _o0_5.len
    have hisv := _o0_5.lt
    have _v12 := _h9.1
    refine W_seq fun _K_33 _hK_33 => ?_
    refine W_region ?_
    refine WL_step rfl rfl (r_lss rfl rfl) ?_
    refine WL_nil ?_
    refine thn_nrm (_hK_33 _ _ ?_)
    clear _hK_33
    refine W_seq fun _K_34 _hK_34 => ?_
    refine W_cond rfl (fun _h18 => ?_) (fun _h18 => ?_)
    · have _kb_35 := _h18
      have _h18 := bt_d _h18
      refine W_skip ?_
      refine thn_nrm (_hK_34 _ _ ?_)
      clear _hK_34
      refine W_seq fun _K_36 _hK_36 => ?_
      refine W_block ?_
      refine W_seq fun _K_37 _hK_37 => ?_
      refine W_region ?_
      refine WL_step rfl rfl (r_move rfl) ?_
      refine WL_step rfl rfl (r_assign rfl) ?_
      refine WL_nil ?_
      refine thn_nrm (_hK_37 _ _ ?_)
      clear _hK_37
      refine W_seq fun _K_38 _hK_38 => ?_
      refine W_region ?_
      refine WL_step rfl rfl (r_move rfl) ?_
      refine WL_step rfl rfl (r_move rfl) ?_
      refine WL_s rfl rfl ?_
      refine (s_index _F0_0.ls bcs_len el37 sz4 rfl rfl rfl (by omega) fun _p22 _y22 _hy22 _a22 => ?_)
      refine WL_step rfl rfl (r_loadAt0 _a22 agg4 rfl rfl) ?_
      refine WL_step rfl rfl (r_move rfl) ?_
      refine WL_split (d := 24) rfl (fun _h24 => ?_) (fun _h24 => ?_)
      · have _kb_39 := _h24
        refine WL_step rfl rfl (r_move rfl) ?_
        refine WL_step rfl rfl (r_move rfl) ?_
        refine WL_s rfl rfl ?_
        refine (s_index _F0_1.ls bcs_len el37 sz4 rfl rfl rfl (by omega) fun _p27 _y27 _hy27 _a27 => ?_)
        refine WL_step rfl rfl (r_loadAt0 _a27 agg4 rfl rfl) ?_
        refine WL_step rfl rfl (r_pickT rfl rfl) ?_
        refine WL_nil ?_
        refine thn_nrm (_hK_38 _ _ ?_)
        clear _hK_38
        refine W_cond rfl (fun _h29 => ?_) (fun _h29 => ?_)
        · have _kb_40 := _h29
          refine W_region ?_
          refine WL_step rfl rfl (r_move rfl) ?_
          refine WL_step rfl rfl (r_move rfl) ?_
          refine WL_s rfl rfl ?_
          refine s_buildSlice (cs := ics) (parts := [(0, .tmp 31)]) (0 : Int) [((k : Nat) : Int)] el46 sz3 zr3 ics_len (by decide) rfl rfl rfl (by decide) (by decide) rfl fun _v32 _w_41 _q32 _lo32 _cw_41 => ?_
          have _cw_41z := _cw_41.size
          have E := E.trans _cw_41
          obtain ⟨_Av32, _Cv32, _ev32⟩ := _q32.val
          subst _ev32
          have _lv32 := _q32.len
          have _hiv32 := _q32.lt
          refine WL_s rfl rfl ?_
          have _f_43 := (_o0_5.ch0 _cw_41)
          refine s_append (cs := ics) el46 sz3 by3 zr3 rfl (by decide) ics_one _f_43 _q32.ls rfl rfl (by have _h9 := usfP_len aS aA aN k; simp only [List.length_singleton]; omega) (by have _h9 := usfP_len aS aA aN k; simp only [List.length_singleton]; omega) _lo0_5 (by omega) fun _v33 _w_42 _q33 _lo33 _ap33 _cw_42 => ?_
          have _cw_42z := _cw_42.size
          have E := E.step _cw_42 (fun i hi => .inl (by have _h1 := _lo0_5 _ hi; omega))
          obtain ⟨_Av33, _Cv33, _ev33⟩ := _q33.val
          subst _ev33
          have _lv33 := _q33.len
          have _hiv33 := _q33.lt
          refine WL_step rfl rfl (r_assign rfl) ?_
          refine WL_nil ?_
          refine inB_nrm ?_
          refine thn_nrm (_hK_36 _ _ ?_)
          clear _hK_36
          refine W_region ?_
          refine WL_step rfl rfl (r_add (by omega) rfl rfl) ?_
          refine WL_step rfl rfl (r_move rfl) ?_
          refine WL_nil ?_
          have _on_44 : Ol ics 3 1 _w_42 (.slice _Av33 ((usfP aS aA aN k ++ [((k : Nat) : Int)])).length _Cv33) (usfP aS aA aN (k + 1)) := by
            have hx := _q33
            first | exact hx.eq (usf_y _hy27 _hy22 (by assumption) (by assumption)) | exact hx.eq (usf_n1 _hy27 (by assumption) (by omega)) | exact hx.eq (usf_n2 _hy22 (by assumption) (by omega))
          have _f_45 := ((_F0_0.ch0 _cw_41).ch _cw_42 (fun g hg hm => by have _h1 := _lo0_5 _ hm; have _h2 := hisv _ hm; have _h3 := _lo11 _ hg; have _h4 := _hiv11 _ hg; omega))
          have _f_46 := ((_F0_1.ch0 _cw_41).ch _cw_42 (fun g hg hm => by have _h1 := _lo0_5 _ hm; have _h2 := hisv _ hm; have _h3 := _lo13 _ hg; have _h4 := _hiv13 _ hg; omega))
          exact thn_nrm (Exists.intro ((k + 1), (.slice _Av33 ((usfP aS aA aN k ++ [((k : Nat) : Int)])).length _Cv33)) ⟨⟨E, (by omega), (by omega), _f_45, _f_46, _on_44, (Lo.down _lo33 (by omega))⟩, Sub.cons rfl (Sub.cons rfl (Sub.cons rfl (Sub.cons rfl (Sub.cons rfl (Sub.cons rfl (Sub.nil _)))))), (by first | omega | (dsimp only; omega))⟩)
        · have _kb_40 := _h29
          refine W_skip ?_
          refine inB_nrm ?_
          refine thn_nrm (_hK_36 _ _ ?_)
          clear _hK_36
          refine W_region ?_
          refine WL_step rfl rfl (r_add (by omega) rfl rfl) ?_
          refine WL_step rfl rfl (r_move rfl) ?_
          refine WL_nil ?_
          have _on_47 : Ol ics 3 1 _wr_32 (.slice Asv (usfP aS aA aN k).length Csv) (usfP aS aA aN (k + 1)) := by
            have hx := _o0_5
            first | exact hx.eq (usf_y _hy27 _hy22 (by assumption) (by assumption)) | exact hx.eq (usf_n1 _hy27 (by assumption) (by omega)) | exact hx.eq (usf_n2 _hy22 (by assumption) (by omega))
          exact thn_nrm (Exists.intro ((k + 1), (.slice Asv (usfP aS aA aN k).length Csv)) ⟨⟨E, (by omega), (by omega), _F0_0, _F0_1, _on_47, (Lo.down _lo0_5 (by omega))⟩, Sub.cons rfl (Sub.cons rfl (Sub.cons rfl (Sub.cons rfl (Sub.cons rfl (Sub.cons rfl (Sub.nil _)))))), (by first | omega | (dsimp only; omega))⟩)
      · have _kb_39 := _h24
        refine WL_skip rfl rfl ?_
        refine WL_skip rfl rfl ?_
        refine WL_skip rfl rfl ?_
        refine WL_skip rfl rfl ?_
        refine WL_step rfl rfl (r_pickF rfl rfl) ?_
        refine WL_nil ?_
        refine thn_nrm (_hK_38 _ _ ?_)
        clear _hK_38
        refine W_condF rfl ?_
        refine W_skip ?_
        refine inB_nrm ?_
        refine thn_nrm (_hK_36 _ _ ?_)
        clear _hK_36
        refine W_region ?_
        refine WL_step rfl rfl (r_add (by omega) rfl rfl) ?_
        refine WL_step rfl rfl (r_move rfl) ?_
        refine WL_nil ?_
        have _on_48 : Ol ics 3 1 _wr_32 (.slice Asv (usfP aS aA aN k).length Csv) (usfP aS aA aN (k + 1)) := by
          have hx := _o0_5
          first | exact hx.eq (usf_y _hy27 _hy22 (by assumption) (by assumption)) | exact hx.eq (usf_n1 _hy27 (by assumption) (by omega)) | exact hx.eq (usf_n2 _hy22 (by assumption) (by omega))
        exact thn_nrm (Exists.intro ((k + 1), (.slice Asv (usfP aS aA aN k).length Csv)) ⟨⟨E, (by omega), (by omega), _F0_0, _F0_1, _on_48, (Lo.down _lo0_5 (by omega))⟩, Sub.cons rfl (Sub.cons rfl (Sub.cons rfl (Sub.cons rfl (Sub.cons rfl (Sub.cons rfl (Sub.nil _)))))), (by first | omega | (dsimp only; omega))⟩)
    · have _kb_35 := _h18
      have _h18 := bf_d _h18
      refine W_exit (thn_exit (thn_exit (inB_hit ?_)))
      refine thn_nrm (_hK_27 _ _ ?_)
      clear _hK_27
      refine W_seq fun _K_49 _hK_49 => ?_
      refine W_region ?_
      refine WL_step rfl rfl (r_move rfl) ?_
      refine WL_step rfl rfl (r_assign rfl) ?_
      refine WL_nil ?_
      refine thn_nrm (_hK_49 _ _ ?_)
      clear _hK_49
      refine W_ret ?_
      clear _hK_34
      have _o_50 : Ol ics 3 1 _wr_32 (.slice Asv (usfP aS aA aN k).length Csv) (usfR aS aA aN) := by
        have hx := _o0_5
        first | exact hx.eq (usfR_n _h9) | exact hx.eq (usfR_y _h9 (by omega))
      exact ret_intro [_] ⟨rfl, trivial⟩ ⟨_o_50, Lo.down _lo0_5 (by omega), E⟩

shelf_lay Lays2.n23 Nm2 23 at Try as lay_23_72
/-- slices.Delete[[]int,int] -/
theorem c_slices_Delete_int_int {w : World} {e_s : Nat} {v_s : Value} {s : List Int} (h_s : Ol ics e_s 1 w v_s s) (i : Nat) (j : Int) (hj : j = (i : Int) + 1) (hi : i < s.length) (hb : s.length ≤ 4194304) :
    Ctr Try.prog 72 #[v_s, (.int .i64 ((i : Nat) : Int)), (.int .i64 j)] w (fun v w' => Ol ics e_s 1 w' v (s.take i ++ s.drop (i + 1)) ∧ bl v = bl v_s ∧ Ch (bl v_s) w w') := by
  subst hj; exact delete_ctr lay_23_72 h_s hi (by omega)

/-- slices.Index[[]int,int] -/
theorem c_slices_Index_int_int {w : World} {LL_s _B_s : Nat} {_v_s : Value} {s : List Int} (_h_s : Ls ics 1 w LL_s _B_s _v_s s) (x : Int) :
    Ctr Try.prog 123 #[_v_s, (.int .i64 x)] w (fun v w' => v = .int .i64 (ixP (fun y => decide (x = y)) s) ∧ Ch [] w w') := by
  obtain ⟨_A_s, _C_s, _e1_s⟩ := _h_s.val
  subst _e1_s
  have _l_s := _h_s.len
  have _h_s := _h_s.here (by decide)
  have E := Ch.refl [] w
  refine Ctr_of_W (N := 19) (vs0 := [(.slice _A_s s.length _C_s), (.int .i64 x)]) Try.func123 rfl rfl rfl ?_
  refine W_seq fun _K_1 _hK_1 => ?_
  refine W_region ?_
  refine WL_step rfl rfl (r_assign rfl) ?_
  refine WL_nil ?_
  refine thn_nrm (_hK_1 _ _ ?_)
  clear _hK_1
  refine W_seq fun _K_2 _hK_2 => ?_
  refine W_seq fun _K_3 _hK_3 => ?_
  refine W_region ?_
  refine WL_step rfl rfl (r_move rfl) ?_
  refine WL_step rfl rfl (r_len (by rw [el46]; rfl) rfl) ?_
  refine WL_step rfl rfl (r_move rfl) ?_
  refine WL_nil ?_
  refine thn_nrm (_hK_3 _ _ ?_)
  clear _hK_3
  refine W_block ?_
  refine W_loop (σ := Nat) (fun (k : Nat) => [(0, (.slice _A_s s.length _C_s)), (1, (.int .i64 x)), (7, (.int .i64 ((s.length : Nat) : Int))), (8, (.int .i64 ((k : Nat) : Int)))]) (fun (k : Nat) wx => Ch [] w wx ∧ w.heap.size ≤ wx.heap.size ∧ (k ≤ s.length) ∧ ((s.take k).any (fun y => decide (x = y)) = false)) (fun (k : Nat) => s.length - k) 0 (Sub.cons rfl (Sub.cons rfl (Sub.cons rfl (Sub.cons rfl (Sub.nil _))))) ⟨E, (Nat.le_refl _), (by omega), (by simp)⟩ ?_
  rintro k _wr_4 ⟨E, _zz0, _hk, _ht⟩
  have _E0h := E
  have _E0hz := _E0h.size
  refine W_seq fun _K_5 _hK_5 => ?_
  refine W_region ?_
  refine WL_step rfl rfl (r_lss rfl rfl) ?_
  refine WL_nil ?_
  refine thn_nrm (_hK_5 _ _ ?_)
  clear _hK_5
  refine W_seq fun _K_6 _hK_6 => ?_
  refine W_cond rfl (fun _h9 => ?_) (fun _h9 => ?_)
  · have _kb_7 := _h9
    have _h9 := bt_d _h9
    refine W_skip ?_
    refine thn_nrm (_hK_6 _ _ ?_)
    clear _hK_6
    refine W_seq fun _K_8 _hK_8 => ?_
    refine W_block ?_
    refine W_seq fun _K_9 _hK_9 => ?_
    refine W_region ?_
    refine WL_step rfl rfl (r_move rfl) ?_
    refine WL_step rfl rfl (r_assign rfl) ?_
    refine WL_nil ?_
    refine thn_nrm (_hK_9 _ _ ?_)
    clear _hK_9
    refine W_seq fun _K_10 _hK_10 => ?_
    refine W_region ?_
    refine WL_step rfl rfl (r_move rfl) ?_
    refine WL_step rfl rfl (r_move rfl) ?_
    refine WL_step rfl rfl (r_move rfl) ?_
    refine WL_s rfl rfl ?_
    have _f_11 := (_h_s.ch0 _E0h)
    refine (s_index _f_11 ics_len el46 sz3 rfl rfl rfl (by omega) fun _p14 _y14 _hy14 _a14 => ?_)
    refine WL_step rfl rfl (r_loadAt0 _a14 agg3 rfl rfl) ?_
    refine WL_step rfl rfl (r_eql rfl rfl) ?_
    refine WL_nil ?_
    refine thn_nrm (_hK_10 _ _ ?_)
    clear _hK_10
    refine W_cond rfl (fun _h16 => ?_) (fun _h16 => ?_)
    · have _kb_12 := _h16
      have _h16 := bt_d _h16
      refine W_seq fun _K_13 _hK_13 => ?_
      refine W_region ?_
      refine WL_step rfl rfl (r_move rfl) ?_
      refine WL_step rfl rfl (r_assign rfl) ?_
      refine WL_nil ?_
      refine thn_nrm (_hK_13 _ _ ?_)
      clear _hK_13
      refine W_ret (inB_ret (thn_ret (thn_ret (inB_ret (thn_ret ?_)))))
      clear _hK_2 _hK_8
      exact ret_intro [_] ⟨rfl, trivial⟩ ⟨congrArg (Value.int .i64) (by first | exact ixP_y _ht _hy14 (decide_eq_true _h16) | exact ixP_n _ht (by omega)), E⟩
    · have _kb_12 := _h16
      have _h16 := bf_d _h16
      refine W_skip ?_
      refine inB_nrm ?_
      refine thn_nrm (_hK_8 _ _ ?_)
      clear _hK_8
      refine W_region ?_
      refine WL_step rfl rfl (r_add (by omega) rfl rfl) ?_
      refine WL_step rfl rfl (r_move rfl) ?_
      refine WL_nil ?_
      exact thn_nrm (Exists.intro (k + 1) ⟨⟨E, (by omega), (by omega), (ixP_step _ht _hy14 (decide_eq_false _h16))⟩, Sub.cons rfl (Sub.cons rfl (Sub.cons rfl (Sub.cons rfl (Sub.nil _)))), (by first | omega | (dsimp only; omega))⟩)
  · have _kb_7 := _h9
    have _h9 := bf_d _h9
    refine W_exit (thn_exit (thn_exit (inB_hit ?_)))
    refine thn_nrm (_hK_2 _ _ ?_)
    clear _hK_2
    refine W_seq fun _K_14 _hK_14 => ?_
    refine W_region ?_
    refine WL_step rfl rfl (r_assign rfl) ?_
    refine WL_nil ?_
    refine thn_nrm (_hK_14 _ _ ?_)
    clear _hK_14
    refine W_ret ?_
    clear _hK_6
    exact ret_intro [_] ⟨rfl, trivial⟩ ⟨congrArg (Value.int .i64) (by first | exact ixP_y _ht _hy14 (decide_eq_true _h16) | exact ixP_n _ht (by omega)), E⟩

/-- slices.Contains[[]int,int] -/
theorem c_slices_Contains_int_int {w : World} {LL_s _B_s : Nat} {_v_s : Value} {s : List Int} (_h_s : Ls ics 1 w LL_s _B_s _v_s s) (x : Int) :
    Ctr Try.prog 71 #[_v_s, (.int .i64 x)] w (fun v w' => v = .bool (decide (x ∈ s)) ∧ Ch [] w w') := by
  obtain ⟨_A_s, _C_s, _e1_s⟩ := _h_s.val
  subst _e1_s
  have _l_s := _h_s.len
  have _h_s := _h_s.here (by decide)
  have E := Ch.refl [] w
  refine Ctr_of_W (N := 9) (vs0 := [(.slice _A_s s.length _C_s), (.int .i64 x)]) Try.func71 rfl rfl rfl ?_
  refine W_seq fun _K_1 _hK_1 => ?_
  refine W_region ?_
  refine WL_step rfl rfl (r_assign rfl) ?_
  refine WL_nil ?_
  refine thn_nrm (_hK_1 _ _ ?_)
  clear _hK_1
  refine W_seq fun _K_2 _hK_2 => ?_
  refine W_region ?_
  refine WL_step rfl rfl (r_move rfl) ?_
  refine WL_step rfl rfl (r_move rfl) ?_
  refine WL_s rfl rfl ?_
  refine Step.call (r_call (xs := [.tmp 5, .tmp 6]) fk123 rfl) (c_slices_Index_int_int _h_s _ ) fun _v7 _w_3 _q7 => ?_
  obtain ⟨rfl, _cw_3⟩ := _q7
  have _cw_3z := _cw_3.size
  have E := E.trans _cw_3
  refine WL_step rfl rfl (r_geq rfl rfl) ?_
  refine WL_step rfl rfl (r_assign rfl) ?_
  refine WL_nil ?_
  refine thn_nrm (_hK_2 _ _ ?_)
  clear _hK_2
  refine W_ret ?_
  exact ret_intro [_] ⟨rfl, trivial⟩ ⟨congrArg Value.bool ixP_mem, E⟩

/-- impl.IsFiniteLanguage$1$1 -/
theorem c_impl_IsFiniteLanguage_1_1 {w : World} (t : Int) {LL_u _B_u : Nat} {_v_u : Value} {u : List Int} (_h_u : Ls ics 1 w LL_u _B_u _v_u u) {b_u t_u : Nat} (_hb_u : Blk w b_u t_u [_v_u]) :
    Ctr Try.prog 70 #[(.int .i64 t), (.pointer (some ⟨b_u, 0, none⟩))] w (fun v w' => v = .bool (decide (t ∈ u)) ∧ Ch [] w w') := by
  obtain ⟨_A_u, _C_u, _e1_u⟩ := _h_u.val
  subst _e1_u
  have _l_u := _h_u.len
  have _h_u := _h_u.here (by decide)
  have _zb_u := _hb_u.lt
  have E := Ch.refl [] w
  refine Ctr_of_W (N := 7) (vs0 := [(.int .i64 t), (.pointer (some ⟨b_u, 0, none⟩))]) Try.func70 rfl rfl rfl ?_
  refine W_seq fun _K_1 _hK_1 => ?_
  refine W_region ?_
  refine WL_step rfl rfl (r_assign rfl) ?_
  refine WL_nil ?_
  refine thn_nrm (_hK_1 _ _ ?_)
  clear _hK_1
  refine W_seq fun _K_2 _hK_2 => ?_
  refine W_region ?_
  refine WL_step rfl rfl (r_loadAt0 _hb_u.at_ agg46 rfl rfl) ?_
  refine WL_step rfl rfl (r_move rfl) ?_
  refine WL_s rfl rfl ?_
  refine Step.call (r_call (xs := [.tmp 4, .tmp 5]) fk71 rfl) (c_slices_Contains_int_int _h_u _ ) fun _v6 _w_3 _q6 => ?_
  obtain ⟨rfl, _cw_3⟩ := _q6
  have _cw_3z := _cw_3.size
  have E := E.trans _cw_3
  refine WL_step rfl rfl (r_assign rfl) ?_
  refine WL_nil ?_
  refine thn_nrm (_hK_2 _ _ ?_)
  clear _hK_2
  refine W_ret ?_
  exact ret_intro [_] ⟨rfl, trivial⟩ ⟨congrArg Value.bool rfl, E⟩

/-- slices.IndexFunc[[]int,int]@C -/
theorem c_slices_IndexFunc_int_int_C {w : World} {LL_s _B_s : Nat} {_v_s : Value} {s : List Int} (_h_s : Ls ics 1 w LL_s _B_s _v_s s) {LL_fc0 _B_fc0 : Nat} {_v_fc0 : Value} {fc0 : List Int} (_h_fc0 : Ls ics 1 w LL_fc0 _B_fc0 _v_fc0 fc0) {b_fc0 t_fc0 : Nat} (_hb_fc0 : Blk w b_fc0 t_fc0 [_v_fc0]) :
    Ctr Try.prog 67 #[_v_s, (.func (.func 70) #[] #[(.pointer (some ⟨b_fc0, 0, none⟩))])] w (fun v w' => v = .int .i64 (ixP (fun t => decide (t ∈ fc0)) s) ∧ Ch [] w w') := by
  obtain ⟨_A_s, _C_s, _e1_s⟩ := _h_s.val
  subst _e1_s
  have _l_s := _h_s.len
  have _h_s := _h_s.here (by decide)
  obtain ⟨_A_fc0, _C_fc0, _e1_fc0⟩ := _h_fc0.val
  subst _e1_fc0
  have _l_fc0 := _h_fc0.len
  have _h_fc0 := _h_fc0.here (by decide)
  have _zb_fc0 := _hb_fc0.lt
  have E := Ch.refl [] w
  refine Ctr_of_W (N := 19) (vs0 := [(.slice _A_s s.length _C_s), (.func (.func 70) #[] #[(.pointer (some ⟨b_fc0, 0, none⟩))])]) Try.func67 rfl rfl rfl ?_
  refine W_seq fun _K_1 _hK_1 => ?_
  refine W_region ?_
  refine WL_step rfl rfl (r_assign rfl) ?_
  refine WL_nil ?_
  refine thn_nrm (_hK_1 _ _ ?_)
  clear _hK_1
  refine W_seq fun _K_2 _hK_2 => ?_
  refine W_seq fun _K_3 _hK_3 => ?_
  refine W_region ?_
  refine WL_step rfl rfl (r_move rfl) ?_
  refine WL_step rfl rfl (r_len (by rw [el46]; rfl) rfl) ?_
  refine WL_step rfl rfl (r_move rfl) ?_
  refine WL_nil ?_
  refine thn_nrm (_hK_3 _ _ ?_)
  clear _hK_3
  refine W_block ?_
  refine W_loop (σ := Nat) (fun (k : Nat) => [(0, (.slice _A_s s.length _C_s)), (1, (.func (.func 70) #[] #[(.pointer (some ⟨b_fc0, 0, none⟩))])), (7, (.int .i64 ((s.length : Nat) : Int))), (8, (.int .i64 ((k : Nat) : Int)))]) (fun (k : Nat) wx => Ch [] w wx ∧ w.heap.size ≤ wx.heap.size ∧ (k ≤ s.length) ∧ ((s.take k).any (fun t => decide (t ∈ fc0)) = false)) (fun (k : Nat) => s.length - k) 0 (Sub.cons rfl (Sub.cons rfl (Sub.cons rfl (Sub.cons rfl (Sub.nil _))))) ⟨E, (Nat.le_refl _), (by omega), (by simp)⟩ ?_
  rintro k _wr_4 ⟨E, _zz0, _hk, _ht⟩
  have _E0h := E
  have _E0hz := _E0h.size
  refine W_seq fun _K_5 _hK_5 => ?_
  refine W_region ?_
  refine WL_step rfl rfl (r_lss rfl rfl) ?_
  refine WL_nil ?_
  refine thn_nrm (_hK_5 _ _ ?_)
  clear _hK_5
  refine W_seq fun _K_6 _hK_6 => ?_
  refine W_cond rfl (fun _h9 => ?_) (fun _h9 => ?_)
  · have _kb_7 := _h9
    have _h9 := bt_d _h9
    refine W_skip ?_
    refine thn_nrm (_hK_6 _ _ ?_)
    clear _hK_6
    refine W_seq fun _K_8 _hK_8 => ?_
    refine W_block ?_
    refine W_seq fun _K_9 _hK_9 => ?_
    refine W_region ?_
    refine WL_step rfl rfl (r_move rfl) ?_
    refine WL_step rfl rfl (r_assign rfl) ?_
    refine WL_nil ?_
    refine thn_nrm (_hK_9 _ _ ?_)
    clear _hK_9
    refine W_seq fun _K_10 _hK_10 => ?_
    refine W_region ?_
    refine WL_step rfl rfl (r_move rfl) ?_
    refine WL_step rfl rfl (r_move rfl) ?_
    refine WL_step rfl rfl (r_move rfl) ?_
    refine WL_s rfl rfl ?_
    have _f_11 := (_h_s.ch0 _E0h)
    refine (s_index _f_11 ics_len el46 sz3 rfl rfl rfl (by omega) fun _p14 _y14 _hy14 _a14 => ?_)
    refine WL_step rfl rfl (r_loadAt0 _a14 agg3 rfl rfl) ?_
    refine WL_s rfl rfl ?_
    have _f_12 := (_h_fc0.ch0 _E0h)
    have _f_13 := (_hb_fc0.ch0 _E0h)
    refine Step.call (r_callV (xs := [.tmp 15]) (as' := [(.int .i64 _y14), (.pointer (some ⟨b_fc0, 0, none⟩))]) fk70 rfl rfl rfl) (c_impl_IsFiniteLanguage_1_1 _ _f_12 _f_13 ) fun _v16 _w_14 _q16 => ?_
    obtain ⟨rfl, _cw_14⟩ := _q16
    have _cw_14z := _cw_14.size
    have E := E.trans _cw_14
    refine WL_nil ?_
    refine thn_nrm (_hK_10 _ _ ?_)
    clear _hK_10
    refine W_cond rfl (fun _h16 => ?_) (fun _h16 => ?_)
    · have _kb_15 := _h16
      have _h16 := bt_d _h16
      refine W_seq fun _K_16 _hK_16 => ?_
      refine W_region ?_
      refine WL_step rfl rfl (r_move rfl) ?_
      refine WL_step rfl rfl (r_assign rfl) ?_
      refine WL_nil ?_
      refine thn_nrm (_hK_16 _ _ ?_)
      clear _hK_16
      refine W_ret (inB_ret (thn_ret (thn_ret (inB_ret (thn_ret ?_)))))
      clear _hK_2 _hK_8
      exact ret_intro [_] ⟨rfl, trivial⟩ ⟨congrArg (Value.int .i64) (by first | exact ixP_y _ht _hy14 _h16 | exact ixP_y _ht _hy14 (decide_eq_true _h16) | exact ixP_n _ht (by omega)), E⟩
    · have _kb_15 := _h16
      have _h16 := bf_d _h16
      refine W_skip ?_
      refine inB_nrm ?_
      refine thn_nrm (_hK_8 _ _ ?_)
      clear _hK_8
      refine W_region ?_
      refine WL_step rfl rfl (r_add (by omega) rfl rfl) ?_
      refine WL_step rfl rfl (r_move rfl) ?_
      refine WL_nil ?_
      exact thn_nrm (Exists.intro (k + 1) ⟨⟨E, (by omega), (by omega), (by first | exact ixP_step _ht _hy14 _h16 | exact ixP_step _ht _hy14 (decide_eq_false _h16))⟩, Sub.cons rfl (Sub.cons rfl (Sub.cons rfl (Sub.cons rfl (Sub.nil _)))), (by first | omega | (dsimp only; omega))⟩)
  · have _kb_7 := _h9
    have _h9 := bf_d _h9
    refine W_exit (thn_exit (thn_exit (inB_hit ?_)))
    refine thn_nrm (_hK_2 _ _ ?_)
    clear _hK_2
    refine W_seq fun _K_17 _hK_17 => ?_
    refine W_region ?_
    refine WL_step rfl rfl (r_assign rfl) ?_
    refine WL_nil ?_
    refine thn_nrm (_hK_17 _ _ ?_)
    clear _hK_17
    refine W_ret ?_
    clear _hK_6
    exact ret_intro [_] ⟨rfl, trivial⟩ ⟨congrArg (Value.int .i64) (by first | exact ixP_y _ht _hy14 _h16 | exact ixP_y _ht _hy14 (decide_eq_true _h16) | exact ixP_n _ht (by omega)), E⟩

/-- slices.ContainsFunc[[]int,int] -/
theorem c_slices_ContainsFunc_int_int {w : World} {LL_s _B_s : Nat} {_v_s : Value} {s : List Int} (_h_s : Ls ics 1 w LL_s _B_s _v_s s) {LL_fc0 _B_fc0 : Nat} {_v_fc0 : Value} {fc0 : List Int} (_h_fc0 : Ls ics 1 w LL_fc0 _B_fc0 _v_fc0 fc0) {b_fc0 t_fc0 : Nat} (_hb_fc0 : Blk w b_fc0 t_fc0 [_v_fc0]) :
    Ctr Try.prog 69 #[_v_s, (.func (.func 70) #[] #[(.pointer (some ⟨b_fc0, 0, none⟩))])] w (fun v w' => v = .bool (s.any fun t => decide (t ∈ fc0)) ∧ Ch [] w w') := by
  obtain ⟨_A_s, _C_s, _e1_s⟩ := _h_s.val
  subst _e1_s
  have _l_s := _h_s.len
  have _h_s := _h_s.here (by decide)
  obtain ⟨_A_fc0, _C_fc0, _e1_fc0⟩ := _h_fc0.val
  subst _e1_fc0
  have _l_fc0 := _h_fc0.len
  have _h_fc0 := _h_fc0.here (by decide)
  have _zb_fc0 := _hb_fc0.lt
  have E := Ch.refl [] w
  refine Ctr_of_W (N := 9) (vs0 := [(.slice _A_s s.length _C_s), (.func (.func 70) #[] #[(.pointer (some ⟨b_fc0, 0, none⟩))])]) Try.func69 rfl rfl rfl ?_
  refine W_seq fun _K_1 _hK_1 => ?_
  refine W_region ?_
  refine WL_step rfl rfl (r_assign rfl) ?_
  refine WL_nil ?_
  refine thn_nrm (_hK_1 _ _ ?_)
  clear _hK_1
  refine W_seq fun _K_2 _hK_2 => ?_
  refine W_region ?_
  refine WL_step rfl rfl (r_move rfl) ?_
  refine WL_step rfl rfl (r_move rfl) ?_
  refine WL_s rfl rfl ?_
  refine Step.call (r_call (xs := [.tmp 5, .tmp 6]) fk67 rfl) (c_slices_IndexFunc_int_int_C _h_s _h_fc0 _hb_fc0 ) fun _v7 _w_3 _q7 => ?_
  obtain ⟨rfl, _cw_3⟩ := _q7
  have _cw_3z := _cw_3.size
  have E := E.trans _cw_3
  refine WL_step rfl rfl (r_geq rfl rfl) ?_
  refine WL_step rfl rfl (r_assign rfl) ?_
  refine WL_nil ?_
  refine thn_nrm (_hK_2 _ _ ?_)
  clear _hK_2
  refine W_ret ?_
  exact ret_intro [_] ⟨rfl, trivial⟩ ⟨congrArg Value.bool any_ix, E⟩

/-- impl.IsFiniteLanguage$1 -/
theorem c_impl_IsFiniteLanguage_1 {w : World} (s : Int) (aS : Int) {LL_aA _B_aA : Nat} {_v_aA : Value} {aA : List Bool} (_h_aA : Ls bcs 1 w LL_aA _B_aA _v_aA aA) {LL_saN _B_saN : Nat} {_v_saN : Value} {saN : List Sv} (_h_saN : Ls Sv.cs 1 w LL_saN _B_saN _v_saN saN) {LR_aN BB_aN : Nat} {aN : List (List Int)} (_rd_aN : Rd ics 1 w LR_aN BB_aN saN aN) {b_a t_a : Nat} (_hb_a : Blk w b_a t_a [(.int .i64 aS), _v_aA, _v_saN]) {LL_u _B_u : Nat} {_v_u : Value} {u : List Int} (_h_u : Ls ics 1 w LL_u _B_u _v_u u) {b_u t_u : Nat} (_hb_u : Blk w b_u t_u [_v_u]) (hv : ValidA aS aA aN) (hs : 0 ≤ s ∧ s ≤ (aA.length : Int) - 1) :
    Ctr Try.prog 68 #[(.int .i64 s), (.pointer (some ⟨b_a, 0, none⟩)), (.pointer (some ⟨b_u, 0, none⟩))] w (fun v w' => v = .bool (stk aN u s) ∧ Ch [] w w') := by
  obtain ⟨_A_aA, _C_aA, _e1_aA⟩ := _h_aA.val
  subst _e1_aA
  have _l_aA := _h_aA.len
  have _h_aA := _h_aA.here (by decide)
  obtain ⟨_A_saN, _C_saN, _e1_saN⟩ := _h_saN.val
  subst _e1_saN
  have _l_saN := _h_saN.len
  have _h_saN := _h_saN.here (by decide)
  have _rd_aN := _rd_aN.here (by decide)
  have _rl_aN := _rd_aN.1
  have _zb_a := _hb_a.lt
  obtain ⟨_A_u, _C_u, _e1_u⟩ := _h_u.val
  subst _e1_u
  have _l_u := _h_u.len
  have _h_u := _h_u.here (by decide)
  have _zb_u := _hb_u.lt
  have E := Ch.refl [] w
  have hv2 := hv.2.2.1
  refine Ctr_of_W (N := 13) (vs0 := [(.int .i64 s), (.pointer (some ⟨b_a, 0, none⟩)), (.pointer (some ⟨b_u, 0, none⟩))]) Try.func68 rfl rfl rfl ?_
  refine W_seq fun _K_1 _hK_1 => ?_
  refine W_region ?_
  refine WL_step rfl rfl (r_assign rfl) ?_
  refine WL_nil ?_
  refine thn_nrm (_hK_1 _ _ ?_)
  clear _hK_1
  refine W_seq fun _K_2 _hK_2 => ?_
  refine W_region ?_
  refine WL_step rfl rfl (r_fieldAddr fa42_2 rfl) ?_
  refine WL_step rfl rfl (r_loadAt _hb_a.at_ agg26 rfl rfl) ?_
  refine WL_step rfl rfl (r_move rfl) ?_
  refine WL_s rfl rfl ?_
  refine (s_index (j := s.toNat) _h_saN Sv.len el26 sz46 rfl rfl (by omega) (by omega) fun _p8 _y8 _hy8 _a8 => ?_)
  obtain ⟨_ys8, _hys8, _fs8⟩ := _rd_aN.get _hy8
  obtain ⟨_A8, _n8, _C8⟩ := _y8
  obtain rfl := _fs8.eqn
  have _l8 := _fs8.len
  replace _fs8 : Ls ics 1 w LR_aN w.heap.size (.slice _A8 _ys8.length _C8) _ys8 := _fs8
  replace _a8 : At w LL_saN w.heap.size _p8 ([(.slice _A8 _ys8.length _C8)]) := _a8
  refine WL_step rfl rfl (r_loadAt0 _a8 agg46 rfl rfl) ?_
  refine WL_step rfl rfl (r_makeFunc (xs := []) (ys := [.tmp 2]) rfl rfl) ?_
  refine WL_s rfl rfl ?_
  refine Step.call (r_call (xs := [.tmp 9, .tmp 10]) fk69 rfl) (c_slices_ContainsFunc_int_int _fs8 _h_u _hb_u ) fun _v11 _w_3 _q11 => ?_
  obtain ⟨rfl, _cw_3⟩ := _q11
  have _cw_3z := _cw_3.size
  have E := E.trans _cw_3
  refine WL_step rfl rfl (r_not rfl) ?_
  refine WL_step rfl rfl (r_assign rfl) ?_
  refine WL_nil ?_
  refine thn_nrm (_hK_2 _ _ ?_)
  clear _hK_2
  refine W_ret ?_
  exact ret_intro [_] ⟨rfl, trivial⟩ ⟨congrArg Value.bool (by unfold stk; rw [getD_of _hys8]), E⟩

/-- slices.IndexFunc[[]int,int] -/
theorem c_slices_IndexFunc_int_int {w : World} {LL_s _B_s : Nat} {_v_s : Value} {s : List Int} (_h_s : Ls ics 1 w LL_s _B_s _v_s s) (fc0S : Int) {LL_fc0A _B_fc0A : Nat} {_v_fc0A : Value} {fc0A : List Bool} (_h_fc0A : Ls bcs 1 w LL_fc0A _B_fc0A _v_fc0A fc0A) {LL_sfc0N _B_sfc0N : Nat} {_v_sfc0N : Value} {sfc0N : List Sv} (_h_sfc0N : Ls Sv.cs 1 w LL_sfc0N _B_sfc0N _v_sfc0N sfc0N) {LR_fc0N BB_fc0N : Nat} {fc0N : List (List Int)} (_rd_fc0N : Rd ics 1 w LR_fc0N BB_fc0N sfc0N fc0N) {b_fc0 t_fc0 : Nat} (_hb_fc0 : Blk w b_fc0 t_fc0 [(.int .i64 fc0S), _v_fc0A, _v_sfc0N]) {LL_fc1 _B_fc1 : Nat} {_v_fc1 : Value} {fc1 : List Int} (_h_fc1 : Ls ics 1 w LL_fc1 _B_fc1 _v_fc1 fc1) {b_fc1 t_fc1 : Nat} (_hb_fc1 : Blk w b_fc1 t_fc1 [_v_fc1]) (hv : ValidA fc0S fc0A fc0N) (hu : ∀ x ∈ s, 0 ≤ x ∧ x ≤ (fc0A.length : Int) - 1) :
    Ctr Try.prog 67 #[_v_s, (.func (.func 68) #[] #[(.pointer (some ⟨b_fc0, 0, none⟩)), (.pointer (some ⟨b_fc1, 0, none⟩))])] w (fun v w' => v = .int .i64 (ixP (stk fc0N fc1) s) ∧ Ch [] w w') := by
  obtain ⟨_A_s, _C_s, _e1_s⟩ := _h_s.val
  subst _e1_s
  have _l_s := _h_s.len
  have _h_s := _h_s.here (by decide)
  obtain ⟨_A_fc0A, _C_fc0A, _e1_fc0A⟩ := _h_fc0A.val
  subst _e1_fc0A
  have _l_fc0A := _h_fc0A.len
  have _h_fc0A := _h_fc0A.here (by decide)
  obtain ⟨_A_sfc0N, _C_sfc0N, _e1_sfc0N⟩ := _h_sfc0N.val
  subst _e1_sfc0N
  have _l_sfc0N := _h_sfc0N.len
  have _h_sfc0N := _h_sfc0N.here (by decide)
  have _rd_fc0N := _rd_fc0N.here (by decide)
  have _rl_fc0N := _rd_fc0N.1
  have _zb_fc0 := _hb_fc0.lt
  obtain ⟨_A_fc1, _C_fc1, _e1_fc1⟩ := _h_fc1.val
  subst _e1_fc1
  have _l_fc1 := _h_fc1.len
  have _h_fc1 := _h_fc1.here (by decide)
  have _zb_fc1 := _hb_fc1.lt
  have E := Ch.refl [] w
  refine Ctr_of_W (N := 19) (vs0 := [(.slice _A_s s.length _C_s), (.func (.func 68) #[] #[(.pointer (some ⟨b_fc0, 0, none⟩)), (.pointer (some ⟨b_fc1, 0, none⟩))])]) Try.func67 rfl rfl rfl ?_
  refine W_seq fun _K_1 _hK_1 => ?_
  refine W_region ?_
  refine WL_step rfl rfl (r_assign rfl) ?_
  refine WL_nil ?_
  refine thn_nrm (_hK_1 _ _ ?_)
  clear _hK_1
  refine W_seq fun _K_2 _hK_2 => ?_
  refine W_seq fun _K_3 _hK_3 => ?_
  refine W_region ?_
  refine WL_step rfl rfl (r_move rfl) ?_
  refine WL_step rfl rfl (r_len (by rw [el46]; rfl) rfl) ?_
  refine WL_step rfl rfl (r_move rfl) ?_
  refine WL_nil ?_
  refine thn_nrm (_hK_3 _ _ ?_)
  clear _hK_3
  refine W_block ?_
  refine W_loop (σ := Nat) (fun (k : Nat) => [(0, (.slice _A_s s.length _C_s)), (1, (.func (.func 68) #[] #[(.pointer (some ⟨b_fc0, 0, none⟩)), (.pointer (some ⟨b_fc1, 0, none⟩))])), (7, (.int .i64 ((s.length : Nat) : Int))), (8, (.int .i64 ((k : Nat) : Int)))]) (fun (k : Nat) wx => Ch [] w wx ∧ w.heap.size ≤ wx.heap.size ∧ (k ≤ s.length) ∧ ((s.take k).any (stk fc0N fc1) = false)) (fun (k : Nat) => s.length - k) 0 (Sub.cons rfl (Sub.cons rfl (Sub.cons rfl (Sub.cons rfl (Sub.nil _))))) ⟨E, (Nat.le_refl _), (by omega), (by simp)⟩ ?_
  rintro k _wr_4 ⟨E, _zz0, _hk, _ht⟩
  have _E0h := E
  have _E0hz := _E0h.size
  refine W_seq fun _K_5 _hK_5 => ?_
  refine W_region ?_
  refine WL_step rfl rfl (r_lss rfl rfl) ?_
  refine WL_nil ?_
  refine thn_nrm (_hK_5 _ _ ?_)
  clear _hK_5
  refine W_seq fun _K_6 _hK_6 => ?_
  refine W_cond rfl (fun _h9 => ?_) (fun _h9 => ?_)
  · have _kb_7 := _h9
    have _h9 := bt_d _h9
    refine W_skip ?_
    refine thn_nrm (_hK_6 _ _ ?_)
    clear _hK_6
    refine W_seq fun _K_8 _hK_8 => ?_
    refine W_block ?_
    refine W_seq fun _K_9 _hK_9 => ?_
    refine W_region ?_
    refine WL_step rfl rfl (r_move rfl) ?_
    refine WL_step rfl rfl (r_assign rfl) ?_
    refine WL_nil ?_
    refine thn_nrm (_hK_9 _ _ ?_)
    clear _hK_9
    refine W_seq fun _K_10 _hK_10 => ?_
    refine W_region ?_
    refine WL_step rfl rfl (r_move rfl) ?_
    refine WL_step rfl rfl (r_move rfl) ?_
    refine WL_step rfl rfl (r_move rfl) ?_
    refine WL_s rfl rfl ?_
    have _f_11 := (_h_s.ch0 _E0h)
    refine (s_index _f_11 ics_len el46 sz3 rfl rfl rfl (by omega) fun _p14 _y14 _hy14 _a14 => ?_)
    have _u14 := hu _y14 (mem_of_get _hy14)
    refine WL_step rfl rfl (r_loadAt0 _a14 agg3 rfl rfl) ?_
    refine WL_s rfl rfl ?_
    have _f_12 := (_h_fc0A.ch0 _E0h)
    have _f_13 := (_rd_fc0N.ch0 _E0h)
    have _f_14 := (_h_sfc0N.ch0 _E0h)
    have _f_15 := (_hb_fc0.ch0 _E0h)
    have _f_16 := (_h_fc1.ch0 _E0h)
    have _f_17 := (_hb_fc1.ch0 _E0h)
    refine Step.call (r_callV (xs := [.tmp 15]) (as' := [(.int .i64 _y14), (.pointer (some ⟨b_fc0, 0, none⟩)), (.pointer (some ⟨b_fc1, 0, none⟩))]) fk68 rfl rfl rfl) (c_impl_IsFiniteLanguage_1 _ _ _f_12 _f_14 _f_13 _f_15 _f_16 _f_17 hv _u14) fun _v16 _w_18 _q16 => ?_
    obtain ⟨rfl, _cw_18⟩ := _q16
    have _cw_18z := _cw_18.size
    have E := E.trans _cw_18
    refine WL_nil ?_
    refine thn_nrm (_hK_10 _ _ ?_)
    clear _hK_10
    refine W_cond rfl (fun _h16 => ?_) (fun _h16 => ?_)
    · have _kb_19 := _h16
      refine W_seq fun _K_20 _hK_20 => ?_
      refine W_region ?_
      refine WL_step rfl rfl (r_move rfl) ?_
      refine WL_step rfl rfl (r_assign rfl) ?_
      refine WL_nil ?_
      refine thn_nrm (_hK_20 _ _ ?_)
      clear _hK_20
      refine W_ret (inB_ret (thn_ret (thn_ret (inB_ret (thn_ret ?_)))))
      clear _hK_2 _hK_8
      exact ret_intro [_] ⟨rfl, trivial⟩ ⟨congrArg (Value.int .i64) (by first | exact ixP_y _ht _hy14 _h16 | exact ixP_y _ht _hy14 (decide_eq_true _h16) | exact ixP_n _ht (by omega)), E⟩
    · have _kb_19 := _h16
      refine W_skip ?_
      refine inB_nrm ?_
      refine thn_nrm (_hK_8 _ _ ?_)
      clear _hK_8
      refine W_region ?_
      refine WL_step rfl rfl (r_add (by omega) rfl rfl) ?_
      refine WL_step rfl rfl (r_move rfl) ?_
      refine WL_nil ?_
      exact thn_nrm (Exists.intro (k + 1) ⟨⟨E, (by omega), (by omega), (by first | exact ixP_step _ht _hy14 _h16 | exact ixP_step _ht _hy14 (decide_eq_false _h16))⟩, Sub.cons rfl (Sub.cons rfl (Sub.cons rfl (Sub.cons rfl (Sub.nil _)))), (by first | omega | (dsimp only; omega))⟩)
  · have _kb_7 := _h9
    have _h9 := bf_d _h9
    refine W_exit (thn_exit (thn_exit (inB_hit ?_)))
    refine thn_nrm (_hK_2 _ _ ?_)
    clear _hK_2
    refine W_seq fun _K_21 _hK_21 => ?_
    refine W_region ?_
    refine WL_step rfl rfl (r_assign rfl) ?_
    refine WL_nil ?_
    refine thn_nrm (_hK_21 _ _ ?_)
    clear _hK_21
    refine W_ret ?_
    clear _hK_6
    exact ret_intro [_] ⟨rfl, trivial⟩ ⟨congrArg (Value.int .i64) (by first | exact ixP_y _ht _hy14 _h16 | exact ixP_y _ht _hy14 (decide_eq_true _h16) | exact ixP_n _ht (by omega)), E⟩

/-- impl.IsFiniteLanguage -/
theorem c_impl_IsFiniteLanguage {w : World} (aS : Int) {LL_aA _B_aA : Nat} {_v_aA : Value} {aA : List Bool} (_h_aA : Ls bcs 1 w LL_aA _B_aA _v_aA aA) {LL_saN _B_saN : Nat} {_v_saN : Value} {saN : List Sv} (_h_saN : Ls Sv.cs 1 w LL_saN _B_saN _v_saN saN) {LR_aN BB_aN : Nat} {aN : List (List Int)} (_rd_aN : Rd ics 1 w LR_aN BB_aN saN aN) :
    Ctr Try.prog 19 #[(.agg #[(.int .i64 aS), _v_aA, _v_saN])] w (fun v w' => v = .bool (ifR aS aA aN) ∧ Ch [] w w') := by
  obtain ⟨_A_aA, _C_aA, _e1_aA⟩ := _h_aA.val
  subst _e1_aA
  have _l_aA := _h_aA.len
  have _h_aA := _h_aA.here (by decide)
  obtain ⟨_A_saN, _C_saN, _e1_saN⟩ := _h_saN.val
  subst _e1_saN
  have _l_saN := _h_saN.len
  have _h_saN := _h_saN.here (by decide)
  have _rd_aN := _rd_aN.here (by decide)
  have _rl_aN := _rd_aN.1
  have E := Ch.refl [] w
  have ul9 := usfR_len aS aA aN
  refine Ctr_of_W (N := 23) (vs0 := [(.agg #[(.int .i64 aS), (.slice _A_aA aA.length _C_aA), (.slice _A_saN saN.length _C_saN)])]) Try.func19 rfl rfl rfl ?_
  refine W_seq fun _K_1 _hK_1 => ?_
  refine W_region ?_
  refine WL_s rfl rfl ?_
  refine s_box rfl fun _b1 _w_2 _m1 _cw_2 _e1 => ?_
  have _cw_2z := _cw_2.size
  have E := E.trans _cw_2
  have _z1 := _m1.lt
  replace _m1 : Blk _w_2 _b1 42 [(.int .i64 aS), (.slice _A_aA aA.length _C_aA), (.slice _A_saN saN.length _C_saN)] := _m1
  refine WL_step rfl rfl (r_assign rfl) ?_
  refine WL_nil ?_
  refine thn_nrm (_hK_1 _ _ ?_)
  clear _hK_1
  refine W_seq fun _K_3 _hK_3 => ?_
  refine W_seq fun _K_4 _hK_4 => ?_
  refine W_region ?_
  refine WL_step rfl rfl (r_loadAtA0 _m1.at_ agg42 sz42 rfl) ?_
  refine WL_s rfl rfl ?_
  have _f_5 := (_h_aA.ch0 _cw_2)
  have _f_6 := (_rd_aN.ch0 _cw_2)
  have _f_7 := (_h_saN.ch0 _cw_2)
  refine Step.call (r_call (xs := [.tmp 5]) fk65 rfl) (c_impl_IsValidAutomaton _ _f_5 _f_7 _f_6 ) fun _v6 _w_8 _q6 => ?_
  obtain ⟨rfl, _cw_8⟩ := _q6
  have _cw_8z := _cw_8.size
  have E := E.trans _cw_8
  refine WL_step rfl rfl (r_not rfl) ?_
  refine WL_nil ?_
  refine thn_nrm (_hK_4 _ _ ?_)
  clear _hK_4
  refine W_cond rfl (fun _h7 => ?_) (fun _h7 => ?_)
  · have _kb_9 := _h7
    have _h7 := bf_t (bt_n _h7)
    refine W_seq fun _K_10 _hK_10 => ?_
    refine W_region ?_
    refine WL_step rfl rfl (r_assign rfl) ?_
    refine WL_nil ?_
    refine thn_nrm (_hK_10 _ _ ?_)
    clear _hK_10
    refine W_ret (thn_ret ?_)
    clear _hK_3
    exact ret_intro [_] ⟨rfl, trivial⟩ ⟨congrArg Value.bool (if_no _h7), E⟩
  · have _kb_9 := _h7
    have _h7 := bt_t (bf_n _h7)
    refine W_skip ?_
    refine thn_nrm (_hK_3 _ _ ?_)
    clear _hK_3
    refine W_seq fun _K_11 _hK_11 => ?_
    refine W_region ?_
    have _f_12 := (_m1.ch0 _cw_8)
    refine WL_step rfl rfl (r_loadAtA0 _f_12.at_ agg42 sz42 rfl) ?_
    refine WL_s rfl rfl ?_
    have _f_13 := (_f_5.ch0 _cw_8)
    have _f_14 := (_f_6.ch0 _cw_8)
    have _f_15 := (_f_7.ch0 _cw_8)
    refine Step.call (r_call (xs := [.tmp 8]) fk66 rfl) (c_impl_UsefulStates _ _f_13 _f_15 _f_14 ) fun _v9 _w_16 _q9 => ?_
    obtain ⟨_q9, _lo9, _cw_16⟩ := _q9
    have _cw_16z := _cw_16.size
    have E := E.trans _cw_16
    obtain ⟨_Av9, _Cv9, _ev9⟩ := _q9.val
    subst _ev9
    have _lv9 := _q9.len
    have _hiv9 := _q9.lt
    refine WL_s rfl rfl ?_
    refine s_alloc zr46 fun _b3 _w_17 _m3 _cw_17 _e3 => ?_
    have _cw_17z := _cw_17.size
    have E := E.trans _cw_17
    have _z3 := _m3.lt
    replace _m3 : Blk _w_17 _b3 46 [(.slice none 0 0)] := _m3
    refine WL_s rfl rfl ?_
    refine s_store1 (off := 0) _m3 sz46 rfl rfl rfl rfl fun _w_18 _m_19 _cw_18 => ?_
    have _cw_18z := _cw_18.size
    have E := E.step _cw_18 (fun i hi => .inl (by have _h1 := List.mem_singleton.1 hi; omega))
    replace _m_19 : Blk _w_18 _b3 46 [(.slice _Av9 (usfR aS aA aN).length _Cv9)] := _m_19
    refine WL_nil ?_
    refine thn_nrm (_hK_11 _ _ ?_)
    clear _hK_11
    refine W_seq fun _K_20 _hK_20 => ?_
    refine W_block ?_
    have _f_21 := ((_q9.ch0 _cw_17).ch _cw_18 (fun g hg hm => by have _h0 := List.mem_singleton.1 hm; have _h2 := _lo9 _ hg; have _h3 := _hiv9 _ hg; omega))
    have _oi_22 : Ol ics 3 1 _w_18 (.slice _Av9 (usfR aS aA aN).length _Cv9) ((usfR aS aA aN)) := by
      have hx := _f_21
      exact hx
    have _f_23 := (((_f_12.ch0 _cw_16).ch0 _cw_17).ch _cw_18 (fun hm => by have _h1 := List.mem_singleton.1 hm; omega))
    have _f_24 := (((_f_13.ch0 _cw_16).ch0 _cw_17).ch _cw_18 (fun i hi => by have _h1 := List.mem_singleton.1 hi; omega))
    have _f_25 := (((_f_15.ch0 _cw_16).ch0 _cw_17).ch _cw_18 (fun i hi => by have _h1 := List.mem_singleton.1 hi; omega))
    have _f_26 := (((_f_14.ch0 _cw_16).ch0 _cw_17).ch _cw_18 (fun i hi => by have _h1 := List.mem_singleton.1 hi; omega))
    refine W_loop (σ := List Int × Value) (fun ⟨us, uv⟩ => [(1, (.pointer (some ⟨_b1, 0, none⟩))), (3, (.pointer (some ⟨_b3, 0, none⟩)))]) (fun ⟨us, uv⟩ wx => Ch [] w wx ∧ _w_18.heap.size ≤ wx.heap.size ∧ (Lft aS aA aN us) ∧ (us.length ≤ 12) ∧ Blk wx _b1 42 [(.int .i64 aS), (.slice _A_aA aA.length _C_aA), (.slice _A_saN saN.length _C_saN)] ∧ Ls bcs 1 wx LL_aA w.heap.size (.slice _A_aA aA.length _C_aA) aA ∧ Ls Sv.cs 1 wx LL_saN w.heap.size (.slice _A_saN saN.length _C_saN) saN ∧ Rd ics 1 wx LR_aN w.heap.size saN aN ∧ Ol ics 3 1 wx uv us ∧ Lo _w_8.heap.size uv ∧ Blk wx _b3 46 [uv] ∧ (_b3 ∉ bl uv)) (fun ⟨us, uv⟩ => us.length) ((usfR aS aA aN), (.slice _Av9 (usfR aS aA aN).length _Cv9)) (Sub.cons rfl (Sub.cons rfl (Sub.nil _))) ⟨E, (Nat.le_refl _), lft_0, (by omega), _f_23, _f_24, _f_25, _f_26, _oi_22, _lo9, _m_19, (fun hm => by have _h1 := _lo9 _ hm; have _h2 := _hiv9 _ hm; omega)⟩ ?_
    rintro ⟨us, uv⟩ _wr_27 ⟨E, _zz0, hL, hl, _F0_0, _F0_1, _F0_2, _F0_3, _o0_3, _lo0_3, _m0_3, _nb0_3⟩
    have _E0h := E
    have _E0hz := _E0h.size
    have _F0_0z := _F0_0.lt
    obtain ⟨Auv, Cuv, euv⟩ := _o0_3.val
    subst euv
    have luv := _o0_3.len
    have _hiuv := _o0_3.lt
    have ub9 : ∀ x ∈ us, 0 ≤ x ∧ x ≤ (aA.length : Int) - 1 := fun x hx => by obtain ⟨_, s9, _b9, _e9, _⟩ := usf_mem.1 (hL.sub x hx); omega
    refine W_seq fun _K_28 _hK_28 => ?_
    refine W_seq fun _K_29 _hK_29 => ?_
    refine W_region ?_
    refine WL_step rfl rfl (r_loadAt0 _m0_3.at_ agg46 rfl rfl) ?_
    refine WL_step rfl rfl (r_len (by rw [el46]; rfl) rfl) ?_
    refine WL_step rfl rfl (r_gtr rfl rfl) ?_
    refine WL_nil ?_
    refine thn_nrm (_hK_29 _ _ ?_)
    clear _hK_29
    refine W_cond rfl (fun _h12 => ?_) (fun _h12 => ?_)
    · have _kb_30 := _h12
      have _h12 := bt_d _h12
      refine W_skip ?_
      refine thn_nrm (_hK_28 _ _ ?_)
      clear _hK_28
      refine W_block ?_
      refine W_seq fun _K_31 _hK_31 => ?_
      refine W_region ?_
      refine WL_step rfl rfl (r_loadAt0 _m0_3.at_ agg46 rfl rfl) ?_
      refine WL_step rfl rfl (r_makeFunc (xs := []) (ys := [.tmp 1, .tmp 3]) rfl rfl) ?_
      refine WL_s rfl rfl ?_
      refine Step.call (r_call (xs := [.tmp 13, .tmp 14]) fk67 rfl) (c_slices_IndexFunc_int_int _o0_3.ls _ _F0_1 _F0_2 _F0_3 _F0_0 _o0_3.ls _m0_3 _h7 ub9) fun _v15 _w_32 _q15 => ?_
      obtain ⟨rfl, _cw_32⟩ := _q15
      have _cw_32z := _cw_32.size
      have E := E.trans _cw_32
      refine WL_step rfl rfl (r_assign rfl) ?_
      refine WL_nil ?_
      refine thn_nrm (_hK_31 _ _ ?_)
      clear _hK_31
      refine W_seq fun _K_33 _hK_33 => ?_
      refine W_seq fun _K_34 _hK_34 => ?_
      refine W_region ?_
      refine WL_step rfl rfl (r_move rfl) ?_
      refine WL_step rfl rfl (r_lss rfl rfl) ?_
      refine WL_nil ?_
      refine thn_nrm (_hK_34 _ _ ?_)
      clear _hK_34
      refine W_cond rfl (fun _h17 => ?_) (fun _h17 => ?_)
      · have _kb_35 := _h17
        have _h17 := bt_d _h17
        refine W_seq fun _K_36 _hK_36 => ?_
        refine W_region ?_
        refine WL_step rfl rfl (r_assign rfl) ?_
        refine WL_nil ?_
        refine thn_nrm (_hK_36 _ _ ?_)
        clear _hK_36
        refine W_ret (thn_ret (inB_ret (thn_ret (inB_ret (thn_ret ?_)))))
        clear _hK_20 _hK_33
        exact ret_intro [_] ⟨rfl, trivial⟩ ⟨congrArg Value.bool (by obtain ⟨x9, hx9⟩ := get_some (xs := us) (j := 0) (by omega); exact lft_stuck hL hx9 _h17), E⟩
      · have _kb_35 := _h17
        have _h17 := bf_d _h17
        obtain ⟨k9, x9, ek9, _hk9, hp9, kl9⟩ := ixP_ge _h17
        rw [ek9]
        refine W_skip ?_
        refine thn_nrm (_hK_33 _ _ ?_)
        clear _hK_33
        refine W_region ?_
        have _f_37 := (_m0_3.ch0 _cw_32)
        refine WL_step rfl rfl (r_loadAt0 _f_37.at_ agg46 rfl rfl) ?_
        refine WL_step rfl rfl (r_move rfl) ?_
        refine WL_step rfl rfl (r_move rfl) ?_
        refine WL_step rfl rfl (r_add (by omega) rfl rfl) ?_
        refine WL_s rfl rfl ?_
        have _f_38 := (_o0_3.ch0 _cw_32)
        refine Step.call (r_call (xs := [.tmp 18, .tmp 19, .tmp 21]) fk72 rfl) (c_slices_Delete_int_int _f_38 k9 _ rfl (by omega) (by omega)) fun _v22 _w_39 _q22 => ?_
        obtain ⟨_q22, _bb22, _cw_39⟩ := _q22
        have _cw_39z := _cw_39.size
        have E := E.step _cw_39 (fun i hi => .inl (by have _h1 := _lo0_3 _ hi; omega))
        obtain ⟨_Av22, _Cv22, _ev22⟩ := _q22.val
        subst _ev22
        have _lv22 := _q22.len
        have _hiv22 := _q22.lt
        refine WL_s rfl rfl ?_
        have _f_40 := (_f_37.ch _cw_39 (fun hm => by exact _nb0_3 (by first | exact hm | exact _h0 ▸ hm)))
        refine s_store1 (off := 0) _f_40 sz46 rfl rfl rfl rfl fun _w_41 _m_42 _cw_41 => ?_
        have _cw_41z := _cw_41.size
        have E := E.step _cw_41 (fun i hi => .inl (by have _h1 := List.mem_singleton.1 hi; omega))
        replace _m_42 : Blk _w_41 _b3 46 [(.slice _Av22 (us.take k9 ++ us.drop (k9 + 1)).length _Cv22)] := _m_42
        refine WL_nil ?_
        refine inB_nrm ?_
        have _f_44 := (_q22.ch _cw_41 (fun g hg hm => by have _h0 := List.mem_singleton.1 hm; rw [_bb22] at hg; exact _nb0_3 (by first | exact hg | exact _h0 ▸ hg)))
        have _on_43 : Ol ics 3 1 _w_41 (.slice _Av22 (us.take k9 ++ us.drop (k9 + 1)).length _Cv22) (us.take k9 ++ us.drop (k9 + 1)) := by
          have hx := _f_44
          exact hx
        have _f_45 := (((_F0_0.ch0 _cw_32).ch _cw_39 (fun hm => by have _h1 := _lo0_3 _ hm; have _h2 := _hiuv _ hm; omega)).ch _cw_41 (fun hm => by have _h1 := List.mem_singleton.1 hm; omega))
        have _f_46 := (((_F0_1.ch0 _cw_32).ch _cw_39 (fun i hi => by have _h1 := _lo0_3 _ hi; omega)).ch _cw_41 (fun i hi => by have _h1 := List.mem_singleton.1 hi; omega))
        have _f_47 := (((_F0_2.ch0 _cw_32).ch _cw_39 (fun i hi => by have _h1 := _lo0_3 _ hi; omega)).ch _cw_41 (fun i hi => by have _h1 := List.mem_singleton.1 hi; omega))
        have _f_48 := (((_F0_3.ch0 _cw_32).ch _cw_39 (fun i hi => by have _h1 := _lo0_3 _ hi; omega)).ch _cw_41 (fun i hi => by have _h1 := List.mem_singleton.1 hi; omega))
        exact thn_nrm (Exists.intro (us.take k9 ++ us.drop (k9 + 1), (.slice _Av22 (us.take k9 ++ us.drop (k9 + 1)).length _Cv22)) ⟨⟨E, (by omega), (lft_step hL _hk9 hp9), (by simp only [List.length_append, List.length_take, List.length_drop]; omega), _f_45, _f_46, _f_47, _f_48, _on_43, (Lo.down (fun g hg => _lo0_3 g (_bb22 ▸ hg)) (by omega)), _m_42, (fun hm => by rw [_bb22] at hm; exact _nb0_3 (by first | exact hm | exact _h0 ▸ hm))⟩, Sub.cons rfl (Sub.cons rfl (Sub.nil _)), (by simp only [List.length_append, List.length_take, List.length_drop]; omega)⟩)
    · have _kb_30 := _h12
      have _h12 := bf_d _h12
      refine W_exit (thn_exit (thn_exit (inB_hit ?_)))
      refine thn_nrm (_hK_20 _ _ ?_)
      clear _hK_20
      refine W_seq fun _K_49 _hK_49 => ?_
      refine W_region ?_
      refine WL_step rfl rfl (r_assign rfl) ?_
      refine WL_nil ?_
      refine thn_nrm (_hK_49 _ _ ?_)
      clear _hK_49
      refine W_ret ?_
      clear _hK_28
      exact ret_intro [_] ⟨rfl, trivial⟩ ⟨congrArg Value.bool (lft_end _h7 hL (by omega)), E⟩

/-- laws.eqBoolS -/
theorem c_laws_eqBoolS {w : World} {LL_a _B_a : Nat} {_v_a : Value} {a : List Bool} (_h_a : Ls bcs 1 w LL_a _B_a _v_a a) {LL_b _B_b : Nat} {_v_b : Value} {b : List Bool} (_h_b : Ls bcs 1 w LL_b _B_b _v_b b) :
    Ctr Try.prog 73 #[_v_a, _v_b] w (fun v w' => v = .bool (decide (a = b)) ∧ Ch [] w w') := by
  obtain ⟨_A_a, _C_a, _e1_a⟩ := _h_a.val
  subst _e1_a
  have _l_a := _h_a.len
  have _h_a := _h_a.here (by decide)
  obtain ⟨_A_b, _C_b, _e1_b⟩ := _h_b.val
  subst _e1_b
  have _l_b := _h_b.len
  have _h_b := _h_b.here (by decide)
  have E := Ch.refl [] w
  refine Ctr_of_W (N := 26) (vs0 := [(.slice _A_a a.length _C_a), (.slice _A_b b.length _C_b)]) Try.func73 rfl rfl rfl ?_
  refine W_seq fun _K_1 _hK_1 => ?_
  refine W_region ?_
  refine WL_step rfl rfl (r_assign rfl) ?_
  refine WL_nil ?_
  refine thn_nrm (_hK_1 _ _ ?_)
  clear _hK_1
  refine W_seq fun _K_2 _hK_2 => ?_
  refine W_seq fun _K_3 _hK_3 => ?_
  refine W_region ?_
  refine WL_step rfl rfl (r_move rfl) ?_
  refine WL_step rfl rfl (r_len (by rw [el37]; rfl) rfl) ?_
  refine WL_step rfl rfl (r_move rfl) ?_
  refine WL_step rfl rfl (r_len (by rw [el37]; rfl) rfl) ?_
  refine WL_step rfl rfl (r_neq rfl rfl) ?_
  refine WL_nil ?_
  refine thn_nrm (_hK_3 _ _ ?_)
  clear _hK_3
  refine W_cond rfl (fun _h10 => ?_) (fun _h10 => ?_)
  · have _kb_4 := _h10
    have _h10 := bf_d (bt_n _h10)
    refine W_seq fun _K_5 _hK_5 => ?_
    refine W_region ?_
    refine WL_step rfl rfl (r_assign rfl) ?_
    refine WL_nil ?_
    refine thn_nrm (_hK_5 _ _ ?_)
    clear _hK_5
    refine W_ret (thn_ret ?_)
    clear _hK_2
    exact ret_intro [_] ⟨rfl, trivial⟩ ⟨congrArg Value.bool (decide_eq_false (fun e => _h10 (by rw [e]))).symm, E⟩
  · have _kb_4 := _h10
    have _h10 := bt_d (bf_n _h10)
    refine W_skip ?_
    refine thn_nrm (_hK_2 _ _ ?_)
    clear _hK_2
    refine W_seq fun _K_6 _hK_6 => ?_
    refine W_seq fun _K_7 _hK_7 => ?_
    refine W_region ?_
    refine WL_step rfl rfl (r_assign rfl) ?_
    refine WL_nil ?_
    refine thn_nrm (_hK_7 _ _ ?_)
    clear _hK_7
    refine W_block ?_
    refine W_loop (σ := Nat) (fun (k : Nat) => [(0, (.slice _A_a a.length _C_a)), (1, (.slice _A_b b.length _C_b)), (5, (.int .i64 ((k : Nat) : Int)))]) (fun (k : Nat) wx => Ch [] w wx ∧ w.heap.size ≤ wx.heap.size ∧ (k ≤ a.length) ∧ (a.take k = b.take k)) (fun (k : Nat) => a.length - k) 0 (Sub.cons rfl (Sub.cons rfl (Sub.cons rfl (Sub.nil _)))) ⟨E, (Nat.le_refl _), (by omega), rfl⟩ ?_
    rintro k _wr_8 ⟨E, _zz0, _hk, _ht⟩
    have _E0h := E
    have _E0hz := _E0h.size
    refine W_seq fun _K_9 _hK_9 => ?_
    refine W_seq fun _K_10 _hK_10 => ?_
    refine W_region ?_
    refine WL_step rfl rfl (r_move rfl) ?_
    refine WL_step rfl rfl (r_move rfl) ?_
    refine WL_step rfl rfl (r_len (by rw [el37]; rfl) rfl) ?_
    refine WL_step rfl rfl (r_lss rfl rfl) ?_
    refine WL_nil ?_
    refine thn_nrm (_hK_10 _ _ ?_)
    clear _hK_10
    refine W_cond rfl (fun _h14 => ?_) (fun _h14 => ?_)
    · have _kb_11 := _h14
      have _h14 := bt_d _h14
      refine W_skip ?_
      refine thn_nrm (_hK_9 _ _ ?_)
      clear _hK_9
      refine W_seq fun _K_12 _hK_12 => ?_
      refine W_block ?_
      refine W_seq fun _K_13 _hK_13 => ?_
      refine W_drawC [] 9 mixed rfl fun _w_14 _cw_14 => ?_
      have _cw_14z := _cw_14.size
      have E := E.trans _cw_14
      refine DR_s 0 rfl (by kernel_rfl) rfl rfl (t_v (fun _ => (r_move rfl)) ?_)
      refine DR_s 1 rfl (by kernel_rfl) rfl rfl (t_v (fun _ => (r_move rfl)) ?_)
      have _f_15 := ((_h_a.ch0 _E0h).ch0 _cw_14)
      refine DR_s 2 rfl (by kernel_rfl) rfl rfl (t_index _f_15 bcs_len el37 sz4 rfl rfl rfl (by omega) fun _p19 _y19 _hy19 _a19 => ?_)
      refine DR_s 3 rfl (by kernel_rfl) rfl rfl (t_loadAt0 _a19 (fun i hi => absurd hi List.not_mem_nil) agg4 rfl rfl ?_)
      refine DR_s 4 rfl (by kernel_rfl) rfl rfl (t_v (fun _ => (r_move rfl)) ?_)
      refine DR_s 5 rfl (by kernel_rfl) rfl rfl (t_v (fun _ => (r_move rfl)) ?_)
      have _f_16 := ((_h_b.ch0 _E0h).ch0 _cw_14)
      refine DR_s 6 rfl (by kernel_rfl) rfl rfl (t_index _f_16 bcs_len el37 sz4 rfl rfl rfl (by omega) fun _p23 _y23 _hy23 _a23 => ?_)
      refine DR_s 7 rfl (by kernel_rfl) rfl rfl (t_loadAt0 _a23 (fun i hi => absurd hi List.not_mem_nil) agg4 rfl rfl ?_)
      refine DR_s 8 rfl (by kernel_rfl) rfl rfl (t_v (fun _ => (r_neqB un4 rfl rfl)) ?_)
      refine DR_done (by kernel_rfl) ?_
      refine thn_nrm (_hK_13 _ _ ?_)
      clear _hK_13
      refine W_cond rfl (fun _h25 => ?_) (fun _h25 => ?_)
      · have _kb_17 := _h25
        have _h25 := bf_e (bt_n _h25)
        refine W_seq fun _K_18 _hK_18 => ?_
        refine W_region ?_
        refine WL_step rfl rfl (r_assign rfl) ?_
        refine WL_nil ?_
        refine thn_nrm (_hK_18 _ _ ?_)
        clear _hK_18
        refine W_ret (inB_ret (thn_ret (thn_ret (inB_ret (thn_ret ?_)))))
        clear _hK_6 _hK_12
        exact ret_intro [_] ⟨rfl, trivial⟩ ⟨congrArg Value.bool (decide_eq_false (ne_of_get _hy19 _hy23 _h25)).symm, E⟩
      · have _kb_17 := _h25
        have _h25 := bt_e (bf_n _h25)
        refine W_skip ?_
        refine inB_nrm ?_
        refine thn_nrm (_hK_12 _ _ ?_)
        clear _hK_12
        refine W_region ?_
        refine WL_step rfl rfl (r_move rfl) ?_
        refine WL_step rfl rfl (r_add (by omega) rfl rfl) ?_
        refine WL_step rfl rfl (r_assign rfl) ?_
        refine WL_nil ?_
        exact thn_nrm (Exists.intro (k + 1) ⟨⟨E, (by omega), (by omega), (take_eq_succ _ht _hy19 _hy23 _h25)⟩, Sub.cons rfl (Sub.cons rfl (Sub.cons rfl (Sub.nil _))), (by first | omega | (dsimp only; omega))⟩)
    · have _kb_11 := _h14
      have _h14 := bf_d _h14
      refine W_exit (thn_exit (thn_exit (inB_hit ?_)))
      refine thn_nrm (_hK_6 _ _ ?_)
      clear _hK_6
      refine W_seq fun _K_19 _hK_19 => ?_
      refine W_region ?_
      refine WL_step rfl rfl (r_assign rfl) ?_
      refine WL_nil ?_
      refine thn_nrm (_hK_19 _ _ ?_)
      clear _hK_19
      refine W_ret ?_
      clear _hK_9
      exact ret_intro [_] ⟨rfl, trivial⟩ ⟨congrArg Value.bool (decide_eq_true (eq_of_take _ht (by omega) (by omega))).symm, E⟩

/-- laws.eqIntS -/
theorem c_laws_eqIntS {w : World} {LL_a _B_a : Nat} {_v_a : Value} {a : List Int} (_h_a : Ls ics 1 w LL_a _B_a _v_a a) {LL_b _B_b : Nat} {_v_b : Value} {b : List Int} (_h_b : Ls ics 1 w LL_b _B_b _v_b b) :
    Ctr Try.prog 53 #[_v_a, _v_b] w (fun v w' => v = .bool (decide (a = b)) ∧ Ch [] w w') := by
  obtain ⟨_A_a, _C_a, _e1_a⟩ := _h_a.val
  subst _e1_a
  have _l_a := _h_a.len
  have _h_a := _h_a.here (by decide)
  obtain ⟨_A_b, _C_b, _e1_b⟩ := _h_b.val
  subst _e1_b
  have _l_b := _h_b.len
  have _h_b := _h_b.here (by decide)
  have E := Ch.refl [] w
  refine Ctr_of_W (N := 26) (vs0 := [(.slice _A_a a.length _C_a), (.slice _A_b b.length _C_b)]) Try.func53 rfl rfl rfl ?_
  refine W_seq fun _K_1 _hK_1 => ?_
  refine W_region ?_
  refine WL_step rfl rfl (r_assign rfl) ?_
  refine WL_nil ?_
  refine thn_nrm (_hK_1 _ _ ?_)
  clear _hK_1
  refine W_seq fun _K_2 _hK_2 => ?_
  refine W_seq fun _K_3 _hK_3 => ?_
  refine W_region ?_
  refine WL_step rfl rfl (r_move rfl) ?_
  refine WL_step rfl rfl (r_len (by rw [el46]; rfl) rfl) ?_
  refine WL_step rfl rfl (r_move rfl) ?_
  refine WL_step rfl rfl (r_len (by rw [el46]; rfl) rfl) ?_
  refine WL_step rfl rfl (r_neq rfl rfl) ?_
  refine WL_nil ?_
  refine thn_nrm (_hK_3 _ _ ?_)
  clear _hK_3
  refine W_cond rfl (fun _h10 => ?_) (fun _h10 => ?_)
  · have _kb_4 := _h10
    have _h10 := bf_d (bt_n _h10)
    refine W_seq fun _K_5 _hK_5 => ?_
    refine W_region ?_
    refine WL_step rfl rfl (r_assign rfl) ?_
    refine WL_nil ?_
    refine thn_nrm (_hK_5 _ _ ?_)
    clear _hK_5
    refine W_ret (thn_ret ?_)
    clear _hK_2
    exact ret_intro [_] ⟨rfl, trivial⟩ ⟨congrArg Value.bool (decide_eq_false (fun e => _h10 (by rw [e]))).symm, E⟩
  · have _kb_4 := _h10
    have _h10 := bt_d (bf_n _h10)
    refine W_skip ?_
    refine thn_nrm (_hK_2 _ _ ?_)
    clear _hK_2
    refine W_seq fun _K_6 _hK_6 => ?_
    refine W_seq fun _K_7 _hK_7 => ?_
    refine W_region ?_
    refine WL_step rfl rfl (r_assign rfl) ?_
    refine WL_nil ?_
    refine thn_nrm (_hK_7 _ _ ?_)
    clear _hK_7
    refine W_block ?_
    refine W_loop (σ := Nat) (fun (k : Nat) => [(0, (.slice _A_a a.length _C_a)), (1, (.slice _A_b b.length _C_b)), (5, (.int .i64 ((k : Nat) : Int)))]) (fun (k : Nat) wx => Ch [] w wx ∧ w.heap.size ≤ wx.heap.size ∧ (k ≤ a.length) ∧ (a.take k = b.take k)) (fun (k : Nat) => a.length - k) 0 (Sub.cons rfl (Sub.cons rfl (Sub.cons rfl (Sub.nil _)))) ⟨E, (Nat.le_refl _), (by omega), rfl⟩ ?_
    rintro k _wr_8 ⟨E, _zz0, _hk, _ht⟩
    have _E0h := E
    have _E0hz := _E0h.size
    refine W_seq fun _K_9 _hK_9 => ?_
    refine W_seq fun _K_10 _hK_10 => ?_
    refine W_region ?_
    refine WL_step rfl rfl (r_move rfl) ?_
    refine WL_step rfl rfl (r_move rfl) ?_
    refine WL_step rfl rfl (r_len (by rw [el46]; rfl) rfl) ?_
    refine WL_step rfl rfl (r_lss rfl rfl) ?_
    refine WL_nil ?_
    refine thn_nrm (_hK_10 _ _ ?_)
    clear _hK_10
    refine W_cond rfl (fun _h14 => ?_) (fun _h14 => ?_)
    · have _kb_11 := _h14
      have _h14 := bt_d _h14
      refine W_skip ?_
      refine thn_nrm (_hK_9 _ _ ?_)
      clear _hK_9
      refine W_seq fun _K_12 _hK_12 => ?_
      refine W_block ?_
      refine W_seq fun _K_13 _hK_13 => ?_
      refine W_drawC [] 9 mixed rfl fun _w_14 _cw_14 => ?_
      have _cw_14z := _cw_14.size
      have E := E.trans _cw_14
      refine DR_s 0 rfl (by kernel_rfl) rfl rfl (t_v (fun _ => (r_move rfl)) ?_)
      refine DR_s 1 rfl (by kernel_rfl) rfl rfl (t_v (fun _ => (r_move rfl)) ?_)
      have _f_15 := ((_h_a.ch0 _E0h).ch0 _cw_14)
      refine DR_s 2 rfl (by kernel_rfl) rfl rfl (t_index _f_15 ics_len el46 sz3 rfl rfl rfl (by omega) fun _p19 _y19 _hy19 _a19 => ?_)
      refine DR_s 3 rfl (by kernel_rfl) rfl rfl (t_loadAt0 _a19 (fun i hi => absurd hi List.not_mem_nil) agg3 rfl rfl ?_)
      refine DR_s 4 rfl (by kernel_rfl) rfl rfl (t_v (fun _ => (r_move rfl)) ?_)
      refine DR_s 5 rfl (by kernel_rfl) rfl rfl (t_v (fun _ => (r_move rfl)) ?_)
      have _f_16 := ((_h_b.ch0 _E0h).ch0 _cw_14)
      refine DR_s 6 rfl (by kernel_rfl) rfl rfl (t_index _f_16 ics_len el46 sz3 rfl rfl rfl (by omega) fun _p23 _y23 _hy23 _a23 => ?_)
      refine DR_s 7 rfl (by kernel_rfl) rfl rfl (t_loadAt0 _a23 (fun i hi => absurd hi List.not_mem_nil) agg3 rfl rfl ?_)
      refine DR_s 8 rfl (by kernel_rfl) rfl rfl (t_v (fun _ => (r_neq rfl rfl)) ?_)
      refine DR_done (by kernel_rfl) ?_
      refine thn_nrm (_hK_13 _ _ ?_)
      clear _hK_13
      refine W_cond rfl (fun _h25 => ?_) (fun _h25 => ?_)
      · have _kb_17 := _h25
        have _h25 := bf_d (bt_n _h25)
        refine W_seq fun _K_18 _hK_18 => ?_
        refine W_region ?_
        refine WL_step rfl rfl (r_assign rfl) ?_
        refine WL_nil ?_
        refine thn_nrm (_hK_18 _ _ ?_)
        clear _hK_18
        refine W_ret (inB_ret (thn_ret (thn_ret (inB_ret (thn_ret ?_)))))
        clear _hK_6 _hK_12
        exact ret_intro [_] ⟨rfl, trivial⟩ ⟨congrArg Value.bool (decide_eq_false (ne_of_get _hy19 _hy23 _h25)).symm, E⟩
      · have _kb_17 := _h25
        have _h25 := bt_d (bf_n _h25)
        refine W_skip ?_
        refine inB_nrm ?_
        refine thn_nrm (_hK_12 _ _ ?_)
        clear _hK_12
        refine W_region ?_
        refine WL_step rfl rfl (r_move rfl) ?_
        refine WL_step rfl rfl (r_add (by omega) rfl rfl) ?_
        refine WL_step rfl rfl (r_assign rfl) ?_
        refine WL_nil ?_
        exact thn_nrm (Exists.intro (k + 1) ⟨⟨E, (by omega), (by omega), (take_eq_succ _ht _hy19 _hy23 _h25)⟩, Sub.cons rfl (Sub.cons rfl (Sub.cons rfl (Sub.nil _))), (by first | omega | (dsimp only; omega))⟩)
    · have _kb_11 := _h14
      have _h14 := bf_d _h14
      refine W_exit (thn_exit (thn_exit (inB_hit ?_)))
      refine thn_nrm (_hK_6 _ _ ?_)
      clear _hK_6
      refine W_seq fun _K_19 _hK_19 => ?_
      refine W_region ?_
      refine WL_step rfl rfl (r_assign rfl) ?_
      refine WL_nil ?_
      refine thn_nrm (_hK_19 _ _ ?_)
      clear _hK_19
      refine W_ret ?_
      clear _hK_9
      exact ret_intro [_] ⟨rfl, trivial⟩ ⟨congrArg Value.bool (decide_eq_true (eq_of_take _ht (by omega) (by omega))).symm, E⟩

/-- laws.eqIntSS -/
theorem c_laws_eqIntSS {w : World} {LL_sa _B_sa : Nat} {_v_sa : Value} {sa : List Sv} (_h_sa : Ls Sv.cs 1 w LL_sa _B_sa _v_sa sa) {LR_a BB_a : Nat} {a : List (List Int)} (_rd_a : Rd ics 1 w LR_a BB_a sa a) {LL_sb _B_sb : Nat} {_v_sb : Value} {sb : List Sv} (_h_sb : Ls Sv.cs 1 w LL_sb _B_sb _v_sb sb) {LR_b BB_b : Nat} {b : List (List Int)} (_rd_b : Rd ics 1 w LR_b BB_b sb b) :
    Ctr Try.prog 11 #[_v_sa, _v_sb] w (fun v w' => v = .bool (decide (a = b)) ∧ Ch [] w w') := by
  obtain ⟨_A_sa, _C_sa, _e1_sa⟩ := _h_sa.val
  subst _e1_sa
  have _l_sa := _h_sa.len
  have _h_sa := _h_sa.here (by decide)
  have _rd_a := _rd_a.here (by decide)
  have _rl_a := _rd_a.1
  obtain ⟨_A_sb, _C_sb, _e1_sb⟩ := _h_sb.val
  subst _e1_sb
  have _l_sb := _h_sb.len
  have _h_sb := _h_sb.here (by decide)
  have _rd_b := _rd_b.here (by decide)
  have _rl_b := _rd_b.1
  have E := Ch.refl [] w
  refine Ctr_of_W (N := 27) (vs0 := [(.slice _A_sa sa.length _C_sa), (.slice _A_sb sb.length _C_sb)]) Try.func11 rfl rfl rfl ?_
  refine W_seq fun _K_1 _hK_1 => ?_
  refine W_region ?_
  refine WL_step rfl rfl (r_assign rfl) ?_
  refine WL_nil ?_
  refine thn_nrm (_hK_1 _ _ ?_)
  clear _hK_1
  refine W_seq fun _K_2 _hK_2 => ?_
  refine W_seq fun _K_3 _hK_3 => ?_
  refine W_region ?_
  refine WL_step rfl rfl (r_move rfl) ?_
  refine WL_step rfl rfl (r_len (by rw [el26]; rfl) rfl) ?_
  refine WL_step rfl rfl (r_move rfl) ?_
  refine WL_step rfl rfl (r_len (by rw [el26]; rfl) rfl) ?_
  refine WL_step rfl rfl (r_neq rfl rfl) ?_
  refine WL_nil ?_
  refine thn_nrm (_hK_3 _ _ ?_)
  clear _hK_3
  refine W_cond rfl (fun _h10 => ?_) (fun _h10 => ?_)
  · have _kb_4 := _h10
    have _h10 := bf_d (bt_n _h10)
    refine W_seq fun _K_5 _hK_5 => ?_
    refine W_region ?_
    refine WL_step rfl rfl (r_assign rfl) ?_
    refine WL_nil ?_
    refine thn_nrm (_hK_5 _ _ ?_)
    clear _hK_5
    refine W_ret (thn_ret ?_)
    clear _hK_2
    exact ret_intro [_] ⟨rfl, trivial⟩ ⟨congrArg Value.bool (decide_eq_false (fun e => _h10 (by rw [_rl_a, _rl_b, e]))).symm, E⟩
  · have _kb_4 := _h10
    have _h10 := bt_d (bf_n _h10)
    refine W_skip ?_
    refine thn_nrm (_hK_2 _ _ ?_)
    clear _hK_2
    refine W_seq fun _K_6 _hK_6 => ?_
    refine W_seq fun _K_7 _hK_7 => ?_
    refine W_region ?_
    refine WL_step rfl rfl (r_assign rfl) ?_
    refine WL_nil ?_
    refine thn_nrm (_hK_7 _ _ ?_)
    clear _hK_7
    refine W_block ?_
    refine W_loop (σ := Nat) (fun (k : Nat) => [(0, (.slice _A_sa sa.length _C_sa)), (1, (.slice _A_sb sb.length _C_sb)), (5, (.int .i64 ((k : Nat) : Int)))]) (fun (k : Nat) wx => Ch [] w wx ∧ w.heap.size ≤ wx.heap.size ∧ (k ≤ a.length) ∧ (a.take k = b.take k)) (fun (k : Nat) => a.length - k) 0 (Sub.cons rfl (Sub.cons rfl (Sub.cons rfl (Sub.nil _)))) ⟨E, (Nat.le_refl _), (by omega), rfl⟩ ?_
    rintro k _wr_8 ⟨E, _zz0, _hk, _ht⟩
    have _E0h := E
    have _E0hz := _E0h.size
    refine W_seq fun _K_9 _hK_9 => ?_
    refine W_seq fun _K_10 _hK_10 => ?_
    refine W_region ?_
    refine WL_step rfl rfl (r_move rfl) ?_
    refine WL_step rfl rfl (r_move rfl) ?_
    refine WL_step rfl rfl (r_len (by rw [el26]; rfl) rfl) ?_
    refine WL_step rfl rfl (r_lss rfl rfl) ?_
    refine WL_nil ?_
    refine thn_nrm (_hK_10 _ _ ?_)
    clear _hK_10
    refine W_cond rfl (fun _h14 => ?_) (fun _h14 => ?_)
    · have _kb_11 := _h14
      have _h14 := bt_d _h14
      refine W_skip ?_
      refine thn_nrm (_hK_9 _ _ ?_)
      clear _hK_9
      refine W_seq fun _K_12 _hK_12 => ?_
      refine W_block ?_
      refine W_seq fun _K_13 _hK_13 => ?_
      refine W_drawC [] 10 mixed rfl fun _w_14 _cw_14 => ?_
      have _cw_14z := _cw_14.size
      have E := E.trans _cw_14
      refine DR_s 0 rfl (by kernel_rfl) rfl rfl (t_v (fun _ => (r_move rfl)) ?_)
      refine DR_s 1 rfl (by kernel_rfl) rfl rfl (t_v (fun _ => (r_move rfl)) ?_)
      have _f_15 := ((_h_sa.ch0 _E0h).ch0 _cw_14)
      have _f_16 := ((_rd_a.ch0 _E0h).ch0 _cw_14)
      refine DR_s 2 rfl (by kernel_rfl) rfl rfl (t_index _f_15 Sv.len el26 sz46 rfl rfl rfl (by omega) fun _p19 _y19 _hy19 _a19 => ?_)
      obtain ⟨_ys19, _hys19, _fs19⟩ := _f_16.get _hy19
      obtain ⟨_A19, _n19, _C19⟩ := _y19
      obtain rfl := _fs19.eqn
      have _l19 := _fs19.len
      replace _fs19 : Ls ics 1 _w_14 LR_a w.heap.size (.slice _A19 _ys19.length _C19) _ys19 := _fs19
      replace _a19 : At _w_14 LL_sa w.heap.size _p19 ([(.slice _A19 _ys19.length _C19)]) := _a19
      refine DR_s 3 rfl (by kernel_rfl) rfl rfl (t_loadAt0 _a19 (fun i hi => absurd hi List.not_mem_nil) agg46 rfl rfl ?_)
      refine DR_s 4 rfl (by kernel_rfl) rfl rfl (t_v (fun _ => (r_move rfl)) ?_)
      refine DR_s 5 rfl (by kernel_rfl) rfl rfl (t_v (fun _ => (r_move rfl)) ?_)
      have _f_17 := ((_h_sb.ch0 _E0h).ch0 _cw_14)
      have _f_18 := ((_rd_b.ch0 _E0h).ch0 _cw_14)
      refine DR_s 6 rfl (by kernel_rfl) rfl rfl (t_index _f_17 Sv.len el26 sz46 rfl rfl rfl (by omega) fun _p23 _y23 _hy23 _a23 => ?_)
      obtain ⟨_ys23, _hys23, _fs23⟩ := _f_18.get _hy23
      obtain ⟨_A23, _n23, _C23⟩ := _y23
      obtain rfl := _fs23.eqn
      have _l23 := _fs23.len
      replace _fs23 : Ls ics 1 _w_14 LR_b w.heap.size (.slice _A23 _ys23.length _C23) _ys23 := _fs23
      replace _a23 : At _w_14 LL_sb w.heap.size _p23 ([(.slice _A23 _ys23.length _C23)]) := _a23
      refine DR_s 7 rfl (by kernel_rfl) rfl rfl (t_loadAt0 _a23 (fun i hi => absurd hi List.not_mem_nil) agg46 rfl rfl ?_)
      refine DR_one 8 (by kernel_rfl) ?_
      refine DO_s rfl rfl rfl ?_
      refine Step.call (r_call (xs := [.tmp 20, .tmp 24]) fk53 rfl) (c_laws_eqIntS _fs19 _fs23 ) fun _v25 _w_19 _q25 => ?_
      obtain ⟨rfl, _cw_19⟩ := _q25
      have _cw_19z := _cw_19.size
      have E := E.trans _cw_19
      have _S_20 : Ch [] _w_14 _w_19 := ((Ch.refl _ _).trans _cw_19)
      refine ⟨_S_20, ?_⟩
      refine DR_s 9 rfl (by kernel_rfl) rfl rfl (t_v (fun _ => (r_not rfl)) ?_)
      refine DR_done (by kernel_rfl) ?_
      refine thn_nrm (_hK_13 _ _ ?_)
      clear _hK_13
      refine W_cond rfl (fun _h26 => ?_) (fun _h26 => ?_)
      · have _kb_21 := _h26
        have _h26 := bf_d (bt_n _h26)
        refine W_seq fun _K_22 _hK_22 => ?_
        refine W_region ?_
        refine WL_step rfl rfl (r_assign rfl) ?_
        refine WL_nil ?_
        refine thn_nrm (_hK_22 _ _ ?_)
        clear _hK_22
        refine W_ret (inB_ret (thn_ret (thn_ret (inB_ret (thn_ret ?_)))))
        clear _hK_6 _hK_12
        exact ret_intro [_] ⟨rfl, trivial⟩ ⟨congrArg Value.bool (decide_eq_false (ne_of_get _hys19 _hys23 _h26)).symm, E⟩
      · have _kb_21 := _h26
        have _h26 := bt_d (bf_n _h26)
        refine W_skip ?_
        refine inB_nrm ?_
        refine thn_nrm (_hK_12 _ _ ?_)
        clear _hK_12
        refine W_region ?_
        refine WL_step rfl rfl (r_move rfl) ?_
        refine WL_step rfl rfl (r_add (by omega) rfl rfl) ?_
        refine WL_step rfl rfl (r_assign rfl) ?_
        refine WL_nil ?_
        exact thn_nrm (Exists.intro (k + 1) ⟨⟨E, (by omega), (by omega), (take_eq_succ _ht _hys19 _hys23 _h26)⟩, Sub.cons rfl (Sub.cons rfl (Sub.cons rfl (Sub.nil _))), (by first | omega | (dsimp only; omega))⟩)
    · have _kb_11 := _h14
      have _h14 := bf_d _h14
      refine W_exit (thn_exit (thn_exit (inB_hit ?_)))
      refine thn_nrm (_hK_6 _ _ ?_)
      clear _hK_6
      refine W_seq fun _K_23 _hK_23 => ?_
      refine W_region ?_
      refine WL_step rfl rfl (r_assign rfl) ?_
      refine WL_nil ?_
      refine thn_nrm (_hK_23 _ _ ?_)
      clear _hK_23
      refine W_ret ?_
      clear _hK_9
      exact ret_intro [_] ⟨rfl, trivial⟩ ⟨congrArg Value.bool (decide_eq_true (eq_of_take _ht (by omega) (by omega))).symm, E⟩

/-- laws.eqAutomaton -/
theorem c_laws_eqAutomaton {w : World} (aS : Int) {LL_aA _B_aA : Nat} {_v_aA : Value} {aA : List Bool} (_h_aA : Ls bcs 1 w LL_aA _B_aA _v_aA aA) {LL_saN _B_saN : Nat} {_v_saN : Value} {saN : List Sv} (_h_saN : Ls Sv.cs 1 w LL_saN _B_saN _v_saN saN) {LR_aN BB_aN : Nat} {aN : List (List Int)} (_rd_aN : Rd ics 1 w LR_aN BB_aN saN aN) (bS : Int) {LL_bA _B_bA : Nat} {_v_bA : Value} {bA : List Bool} (_h_bA : Ls bcs 1 w LL_bA _B_bA _v_bA bA) {LL_sbN _B_sbN : Nat} {_v_sbN : Value} {sbN : List Sv} (_h_sbN : Ls Sv.cs 1 w LL_sbN _B_sbN _v_sbN sbN) {LR_bN BB_bN : Nat} {bN : List (List Int)} (_rd_bN : Rd ics 1 w LR_bN BB_bN sbN bN) :
    Ctr Try.prog 20 #[(.agg #[(.int .i64 aS), _v_aA, _v_saN]), (.agg #[(.int .i64 bS), _v_bA, _v_sbN])] w (fun v w' => v = .bool (decide (aS = bS ∧ aA = bA ∧ aN = bN)) ∧ Ch [] w w') := by
  obtain ⟨_A_aA, _C_aA, _e1_aA⟩ := _h_aA.val
  subst _e1_aA
  have _l_aA := _h_aA.len
  have _h_aA := _h_aA.here (by decide)
  obtain ⟨_A_saN, _C_saN, _e1_saN⟩ := _h_saN.val
  subst _e1_saN
  have _l_saN := _h_saN.len
  have _h_saN := _h_saN.here (by decide)
  have _rd_aN := _rd_aN.here (by decide)
  have _rl_aN := _rd_aN.1
  obtain ⟨_A_bA, _C_bA, _e1_bA⟩ := _h_bA.val
  subst _e1_bA
  have _l_bA := _h_bA.len
  have _h_bA := _h_bA.here (by decide)
  obtain ⟨_A_sbN, _C_sbN, _e1_sbN⟩ := _h_sbN.val
  subst _e1_sbN
  have _l_sbN := _h_sbN.len
  have _h_sbN := _h_sbN.here (by decide)
  have _rd_bN := _rd_bN.here (by decide)
  have _rl_bN := _rd_bN.1
  have E := Ch.refl [] w
  refine Ctr_of_W (N := 22) (vs0 := [(.agg #[(.int .i64 aS), (.slice _A_aA aA.length _C_aA), (.slice _A_saN saN.length _C_saN)]), (.agg #[(.int .i64 bS), (.slice _A_bA bA.length _C_bA), (.slice _A_sbN sbN.length _C_sbN)])]) Try.func20 rfl rfl rfl ?_
  refine W_seq fun _K_1 _hK_1 => ?_
  refine W_region ?_
  refine WL_s rfl rfl ?_
  refine s_box rfl fun _b2 _w_2 _m2 _cw_2 _e2 => ?_
  have _cw_2z := _cw_2.size
  have E := E.trans _cw_2
  have _z2 := _m2.lt
  replace _m2 : Blk _w_2 _b2 42 [(.int .i64 aS), (.slice _A_aA aA.length _C_aA), (.slice _A_saN saN.length _C_saN)] := _m2
  refine WL_s rfl rfl ?_
  refine s_box rfl fun _b3 _w_3 _m3 _cw_3 _e3 => ?_
  have _cw_3z := _cw_3.size
  have E := E.trans _cw_3
  have _z3 := _m3.lt
  replace _m3 : Blk _w_3 _b3 42 [(.int .i64 bS), (.slice _A_bA bA.length _C_bA), (.slice _A_sbN sbN.length _C_sbN)] := _m3
  refine WL_step rfl rfl (r_assign rfl) ?_
  refine WL_nil ?_
  refine thn_nrm (_hK_1 _ _ ?_)
  clear _hK_1
  refine W_seq fun _K_4 _hK_4 => ?_
  refine W_seq fun _K_5 _hK_5 => ?_
  refine W_region ?_
  refine WL_step rfl rfl (r_fieldAddr fa42_0 rfl) ?_
  have _f_6 := (_m2.ch0 _cw_3)
  refine WL_step rfl rfl (r_loadAt _f_6.at_ agg3 rfl rfl) ?_
  refine WL_step rfl rfl (r_fieldAddr fa42_0 rfl) ?_
  refine WL_step rfl rfl (r_loadAt _m3.at_ agg3 rfl rfl) ?_
  refine WL_step rfl rfl (r_neq rfl rfl) ?_
  refine WL_nil ?_
  refine thn_nrm (_hK_5 _ _ ?_)
  clear _hK_5
  refine W_cond rfl (fun _h9 => ?_) (fun _h9 => ?_)
  · have _kb_7 := _h9
    have _h9 := bf_d (bt_n _h9)
    refine W_seq fun _K_8 _hK_8 => ?_
    refine W_region ?_
    refine WL_step rfl rfl (r_assign rfl) ?_
    refine WL_nil ?_
    refine thn_nrm (_hK_8 _ _ ?_)
    clear _hK_8
    refine W_ret (thn_ret ?_)
    clear _hK_4
    exact ret_intro [_] ⟨rfl, trivial⟩ ⟨congrArg Value.bool (by simp_all), E⟩
  · have _kb_7 := _h9
    have _h9 := bt_d (bf_n _h9)
    refine W_skip ?_
    refine thn_nrm (_hK_4 _ _ ?_)
    clear _hK_4
    refine W_seq fun _K_9 _hK_9 => ?_
    refine W_seq fun _K_10 _hK_10 => ?_
    refine W_region ?_
    refine WL_step rfl rfl (r_fieldAddr fa42_1 rfl) ?_
    refine WL_step rfl rfl (r_loadAt _f_6.at_ agg37 rfl rfl) ?_
    refine WL_step rfl rfl (r_fieldAddr fa42_1 rfl) ?_
    refine WL_step rfl rfl (r_loadAt _m3.at_ agg37 rfl rfl) ?_
    refine WL_s rfl rfl ?_
    have _f_11 := ((_h_aA.ch0 _cw_2).ch0 _cw_3)
    have _f_12 := ((_h_bA.ch0 _cw_2).ch0 _cw_3)
    refine Step.call (r_call (xs := [.tmp 11, .tmp 13]) fk73 rfl) (c_laws_eqBoolS _f_11 _f_12 ) fun _v14 _w_13 _q14 => ?_
    obtain ⟨rfl, _cw_13⟩ := _q14
    have _cw_13z := _cw_13.size
    have E := E.trans _cw_13
    refine WL_step rfl rfl (r_not rfl) ?_
    refine WL_nil ?_
    refine thn_nrm (_hK_10 _ _ ?_)
    clear _hK_10
    refine W_cond rfl (fun _h15 => ?_) (fun _h15 => ?_)
    · have _kb_14 := _h15
      have _h15 := bf_d (bt_n _h15)
      refine W_seq fun _K_15 _hK_15 => ?_
      refine W_region ?_
      refine WL_step rfl rfl (r_assign rfl) ?_
      refine WL_nil ?_
      refine thn_nrm (_hK_15 _ _ ?_)
      clear _hK_15
      refine W_ret (thn_ret ?_)
      clear _hK_9
      exact ret_intro [_] ⟨rfl, trivial⟩ ⟨congrArg Value.bool (by simp_all), E⟩
    · have _kb_14 := _h15
      have _h15 := bt_d (bf_n _h15)
      refine W_skip ?_
      refine thn_nrm (_hK_9 _ _ ?_)
      clear _hK_9
      refine W_seq fun _K_16 _hK_16 => ?_
      refine W_seq fun _K_17 _hK_17 => ?_
      refine W_region ?_
      refine WL_step rfl rfl (r_fieldAddr fa42_2 rfl) ?_
      have _f_18 := (_f_6.ch0 _cw_13)
      refine WL_step rfl rfl (r_loadAt _f_18.at_ agg26 rfl rfl) ?_
      refine WL_step rfl rfl (r_fieldAddr fa42_2 rfl) ?_
      have _f_19 := (_m3.ch0 _cw_13)
      refine WL_step rfl rfl (r_loadAt _f_19.at_ agg26 rfl rfl) ?_
      refine WL_s rfl rfl ?_
      have _f_20 := (((_rd_aN.ch0 _cw_2).ch0 _cw_3).ch0 _cw_13)
      have _f_21 := (((_h_saN.ch0 _cw_2).ch0 _cw_3).ch0 _cw_13)
      have _f_22 := (((_rd_bN.ch0 _cw_2).ch0 _cw_3).ch0 _cw_13)
      have _f_23 := (((_h_sbN.ch0 _cw_2).ch0 _cw_3).ch0 _cw_13)
      refine Step.call (r_call (xs := [.tmp 17, .tmp 19]) fk11 rfl) (c_laws_eqIntSS _f_21 _f_20 _f_23 _f_22 ) fun _v20 _w_24 _q20 => ?_
      obtain ⟨rfl, _cw_24⟩ := _q20
      have _cw_24z := _cw_24.size
      have E := E.trans _cw_24
      refine WL_step rfl rfl (r_not rfl) ?_
      refine WL_nil ?_
      refine thn_nrm (_hK_17 _ _ ?_)
      clear _hK_17
      refine W_cond rfl (fun _h21 => ?_) (fun _h21 => ?_)
      · have _kb_25 := _h21
        have _h21 := bf_d (bt_n _h21)
        refine W_seq fun _K_26 _hK_26 => ?_
        refine W_region ?_
        refine WL_step rfl rfl (r_assign rfl) ?_
        refine WL_nil ?_
        refine thn_nrm (_hK_26 _ _ ?_)
        clear _hK_26
        refine W_ret (thn_ret ?_)
        clear _hK_16
        exact ret_intro [_] ⟨rfl, trivial⟩ ⟨congrArg Value.bool (by simp_all), E⟩
      · have _kb_25 := _h21
        have _h21 := bt_d (bf_n _h21)
        refine W_skip ?_
        refine thn_nrm (_hK_16 _ _ ?_)
        clear _hK_16
        refine W_seq fun _K_27 _hK_27 => ?_
        refine W_region ?_
        refine WL_step rfl rfl (r_assign rfl) ?_
        refine WL_nil ?_
        refine thn_nrm (_hK_27 _ _ ?_)
        clear _hK_27
        refine W_ret ?_
        exact ret_intro [_] ⟨rfl, trivial⟩ ⟨congrArg Value.bool (by simp_all), E⟩

/-- laws.szBoolS -/
theorem c_laws_szBoolS {w : World} {LL_a _B_a : Nat} {_v_a : Value} {a : List Bool} (_h_a : Ls bcs 1 w LL_a _B_a _v_a a) (left : Int) (hl : left ≤ 1048576) (_h0 : 0 ≤ left) :
    Ctr Try.prog 58 #[_v_a, (.int .i64 left)] w (fun v w' => v = .int .i64 (if left < a.length then -1 else left - a.length) ∧ Ch [] w w') := by
  obtain ⟨_A_a, _C_a, _e1_a⟩ := _h_a.val
  subst _e1_a
  have _l_a := _h_a.len
  have _h_a := _h_a.here (by decide)
  have E := Ch.refl [] w
  refine Ctr_of_W (N := 12) (vs0 := [(.slice _A_a a.length _C_a), (.int .i64 left)]) Try.func58 rfl rfl rfl ?_
  refine W_seq fun _K_1 _hK_1 => ?_
  refine W_region ?_
  refine WL_step rfl rfl (r_assign rfl) ?_
  refine WL_nil ?_
  refine thn_nrm (_hK_1 _ _ ?_)
  clear _hK_1
  refine W_seq fun _K_2 _hK_2 => ?_
  refine W_region ?_
  refine WL_step rfl rfl (r_move rfl) ?_
  refine WL_step rfl rfl (r_move rfl) ?_
  refine WL_step rfl rfl (r_len (by rw [el37]; rfl) rfl) ?_
  refine WL_step rfl rfl (r_sub (by omega) rfl rfl) ?_
  refine WL_step rfl rfl (r_assign rfl) ?_
  refine WL_nil ?_
  refine thn_nrm (_hK_2 _ _ ?_)
  clear _hK_2
  refine W_seq fun _K_3 _hK_3 => ?_
  refine W_seq fun _K_4 _hK_4 => ?_
  refine W_region ?_
  refine WL_step rfl rfl (r_move rfl) ?_
  refine WL_step rfl rfl (r_lss rfl rfl) ?_
  refine WL_nil ?_
  refine thn_nrm (_hK_4 _ _ ?_)
  clear _hK_4
  refine W_cond rfl (fun _h10 => ?_) (fun _h10 => ?_)
  · have _kb_5 := _h10
    have _h10 := bt_d _h10
    refine W_seq fun _K_6 _hK_6 => ?_
    refine W_region ?_
    refine WL_step rfl rfl (r_assign rfl) ?_
    refine WL_nil ?_
    refine thn_nrm (_hK_6 _ _ ?_)
    clear _hK_6
    refine W_ret (thn_ret ?_)
    clear _hK_3
    exact ret_intro [_] ⟨rfl, trivial⟩ ⟨congrArg (Value.int .i64) (if_pos (by omega)).symm, E⟩
  · have _kb_5 := _h10
    have _h10 := bf_d _h10
    refine W_skip ?_
    refine thn_nrm (_hK_3 _ _ ?_)
    clear _hK_3
    refine W_seq fun _K_7 _hK_7 => ?_
    refine W_region ?_
    refine WL_step rfl rfl (r_move rfl) ?_
    refine WL_step rfl rfl (r_assign rfl) ?_
    refine WL_nil ?_
    refine thn_nrm (_hK_7 _ _ ?_)
    clear _hK_7
    refine W_ret ?_
    exact ret_intro [_] ⟨rfl, trivial⟩ ⟨congrArg (Value.int .i64) (if_neg (by omega)).symm, E⟩

/-- laws.szIntS -/
theorem c_laws_szIntS {w : World} {LL_a _B_a : Nat} {_v_a : Value} {a : List Int} (_h_a : Ls ics 1 w LL_a _B_a _v_a a) (left : Int) (hl : left ≤ 1048576) (_h0 : 0 ≤ left) :
    Ctr Try.prog 74 #[_v_a, (.int .i64 left)] w (fun v w' => v = .int .i64 (if left < a.length then -1 else left - a.length) ∧ Ch [] w w') := by
  obtain ⟨_A_a, _C_a, _e1_a⟩ := _h_a.val
  subst _e1_a
  have _l_a := _h_a.len
  have _h_a := _h_a.here (by decide)
  have E := Ch.refl [] w
  refine Ctr_of_W (N := 12) (vs0 := [(.slice _A_a a.length _C_a), (.int .i64 left)]) Try.func74 rfl rfl rfl ?_
  refine W_seq fun _K_1 _hK_1 => ?_
  refine W_region ?_
  refine WL_step rfl rfl (r_assign rfl) ?_
  refine WL_nil ?_
  refine thn_nrm (_hK_1 _ _ ?_)
  clear _hK_1
  refine W_seq fun _K_2 _hK_2 => ?_
  refine W_region ?_
  refine WL_step rfl rfl (r_move rfl) ?_
  refine WL_step rfl rfl (r_move rfl) ?_
  refine WL_step rfl rfl (r_len (by rw [el46]; rfl) rfl) ?_
  refine WL_step rfl rfl (r_sub (by omega) rfl rfl) ?_
  refine WL_step rfl rfl (r_assign rfl) ?_
  refine WL_nil ?_
  refine thn_nrm (_hK_2 _ _ ?_)
  clear _hK_2
  refine W_seq fun _K_3 _hK_3 => ?_
  refine W_seq fun _K_4 _hK_4 => ?_
  refine W_region ?_
  refine WL_step rfl rfl (r_move rfl) ?_
  refine WL_step rfl rfl (r_lss rfl rfl) ?_
  refine WL_nil ?_
  refine thn_nrm (_hK_4 _ _ ?_)
  clear _hK_4
  refine W_cond rfl (fun _h10 => ?_) (fun _h10 => ?_)
  · have _kb_5 := _h10
    have _h10 := bt_d _h10
    refine W_seq fun _K_6 _hK_6 => ?_
    refine W_region ?_
    refine WL_step rfl rfl (r_assign rfl) ?_
    refine WL_nil ?_
    refine thn_nrm (_hK_6 _ _ ?_)
    clear _hK_6
    refine W_ret (thn_ret ?_)
    clear _hK_3
    exact ret_intro [_] ⟨rfl, trivial⟩ ⟨congrArg (Value.int .i64) (if_pos (by omega)).symm, E⟩
  · have _kb_5 := _h10
    have _h10 := bf_d _h10
    refine W_skip ?_
    refine thn_nrm (_hK_3 _ _ ?_)
    clear _hK_3
    refine W_seq fun _K_7 _hK_7 => ?_
    refine W_region ?_
    refine WL_step rfl rfl (r_move rfl) ?_
    refine WL_step rfl rfl (r_assign rfl) ?_
    refine WL_nil ?_
    refine thn_nrm (_hK_7 _ _ ?_)
    clear _hK_7
    refine W_ret ?_
    exact ret_intro [_] ⟨rfl, trivial⟩ ⟨congrArg (Value.int .i64) (if_neg (by omega)).symm, E⟩

/-- laws.szIntSS -/
theorem c_laws_szIntSS {w : World} {LL_sa _B_sa : Nat} {_v_sa : Value} {sa : List Sv} (_h_sa : Ls Sv.cs 1 w LL_sa _B_sa _v_sa sa) {LR_a BB_a : Nat} {a : List (List Int)} (_rd_a : Rd ics 1 w LR_a BB_a sa a) (left : Int) (hl : left ≤ 1048576) (_h0 : 0 ≤ left) :
    Ctr Try.prog 59 #[_v_sa, (.int .i64 left)] w (fun v w' => v = .int .i64 (if left < a.length + a.flatten.length then -1 else left - a.length - a.flatten.length) ∧ Ch [] w w') := by
  obtain ⟨_A_sa, _C_sa, _e1_sa⟩ := _h_sa.val
  subst _e1_sa
  have _l_sa := _h_sa.len
  have _h_sa := _h_sa.here (by decide)
  have _rd_a := _rd_a.here (by decide)
  have _rl_a := _rd_a.1
  have E := Ch.refl [] w
  refine Ctr_of_W (N := 27) (vs0 := [(.slice _A_sa sa.length _C_sa), (.int .i64 left)]) Try.func59 rfl rfl rfl ?_
  refine W_seq fun _K_1 _hK_1 => ?_
  refine W_region ?_
  refine WL_step rfl rfl (r_assign rfl) ?_
  refine WL_nil ?_
  refine thn_nrm (_hK_1 _ _ ?_)
  clear _hK_1
  refine W_seq fun _K_2 _hK_2 => ?_
  refine W_region ?_
  refine WL_step rfl rfl (r_move rfl) ?_
  refine WL_step rfl rfl (r_move rfl) ?_
  refine WL_step rfl rfl (r_len (by rw [el26]; rfl) rfl) ?_
  refine WL_step rfl rfl (r_sub (by omega) rfl rfl) ?_
  refine WL_step rfl rfl (r_assign rfl) ?_
  refine WL_nil ?_
  refine thn_nrm (_hK_2 _ _ ?_)
  clear _hK_2
  refine W_seq fun _K_3 _hK_3 => ?_
  refine W_seq fun _K_4 _hK_4 => ?_
  refine W_region ?_
  refine WL_step rfl rfl (r_move rfl) ?_
  refine WL_step rfl rfl (r_lss rfl rfl) ?_
  refine WL_nil ?_
  refine thn_nrm (_hK_4 _ _ ?_)
  clear _hK_4
  refine W_cond rfl (fun _h11 => ?_) (fun _h11 => ?_)
  · have _kb_5 := _h11
    have _h11 := bt_d _h11
    refine W_seq fun _K_6 _hK_6 => ?_
    refine W_region ?_
    refine WL_step rfl rfl (r_assign rfl) ?_
    refine WL_nil ?_
    refine thn_nrm (_hK_6 _ _ ?_)
    clear _hK_6
    refine W_ret (thn_ret ?_)
    clear _hK_3
    exact ret_intro [_] ⟨rfl, trivial⟩ ⟨congrArg (Value.int .i64) (if_pos (by omega)).symm, E⟩
  · have _kb_5 := _h11
    have _h11 := bf_d _h11
    refine W_skip ?_
    refine thn_nrm (_hK_3 _ _ ?_)
    clear _hK_3
    refine W_seq fun _K_7 _hK_7 => ?_
    refine W_seq fun _K_8 _hK_8 => ?_
    refine W_region ?_
    refine WL_step rfl rfl (r_assign rfl) ?_
    refine WL_nil ?_
    refine thn_nrm (_hK_8 _ _ ?_)
    clear _hK_8
    refine W_block ?_
    refine W_loop (σ := Nat × Int) (fun ⟨k, m⟩ => [(0, (.slice _A_sa sa.length _C_sa)), (1, (.int .i64 m)), (5, (.int .i64 ((k : Nat) : Int)))]) (fun ⟨k, m⟩ wx => Ch [] w wx ∧ w.heap.size ≤ wx.heap.size ∧ (k ≤ a.length) ∧ (m = left - a.length - (a.take k).flatten.length) ∧ (0 ≤ m)) (fun ⟨k, m⟩ => a.length - k) (0, (left - ((sa.length : Nat) : Int))) (Sub.cons rfl (Sub.cons rfl (Sub.cons rfl (Sub.nil _)))) ⟨E, (Nat.le_refl _), (by omega), (by simp; omega), (by omega)⟩ ?_
    rintro ⟨k, m⟩ _wr_9 ⟨E, _zz0, _hk, hm, hn⟩
    have _E0h := E
    have _E0hz := _E0h.size
    refine W_seq fun _K_10 _hK_10 => ?_
    refine W_seq fun _K_11 _hK_11 => ?_
    refine W_region ?_
    refine WL_step rfl rfl (r_move rfl) ?_
    refine WL_step rfl rfl (r_move rfl) ?_
    refine WL_step rfl rfl (r_len (by rw [el26]; rfl) rfl) ?_
    refine WL_step rfl rfl (r_lss rfl rfl) ?_
    refine WL_nil ?_
    refine thn_nrm (_hK_11 _ _ ?_)
    clear _hK_11
    refine W_cond rfl (fun _h15 => ?_) (fun _h15 => ?_)
    · have _kb_12 := _h15
      have _h15 := bt_d _h15
      refine W_skip ?_
      refine thn_nrm (_hK_10 _ _ ?_)
      clear _hK_10
      refine W_seq fun _K_13 _hK_13 => ?_
      refine W_block ?_
      refine W_seq fun _K_14 _hK_14 => ?_
      refine W_region ?_
      refine WL_step rfl rfl (r_move rfl) ?_
      refine WL_step rfl rfl (r_move rfl) ?_
      refine WL_s rfl rfl ?_
      have _f_15 := (_h_sa.ch0 _E0h)
      refine (s_index _f_15 Sv.len el26 sz46 rfl rfl rfl (by omega) fun _p20 _y20 _hy20 _a20 => ?_)
      have _f_16 := (_rd_a.ch0 _E0h)
      obtain ⟨_ys20, _hys20, _fs20⟩ := _f_16.get _hy20
      obtain ⟨_A20, _n20, _C20⟩ := _y20
      obtain rfl := _fs20.eqn
      have _l20 := _fs20.len
      replace _fs20 : Ls ics 1 _wr_9 LR_a w.heap.size (.slice _A20 _ys20.length _C20) _ys20 := _fs20
      replace _a20 : At _wr_9 LL_sa w.heap.size _p20 ([(.slice _A20 _ys20.length _C20)]) := _a20
      refine WL_step rfl rfl (r_loadAt0 _a20 agg46 rfl rfl) ?_
      refine WL_step rfl rfl (r_move rfl) ?_
      refine WL_s rfl rfl ?_
      refine Step.call (r_call (xs := [.tmp 21, .tmp 22]) fk74 rfl) (c_laws_szIntS _fs20 _ (by omega) (by omega)) fun _v23 _w_17 _q23 => ?_
      obtain ⟨rfl, _cw_17⟩ := _q23
      have _cw_17z := _cw_17.size
      have E := E.trans _cw_17
      refine WL_step rfl rfl (r_assign rfl) ?_
      refine WL_nil ?_
      refine thn_nrm (_hK_14 _ _ ?_)
      clear _hK_14
      refine W_seq fun _K_18 _hK_18 => ?_
      refine W_region ?_
      refine WL_step rfl rfl (r_move rfl) ?_
      refine WL_step rfl rfl (r_lss rfl rfl) ?_
      refine WL_nil ?_
      refine thn_nrm (_hK_18 _ _ ?_)
      clear _hK_18
      refine W_cond rfl (fun _h25 => ?_) (fun _h25 => ?_)
      · have _kb_19 := _h25
        have _h25 := bt_d _h25
        refine W_seq fun _K_20 _hK_20 => ?_
        refine W_region ?_
        refine WL_step rfl rfl (r_assign rfl) ?_
        refine WL_nil ?_
        refine thn_nrm (_hK_20 _ _ ?_)
        clear _hK_20
        refine W_ret (inB_ret (thn_ret (thn_ret (inB_ret (thn_ret ?_)))))
        clear _hK_7 _hK_13
        exact ret_intro [_] ⟨rfl, trivial⟩ ⟨congrArg (Value.int .i64) (if_pos (by have _h9 := fl_le _hys20; omega)).symm, E⟩
      · have _kb_19 := _h25
        have _h25 := bf_d _h25
        refine W_skip ?_
        refine inB_nrm ?_
        refine thn_nrm (_hK_13 _ _ ?_)
        clear _hK_13
        refine W_region ?_
        refine WL_step rfl rfl (r_move rfl) ?_
        refine WL_step rfl rfl (r_add (by omega) rfl rfl) ?_
        refine WL_step rfl rfl (r_assign rfl) ?_
        refine WL_nil ?_
        exact thn_nrm (Exists.intro ((k + 1), if m < _ys20.length then -1 else m - _ys20.length) ⟨⟨E, (by omega), (by omega), (by have _h9 := fl_add _hys20; omega), (by omega)⟩, Sub.cons rfl (Sub.cons rfl (Sub.cons rfl (Sub.nil _))), (by first | omega | (dsimp only; omega))⟩)
    · have _kb_12 := _h15
      have _h15 := bf_d _h15
      refine W_exit (thn_exit (thn_exit (inB_hit ?_)))
      refine thn_nrm (_hK_7 _ _ ?_)
      clear _hK_7
      refine W_seq fun _K_21 _hK_21 => ?_
      refine W_region ?_
      refine WL_step rfl rfl (r_move rfl) ?_
      refine WL_step rfl rfl (r_assign rfl) ?_
      refine WL_nil ?_
      refine thn_nrm (_hK_21 _ _ ?_)
      clear _hK_21
      refine W_ret ?_
      clear _hK_10
      exact ret_intro [_] ⟨rfl, trivial⟩ ⟨congrArg (Value.int .i64) (by have _h9 := fl_take (show a.length ≤ k by omega); omega), E⟩

/-- laws.szAutomaton -/
theorem c_laws_szAutomaton {w : World} (aS : Int) {LL_aA _B_aA : Nat} {_v_aA : Value} {aA : List Bool} (_h_aA : Ls bcs 1 w LL_aA _B_aA _v_aA aA) {LL_saN _B_saN : Nat} {_v_saN : Value} {saN : List Sv} (_h_saN : Ls Sv.cs 1 w LL_saN _B_saN _v_saN saN) {LR_aN BB_aN : Nat} {aN : List (List Int)} (_rd_aN : Rd ics 1 w LR_aN BB_aN saN aN) (left : Int) (hl : left ≤ 1048576) (_h0 : 0 ≤ left) :
    Ctr Try.prog 16 #[(.agg #[(.int .i64 aS), _v_aA, _v_saN]), (.int .i64 left)] w (fun v w' => v = .int .i64 (if left < aA.length + aN.length + aN.flatten.length then -1 else left - aA.length - aN.length - aN.flatten.length) ∧ Ch [] w w') := by
  obtain ⟨_A_aA, _C_aA, _e1_aA⟩ := _h_aA.val
  subst _e1_aA
  have _l_aA := _h_aA.len
  have _h_aA := _h_aA.here (by decide)
  obtain ⟨_A_saN, _C_saN, _e1_saN⟩ := _h_saN.val
  subst _e1_saN
  have _l_saN := _h_saN.len
  have _h_saN := _h_saN.here (by decide)
  have _rd_aN := _rd_aN.here (by decide)
  have _rl_aN := _rd_aN.1
  have E := Ch.refl [] w
  refine Ctr_of_W (N := 18) (vs0 := [(.agg #[(.int .i64 aS), (.slice _A_aA aA.length _C_aA), (.slice _A_saN saN.length _C_saN)]), (.int .i64 left)]) Try.func16 rfl rfl rfl ?_
  refine W_seq fun _K_1 _hK_1 => ?_
  refine W_region ?_
  refine WL_s rfl rfl ?_
  refine s_box rfl fun _b2 _w_2 _m2 _cw_2 _e2 => ?_
  have _cw_2z := _cw_2.size
  have E := E.trans _cw_2
  have _z2 := _m2.lt
  replace _m2 : Blk _w_2 _b2 39 [(.int .i64 aS), (.slice _A_aA aA.length _C_aA), (.slice _A_saN saN.length _C_saN)] := _m2
  refine WL_step rfl rfl (r_assign rfl) ?_
  refine WL_nil ?_
  refine thn_nrm (_hK_1 _ _ ?_)
  clear _hK_1
  refine W_seq fun _K_3 _hK_3 => ?_
  refine W_region ?_
  refine WL_step rfl rfl (r_fieldAddr fa39_1 rfl) ?_
  refine WL_step rfl rfl (r_loadAt _m2.at_ agg37 rfl rfl) ?_
  refine WL_step rfl rfl (r_move rfl) ?_
  refine WL_s rfl rfl ?_
  have _f_4 := (_h_aA.ch0 _cw_2)
  refine Step.call (r_call (xs := [.tmp 6, .tmp 7]) fk58 rfl) (c_laws_szBoolS _f_4 _ (by omega) (by omega)) fun _v8 _w_5 _q8 => ?_
  obtain ⟨rfl, _cw_5⟩ := _q8
  have _cw_5z := _cw_5.size
  have E := E.trans _cw_5
  refine WL_step rfl rfl (r_assign rfl) ?_
  refine WL_nil ?_
  refine thn_nrm (_hK_3 _ _ ?_)
  clear _hK_3
  refine W_seq fun _K_6 _hK_6 => ?_
  refine W_seq fun _K_7 _hK_7 => ?_
  refine W_region ?_
  refine WL_step rfl rfl (r_move rfl) ?_
  refine WL_step rfl rfl (r_lss rfl rfl) ?_
  refine WL_nil ?_
  refine thn_nrm (_hK_7 _ _ ?_)
  clear _hK_7
  refine W_cond rfl (fun _h10 => ?_) (fun _h10 => ?_)
  · have _kb_8 := _h10
    have _h10 := bt_d _h10
    refine W_seq fun _K_9 _hK_9 => ?_
    refine W_region ?_
    refine WL_step rfl rfl (r_assign rfl) ?_
    refine WL_nil ?_
    refine thn_nrm (_hK_9 _ _ ?_)
    clear _hK_9
    refine W_ret (thn_ret ?_)
    clear _hK_6
    exact ret_intro [_] ⟨rfl, trivial⟩ ⟨congrArg (Value.int .i64) (by omega), E⟩
  · have _kb_8 := _h10
    have _h10 := bf_d _h10
    refine W_skip ?_
    refine thn_nrm (_hK_6 _ _ ?_)
    clear _hK_6
    refine W_seq fun _K_10 _hK_10 => ?_
    refine W_region ?_
    refine WL_step rfl rfl (r_fieldAddr fa39_2 rfl) ?_
    have _f_11 := (_m2.ch0 _cw_5)
    refine WL_step rfl rfl (r_loadAt _f_11.at_ agg26 rfl rfl) ?_
    refine WL_step rfl rfl (r_move rfl) ?_
    refine WL_s rfl rfl ?_
    have _f_12 := ((_rd_aN.ch0 _cw_2).ch0 _cw_5)
    have _f_13 := ((_h_saN.ch0 _cw_2).ch0 _cw_5)
    refine Step.call (r_call (xs := [.tmp 12, .tmp 13]) fk59 rfl) (c_laws_szIntSS _f_13 _f_12 _ (by omega) (by omega)) fun _v14 _w_14 _q14 => ?_
    obtain ⟨rfl, _cw_14⟩ := _q14
    have _cw_14z := _cw_14.size
    have E := E.trans _cw_14
    refine WL_step rfl rfl (r_assign rfl) ?_
    refine WL_nil ?_
    refine thn_nrm (_hK_10 _ _ ?_)
    clear _hK_10
    refine W_seq fun _K_15 _hK_15 => ?_
    refine W_seq fun _K_16 _hK_16 => ?_
    refine W_region ?_
    refine WL_step rfl rfl (r_move rfl) ?_
    refine WL_step rfl rfl (r_lss rfl rfl) ?_
    refine WL_nil ?_
    refine thn_nrm (_hK_16 _ _ ?_)
    clear _hK_16
    refine W_cond rfl (fun _h16 => ?_) (fun _h16 => ?_)
    · have _kb_17 := _h16
      have _h16 := bt_d _h16
      refine W_seq fun _K_18 _hK_18 => ?_
      refine W_region ?_
      refine WL_step rfl rfl (r_assign rfl) ?_
      refine WL_nil ?_
      refine thn_nrm (_hK_18 _ _ ?_)
      clear _hK_18
      refine W_ret (thn_ret ?_)
      clear _hK_15
      exact ret_intro [_] ⟨rfl, trivial⟩ ⟨congrArg (Value.int .i64) (by omega), E⟩
    · have _kb_17 := _h16
      have _h16 := bf_d _h16
      refine W_skip ?_
      refine thn_nrm (_hK_15 _ _ ?_)
      clear _hK_15
      refine W_seq fun _K_19 _hK_19 => ?_
      refine W_region ?_
      refine WL_step rfl rfl (r_move rfl) ?_
      refine WL_step rfl rfl (r_assign rfl) ?_
      refine WL_nil ?_
      refine thn_nrm (_hK_19 _ _ ?_)
      clear _hK_19
      refine W_ret ?_
      exact ret_intro [_] ⟨rfl, trivial⟩ ⟨congrArg (Value.int .i64) (by omega), E⟩

/-- laws.toBoolS -/
theorem c_laws_toBoolS {w : World} {LL_a _B_a : Nat} {_v_a : Value} {a : List Bool} (_h_a : Ls bcs 1 w LL_a _B_a _v_a a) (hb : a.length ≤ 1048576) :
    Ctr Try.prog 63 #[_v_a] w (fun v w' => Ol bcs 4 1 w' v (a) ∧ Lo w.heap.size v ∧ Ch [] w w') := by
  obtain ⟨_A_a, _C_a, _e1_a⟩ := _h_a.val
  subst _e1_a
  have _l_a := _h_a.len
  have _h_a := _h_a.here (by decide)
  have E := Ch.refl [] w
  refine Ctr_of_W (N := 22) (vs0 := [(.slice _A_a a.length _C_a)]) Try.func63 rfl rfl rfl ?_
  refine W_seq fun _K_1 _hK_1 => ?_
  refine W_region ?_
  refine WL_step rfl rfl (r_assign rfl) ?_
  refine WL_nil ?_
  refine thn_nrm (_hK_1 _ _ ?_)
  clear _hK_1
  refine W_seq fun _K_2 _hK_2 => ?_
  refine W_region ?_
  refine WL_step rfl rfl (r_move rfl) ?_
  refine WL_step rfl rfl (r_len (by rw [el37]; rfl) rfl) ?_
  refine WL_s rfl rfl ?_
  refine s_make (cs := bcs) false el37 sz4 by4 zr4 bcs_len (by decide) rfl rfl (by omega) (by omega) fun _v7 _w_3 _q7 _lo7 _cw_3 => ?_
  have _cw_3z := _cw_3.size
  have E := E.trans _cw_3
  obtain ⟨_Av7, _Cv7, _ev7⟩ := _q7.val
  subst _ev7
  have _lv7 := _q7.len
  have _hiv7 := _q7.lt
  refine WL_step rfl rfl (r_assign rfl) ?_
  refine WL_nil ?_
  refine thn_nrm (_hK_2 _ _ ?_)
  clear _hK_2
  refine W_seq fun _K_4 _hK_4 => ?_
  refine W_seq fun _K_5 _hK_5 => ?_
  refine W_region ?_
  refine WL_step rfl rfl (r_assign rfl) ?_
  refine WL_nil ?_
  refine thn_nrm (_hK_5 _ _ ?_)
  clear _hK_5
  refine W_block ?_
  have _oi_6 : Ol bcs 4 1 _w_3 (.slice _Av7 ((List.replicate a.length false)).length _Cv7) (a.take 0 ++ List.replicate (a.length - 0) false) := by
    have hx := _q7
    simpa using hx
  refine W_loop (σ := Nat) (fun (k : Nat) => [(0, (.slice _A_a a.length _C_a)), (2, (.slice none 0 0)), (3, (.slice _Av7 ((List.replicate a.length false)).length _Cv7)), (4, (.int .i64 ((k : Nat) : Int)))]) (fun (k : Nat) wx => Ch [] w wx ∧ _w_3.heap.size ≤ wx.heap.size ∧ (k ≤ a.length) ∧ Ol bcs 4 1 wx (.slice _Av7 ((List.replicate a.length false)).length _Cv7) (a.take k ++ List.replicate (a.length - k) false)) (fun (k : Nat) => a.length - k) 0 (Sub.cons rfl (Sub.cons rfl (Sub.cons rfl (Sub.cons rfl (Sub.nil _))))) ⟨E, (Nat.le_refl _), (by omega), _oi_6⟩ ?_
  rintro k _wr_7 ⟨E, _zz0, _hk, _o0_3⟩
  have _E0h := E
  have _E0hz := _E0h.size
  refine W_seq fun _K_8 _hK_8 => ?_
  refine W_seq fun _K_9 _hK_9 => ?_
  refine W_region ?_
  refine WL_step rfl rfl (r_move rfl) ?_
  refine WL_step rfl rfl (r_move rfl) ?_
  refine WL_step rfl rfl (r_len (by rw [el37]; rfl) rfl) ?_
  refine WL_step rfl rfl (r_lss rfl rfl) ?_
  refine WL_nil ?_
  refine thn_nrm (_hK_9 _ _ ?_)
  clear _hK_9
  refine W_cond rfl (fun _h11 => ?_) (fun _h11 => ?_)
  · have _kb_10 := _h11
    have _h11 := bt_d _h11
    refine W_skip ?_
    refine thn_nrm (_hK_8 _ _ ?_)
    clear _hK_8
    refine W_seq fun _K_11 _hK_11 => ?_
    refine W_block ?_
    refine W_region ?_
    refine WL_step rfl rfl (r_move rfl) ?_
    refine WL_step rfl rfl (r_move rfl) ?_
    refine WL_step rfl rfl (r_move rfl) ?_
    refine WL_step rfl rfl (r_move rfl) ?_
    refine WL_s rfl rfl ?_
    have _f_12 := (_h_a.ch0 _E0h)
    refine (s_index _f_12 bcs_len el37 sz4 rfl rfl rfl (by omega) fun _p18 _y18 _hy18 _a18 => ?_)
    refine WL_step rfl rfl (r_loadAt0 _a18 agg4 rfl rfl) ?_
    refine WL_s rfl rfl ?_
    refine s_indexO (j := k) _o0_3 el37 sz4 rfl rfl rfl (by simp; omega) fun _g20 _o20 _cp20 _q20 => ?_
    refine WL_s rfl rfl ?_
    refine s_storeO (j := k) _y18 _o0_3 _q20 bcs_len sz4 rfl rfl rfl rfl (by simp; omega) fun _w_13 _o_14 _cw_13 => ?_
    have _cw_13z := _cw_13.size
    have E := E.step _cw_13 (fun i hi => .inl (by have _h1 := _lo7 _ hi; omega))
    refine WL_nil ?_
    refine inB_nrm ?_
    refine thn_nrm (_hK_11 _ _ ?_)
    clear _hK_11
    refine W_region ?_
    refine WL_step rfl rfl (r_move rfl) ?_
    refine WL_step rfl rfl (r_add (by omega) rfl rfl) ?_
    refine WL_step rfl rfl (r_assign rfl) ?_
    refine WL_nil ?_
    have _on_15 : Ol bcs 4 1 _w_13 (.slice _Av7 ((List.replicate a.length false)).length _Cv7) (a.take (k + 1) ++ List.replicate (a.length - (k + 1)) false) := by
      have hx := _o_14
      rwa [fill_step a false _hy18] at hx
    exact thn_nrm (Exists.intro (k + 1) ⟨⟨E, (by omega), (by omega), _on_15⟩, Sub.cons rfl (Sub.cons rfl (Sub.cons rfl (Sub.cons rfl (Sub.nil _)))), (by first | omega | (dsimp only; omega))⟩)
  · have _kb_10 := _h11
    have _h11 := bf_d _h11
    refine W_exit (thn_exit (thn_exit (inB_hit ?_)))
    refine thn_nrm (_hK_4 _ _ ?_)
    clear _hK_4
    refine W_seq fun _K_16 _hK_16 => ?_
    refine W_region ?_
    refine WL_step rfl rfl (r_move rfl) ?_
    refine WL_step rfl rfl (r_assign rfl) ?_
    refine WL_nil ?_
    refine thn_nrm (_hK_16 _ _ ?_)
    clear _hK_16
    refine W_ret ?_
    clear _hK_8
    have _o_17 : Ol bcs 4 1 _wr_7 (.slice _Av7 ((List.replicate a.length false)).length _Cv7) (a) := by
      have hx := _o0_3
      simpa [List.take_of_length_le (show a.length ≤ k by omega), show a.length - k = 0 by omega] using hx
    exact ret_intro [_] ⟨rfl, trivial⟩ ⟨_o_17, Lo.down _lo7 (by omega), E⟩

/-- laws.toIntS -/
theorem c_laws_toIntS {w : World} {LL_a _B_a : Nat} {_v_a : Value} {a : List Int} (_h_a : Ls ics 1 w LL_a _B_a _v_a a) (hb : a.length ≤ 1048576) :
    Ctr Try.prog 78 #[_v_a] w (fun v w' => Ol ics 3 1 w' v (a) ∧ Lo w.heap.size v ∧ Ch [] w w') := by
  obtain ⟨_A_a, _C_a, _e1_a⟩ := _h_a.val
  subst _e1_a
  have _l_a := _h_a.len
  have _h_a := _h_a.here (by decide)
  have E := Ch.refl [] w
  refine Ctr_of_W (N := 22) (vs0 := [(.slice _A_a a.length _C_a)]) Try.func78 rfl rfl rfl ?_
  refine W_seq fun _K_1 _hK_1 => ?_
  refine W_region ?_
  refine WL_step rfl rfl (r_assign rfl) ?_
  refine WL_nil ?_
  refine thn_nrm (_hK_1 _ _ ?_)
  clear _hK_1
  refine W_seq fun _K_2 _hK_2 => ?_
  refine W_region ?_
  refine WL_step rfl rfl (r_move rfl) ?_
  refine WL_step rfl rfl (r_len (by rw [el46]; rfl) rfl) ?_
  refine WL_s rfl rfl ?_
  refine s_make (cs := ics) (0 : Int) el46 sz3 by3 zr3 ics_len (by decide) rfl rfl (by omega) (by omega) fun _v7 _w_3 _q7 _lo7 _cw_3 => ?_
  have _cw_3z := _cw_3.size
  have E := E.trans _cw_3
  obtain ⟨_Av7, _Cv7, _ev7⟩ := _q7.val
  subst _ev7
  have _lv7 := _q7.len
  have _hiv7 := _q7.lt
  refine WL_step rfl rfl (r_assign rfl) ?_
  refine WL_nil ?_
  refine thn_nrm (_hK_2 _ _ ?_)
  clear _hK_2
  refine W_seq fun _K_4 _hK_4 => ?_
  refine W_seq fun _K_5 _hK_5 => ?_
  refine W_region ?_
  refine WL_step rfl rfl (r_assign rfl) ?_
  refine WL_nil ?_
  refine thn_nrm (_hK_5 _ _ ?_)
  clear _hK_5
  refine W_block ?_
  have _oi_6 : Ol ics 3 1 _w_3 (.slice _Av7 ((List.replicate a.length (0 : Int))).length _Cv7) (a.take 0 ++ List.replicate (a.length - 0) (0 : Int)) := by
    have hx := _q7
    simpa using hx
  refine W_loop (σ := Nat) (fun (k : Nat) => [(0, (.slice _A_a a.length _C_a)), (2, (.slice none 0 0)), (3, (.slice _Av7 ((List.replicate a.length (0 : Int))).length _Cv7)), (4, (.int .i64 ((k : Nat) : Int)))]) (fun (k : Nat) wx => Ch [] w wx ∧ _w_3.heap.size ≤ wx.heap.size ∧ (k ≤ a.length) ∧ Ol ics 3 1 wx (.slice _Av7 ((List.replicate a.length (0 : Int))).length _Cv7) (a.take k ++ List.replicate (a.length - k) (0 : Int))) (fun (k : Nat) => a.length - k) 0 (Sub.cons rfl (Sub.cons rfl (Sub.cons rfl (Sub.cons rfl (Sub.nil _))))) ⟨E, (Nat.le_refl _), (by omega), _oi_6⟩ ?_
  rintro k _wr_7 ⟨E, _zz0, _hk, _o0_3⟩
  have _E0h := E
  have _E0hz := _E0h.size
  refine W_seq fun _K_8 _hK_8 => ?_
  refine W_seq fun _K_9 _hK_9 => ?_
  refine W_region ?_
  refine WL_step rfl rfl (r_move rfl) ?_
  refine WL_step rfl rfl (r_move rfl) ?_
  refine WL_step rfl rfl (r_len (by rw [el46]; rfl) rfl) ?_
  refine WL_step rfl rfl (r_lss rfl rfl) ?_
  refine WL_nil ?_
  refine thn_nrm (_hK_9 _ _ ?_)
  clear _hK_9
  refine W_cond rfl (fun _h11 => ?_) (fun _h11 => ?_)
  · have _kb_10 := _h11
    have _h11 := bt_d _h11
    refine W_skip ?_
    refine thn_nrm (_hK_8 _ _ ?_)
    clear _hK_8
    refine W_seq fun _K_11 _hK_11 => ?_
    refine W_block ?_
    refine W_region ?_
    refine WL_step rfl rfl (r_move rfl) ?_
    refine WL_step rfl rfl (r_move rfl) ?_
    refine WL_step rfl rfl (r_move rfl) ?_
    refine WL_step rfl rfl (r_move rfl) ?_
    refine WL_s rfl rfl ?_
    have _f_12 := (_h_a.ch0 _E0h)
    refine (s_index _f_12 ics_len el46 sz3 rfl rfl rfl (by omega) fun _p18 _y18 _hy18 _a18 => ?_)
    refine WL_step rfl rfl (r_loadAt0 _a18 agg3 rfl rfl) ?_
    refine WL_s rfl rfl ?_
    refine s_indexO (j := k) _o0_3 el46 sz3 rfl rfl rfl (by simp; omega) fun _g20 _o20 _cp20 _q20 => ?_
    refine WL_s rfl rfl ?_
    refine s_storeO (j := k) _y18 _o0_3 _q20 ics_len sz3 rfl rfl rfl rfl (by simp; omega) fun _w_13 _o_14 _cw_13 => ?_
    have _cw_13z := _cw_13.size
    have E := E.step _cw_13 (fun i hi => .inl (by have _h1 := _lo7 _ hi; omega))
    refine WL_nil ?_
    refine inB_nrm ?_
    refine thn_nrm (_hK_11 _ _ ?_)
    clear _hK_11
    refine W_region ?_
    refine WL_step rfl rfl (r_move rfl) ?_
    refine WL_step rfl rfl (r_add (by omega) rfl rfl) ?_
    refine WL_step rfl rfl (r_assign rfl) ?_
    refine WL_nil ?_
    have _on_15 : Ol ics 3 1 _w_13 (.slice _Av7 ((List.replicate a.length (0 : Int))).length _Cv7) (a.take (k + 1) ++ List.replicate (a.length - (k + 1)) (0 : Int)) := by
      have hx := _o_14
      rwa [fill_step a (0 : Int) _hy18] at hx
    exact thn_nrm (Exists.intro (k + 1) ⟨⟨E, (by omega), (by omega), _on_15⟩, Sub.cons rfl (Sub.cons rfl (Sub.cons rfl (Sub.cons rfl (Sub.nil _)))), (by first | omega | (dsimp only; omega))⟩)
  · have _kb_10 := _h11
    have _h11 := bf_d _h11
    refine W_exit (thn_exit (thn_exit (inB_hit ?_)))
    refine thn_nrm (_hK_4 _ _ ?_)
    clear _hK_4
    refine W_seq fun _K_16 _hK_16 => ?_
    refine W_region ?_
    refine WL_step rfl rfl (r_move rfl) ?_
    refine WL_step rfl rfl (r_assign rfl) ?_
    refine WL_nil ?_
    refine thn_nrm (_hK_16 _ _ ?_)
    clear _hK_16
    refine W_ret ?_
    clear _hK_8
    have _o_17 : Ol ics 3 1 _wr_7 (.slice _Av7 ((List.replicate a.length (0 : Int))).length _Cv7) (a) := by
      have hx := _o0_3
      simpa [List.take_of_length_le (show a.length ≤ k by omega), show a.length - k = 0 by omega] using hx
    exact ret_intro [_] ⟨rfl, trivial⟩ ⟨_o_17, Lo.down _lo7 (by omega), E⟩

/-- laws.toIntSS -/
theorem c_laws_toIntSS {w : World} {LL_sa _B_sa : Nat} {_v_sa : Value} {sa : List Sv} (_h_sa : Ls Sv.cs 1 w LL_sa _B_sa _v_sa sa) {LR_a BB_a : Nat} {a : List (List Int)} (_rd_a : Rd ics 1 w LR_a BB_a sa a) (hb : a.length + a.flatten.length ≤ 1048576) :
    Ctr Try.prog 64 #[_v_sa] w (fun v w' => ∃ (_u0 : Value) (vs0 : List Sv), v = _u0 ∧ Ol Sv.cs 46 1 w' _u0 vs0 ∧ Lo w.heap.size _u0 ∧ Od ics 3 1 w' w.heap.size w'.heap.size vs0 (a) ∧ Sep _u0 vs0 ∧ Ch [] w w') := by
  obtain ⟨_A_sa, _C_sa, _e1_sa⟩ := _h_sa.val
  subst _e1_sa
  have _l_sa := _h_sa.len
  have _h_sa := _h_sa.here (by decide)
  have _rd_a := _rd_a.here (by decide)
  have _rl_a := _rd_a.1
  have E := Ch.refl [] w
  refine Ctr_of_W (N := 23) (vs0 := [(.slice _A_sa sa.length _C_sa)]) Try.func64 rfl rfl rfl ?_
  refine W_seq fun _K_1 _hK_1 => ?_
  refine W_region ?_
  refine WL_step rfl rfl (r_assign rfl) ?_
  refine WL_nil ?_
  refine thn_nrm (_hK_1 _ _ ?_)
  clear _hK_1
  refine W_seq fun _K_2 _hK_2 => ?_
  refine W_region ?_
  refine WL_step rfl rfl (r_move rfl) ?_
  refine WL_step rfl rfl (r_len (by rw [el26]; rfl) rfl) ?_
  refine WL_s rfl rfl ?_
  refine s_make (cs := Sv.cs) (⟨none, 0, 0⟩ : Sv) el26 sz46 by46 zr46 Sv.len (by decide) rfl rfl (by omega) (by omega) fun _v7 _w_3 _q7 _lo7 _cw_3 => ?_
  have _cw_3z := _cw_3.size
  have E := E.trans _cw_3
  obtain ⟨_Av7, _Cv7, _ev7⟩ := _q7.val
  subst _ev7
  have _lv7 := _q7.len
  have _hiv7 := _q7.lt
  refine WL_step rfl rfl (r_assign rfl) ?_
  refine WL_nil ?_
  refine thn_nrm (_hK_2 _ _ ?_)
  clear _hK_2
  refine W_seq fun _K_4 _hK_4 => ?_
  refine W_seq fun _K_5 _hK_5 => ?_
  refine W_region ?_
  refine WL_step rfl rfl (r_assign rfl) ?_
  refine WL_nil ?_
  refine thn_nrm (_hK_5 _ _ ?_)
  clear _hK_5
  refine W_block ?_
  have _oi_6 : Ol Sv.cs 46 1 _w_3 (.slice _Av7 ((List.replicate sa.length (⟨none, 0, 0⟩ : Sv))).length _Cv7) (([] : List Sv) ++ List.replicate (a.length - 0) (⟨none, 0, 0⟩ : Sv)) := by
    have hx := _q7
    simpa [_rl_a] using hx
  refine W_loop (σ := Nat × List Sv) (fun ⟨k, vs⟩ => [(0, (.slice _A_sa sa.length _C_sa)), (2, (.slice none 0 0)), (3, (.slice _Av7 ((List.replicate sa.length (⟨none, 0, 0⟩ : Sv))).length _Cv7)), (4, (.int .i64 ((k : Nat) : Int)))]) (fun ⟨k, vs⟩ wx => Ch [] w wx ∧ _w_3.heap.size ≤ wx.heap.size ∧ (k ≤ a.length) ∧ (vs.length = k) ∧ Ol Sv.cs 46 1 wx (.slice _Av7 ((List.replicate sa.length (⟨none, 0, 0⟩ : Sv))).length _Cv7) (vs ++ List.replicate (a.length - k) (⟨none, 0, 0⟩ : Sv)) ∧ Od ics 3 1 wx _w_3.heap.size wx.heap.size vs (a.take k)) (fun ⟨k, vs⟩ => a.length - k) (0, ([] : List Sv)) (Sub.cons rfl (Sub.cons rfl (Sub.cons rfl (Sub.cons rfl (Sub.nil _))))) ⟨E, (Nat.le_refl _), (by omega), rfl, _oi_6, Od.nil⟩ ?_
  rintro ⟨k, vs⟩ _wr_7 ⟨E, _zz0, _hk, hv, _o0_3, od⟩
  have _E0h := E
  have _E0hz := _E0h.size
  refine W_seq fun _K_8 _hK_8 => ?_
  refine W_seq fun _K_9 _hK_9 => ?_
  refine W_region ?_
  refine WL_step rfl rfl (r_move rfl) ?_
  refine WL_step rfl rfl (r_move rfl) ?_
  refine WL_step rfl rfl (r_len (by rw [el26]; rfl) rfl) ?_
  refine WL_step rfl rfl (r_lss rfl rfl) ?_
  refine WL_nil ?_
  refine thn_nrm (_hK_9 _ _ ?_)
  clear _hK_9
  refine W_cond rfl (fun _h11 => ?_) (fun _h11 => ?_)
  · have _kb_10 := _h11
    have _h11 := bt_d _h11
    refine W_skip ?_
    refine thn_nrm (_hK_8 _ _ ?_)
    clear _hK_8
    refine W_seq fun _K_11 _hK_11 => ?_
    refine W_block ?_
    refine W_region ?_
    refine WL_step rfl rfl (r_move rfl) ?_
    refine WL_step rfl rfl (r_move rfl) ?_
    refine WL_step rfl rfl (r_move rfl) ?_
    refine WL_step rfl rfl (r_move rfl) ?_
    refine WL_s rfl rfl ?_
    have _f_12 := (_h_sa.ch0 _E0h)
    refine (s_index _f_12 Sv.len el26 sz46 rfl rfl rfl (by omega) fun _p18 _y18 _hy18 _a18 => ?_)
    have _f_13 := (_rd_a.ch0 _E0h)
    obtain ⟨_ys18, _hys18, _fs18⟩ := _f_13.get _hy18
    obtain ⟨_A18, _n18, _C18⟩ := _y18
    obtain rfl := _fs18.eqn
    have _l18 := _fs18.len
    replace _fs18 : Ls ics 1 _wr_7 LR_a w.heap.size (.slice _A18 _ys18.length _C18) _ys18 := _fs18
    replace _a18 : At _wr_7 LL_sa w.heap.size _p18 ([(.slice _A18 _ys18.length _C18)]) := _a18
    refine WL_step rfl rfl (r_loadAt0 _a18 agg46 rfl rfl) ?_
    refine WL_s rfl rfl ?_
    refine Step.call (r_call (xs := [.tmp 19]) fk78 rfl) (c_laws_toIntS _fs18 (by have _h9 := fl_le _hys18; omega)) fun _v20 _w_14 _q20 => ?_
    obtain ⟨_q20, _lo20, _cw_14⟩ := _q20
    have _cw_14z := _cw_14.size
    have E := E.trans _cw_14
    obtain ⟨_Av20, _Cv20, _ev20⟩ := _q20.val
    subst _ev20
    have _lv20 := _q20.len
    have _hiv20 := _q20.lt
    refine WL_s rfl rfl ?_
    have _f_15 := (_o0_3.ch0 _cw_14)
    refine s_indexO (j := k) _f_15 el26 sz46 rfl rfl rfl (by simp; omega) fun _g21 _o21 _cp21 _q21 => ?_
    refine WL_s rfl rfl ?_
    refine s_storeO (j := k) (⟨_Av20, (_ys18).length, _Cv20⟩ : Sv) _f_15 _q21 Sv.len sz46 rfl rfl rfl rfl (by simp; omega) fun _w_16 _o_17 _cw_16 => ?_
    have _cw_16z := _cw_16.size
    have E := E.step _cw_16 (fun i hi => .inl (by have _h1 := _lo7 _ hi; omega))
    refine WL_nil ?_
    refine inB_nrm ?_
    refine thn_nrm (_hK_11 _ _ ?_)
    clear _hK_11
    refine W_region ?_
    refine WL_step rfl rfl (r_move rfl) ?_
    refine WL_step rfl rfl (r_add (by omega) rfl rfl) ?_
    refine WL_step rfl rfl (r_assign rfl) ?_
    refine WL_nil ?_
    have _on_18 : Ol Sv.cs 46 1 _w_16 (.slice _Av7 ((List.replicate sa.length (⟨none, 0, 0⟩ : Sv))).length _Cv7) ((vs ++ [(⟨_Av20, (_ys18).length, _Cv20⟩ : Sv)]) ++ List.replicate (a.length - (k + 1)) (⟨none, 0, 0⟩ : Sv)) := by
      have hx := _o_17
      rwa [fill_sv hv (by omega)] at hx
    have _f_19 := ((od.ch0 _cw_14).ch _cw_16 (fun i hm => by have _h1 := _lo7 _ hm; have _h2 := _hiv7 _ hm; omega))
    have _f_20 := (_q20.ch _cw_16 (fun g hg hm => by have _h1 := _lo7 _ hm; have _h2 := _hiv7 _ hm; have _h3 := _lo20 _ hg; have _h4 := _hiv20 _ hg; omega))
    exact thn_nrm (Exists.intro ((k + 1), (vs ++ [(⟨_Av20, (_ys18).length, _Cv20⟩ : Sv)])) ⟨⟨E, (by omega), (by omega), (by simp [hv]), _on_18, (by rw [take_snoc _hys18]; exact Od.snoc _f_19 _f_20 (Lo.down _lo20 (by omega)) (fun g hg => by have _h1 := _hiv20 g hg; omega) (by omega) (by omega))⟩, Sub.cons rfl (Sub.cons rfl (Sub.cons rfl (Sub.cons rfl (Sub.nil _)))), (by first | omega | (dsimp only; omega))⟩)
  · have _kb_10 := _h11
    have _h11 := bf_d _h11
    refine W_exit (thn_exit (thn_exit (inB_hit ?_)))
    refine thn_nrm (_hK_4 _ _ ?_)
    clear _hK_4
    refine W_seq fun _K_21 _hK_21 => ?_
    refine W_region ?_
    refine WL_step rfl rfl (r_move rfl) ?_
    refine WL_step rfl rfl (r_assign rfl) ?_
    refine WL_nil ?_
    refine thn_nrm (_hK_21 _ _ ?_)
    clear _hK_21
    refine W_ret ?_
    clear _hK_8
    have _o_22 : Ol Sv.cs 46 1 _wr_7 (.slice _Av7 ((List.replicate sa.length (⟨none, 0, 0⟩ : Sv))).length _Cv7) vs := by
      have hx := _o0_3
      simpa [show a.length - k = 0 by omega, show sa.length - k = 0 by omega] using hx
    have _o_23 : Od ics 3 1 _wr_7 w.heap.size _wr_7.heap.size vs (a) := by
      have hx := od.up (lo' := w.heap.size) (hi' := _wr_7.heap.size) (by omega) (by omega)
      rwa [List.take_of_length_le (by omega)] at hx
    exact ret_intro [_] ⟨rfl, trivial⟩ ⟨(.slice _Av7 ((List.replicate sa.length (⟨none, 0, 0⟩ : Sv))).length _Cv7), vs, rfl, _o_22, (Lo.down _lo7 (by omega)), _o_23, (Od.sepO od (fun g hm => by have _h1 := _lo7 _ hm; have _h2 := _hiv7 _ hm; omega)), E⟩

/-- laws.toAutomaton -/
theorem c_laws_toAutomaton {w : World} (aS : Int) {LL_aA _B_aA : Nat} {_v_aA : Value} {aA : List Bool} (_h_aA : Ls bcs 1 w LL_aA _B_aA _v_aA aA) {LL_saN _B_saN : Nat} {_v_saN : Value} {saN : List Sv} (_h_saN : Ls Sv.cs 1 w LL_saN _B_saN _v_saN saN) {LR_aN BB_aN : Nat} {aN : List (List Int)} (_rd_aN : Rd ics 1 w LR_aN BB_aN saN aN) (hb : aA.length + aN.length + aN.flatten.length ≤ 1048576) :
    Ctr Try.prog 18 #[(.agg #[(.int .i64 aS), _v_aA, _v_saN])] w (fun v w' => ∃ (u0x1 : Value) (u0x2 : Value) (vs0x2 : List Sv), v = .agg #[.int .i64 aS, u0x1, u0x2] ∧ Ol bcs 4 1 w' u0x1 (aA) ∧ Lo w.heap.size u0x1 ∧ Ol Sv.cs 46 1 w' u0x2 vs0x2 ∧ Lo w.heap.size u0x2 ∧ Od ics 3 1 w' w.heap.size w'.heap.size vs0x2 (aN) ∧ Sep u0x2 vs0x2 ∧ (∀ g ∈ bl u0x1, g ∉ bl u0x2) ∧ Sep u0x1 vs0x2 ∧ Ch [] w w') := by
  obtain ⟨_A_aA, _C_aA, _e1_aA⟩ := _h_aA.val
  subst _e1_aA
  have _l_aA := _h_aA.len
  have _h_aA := _h_aA.here (by decide)
  obtain ⟨_A_saN, _C_saN, _e1_saN⟩ := _h_saN.val
  subst _e1_saN
  have _l_saN := _h_saN.len
  have _h_saN := _h_saN.here (by decide)
  have _rd_aN := _rd_aN.here (by decide)
  have _rl_aN := _rd_aN.1
  have E := Ch.refl [] w
  refine Ctr_of_W (N := 16) (vs0 := [(.agg #[(.int .i64 aS), (.slice _A_aA aA.length _C_aA), (.slice _A_saN saN.length _C_saN)])]) Try.func18 rfl rfl rfl ?_
  refine W_seq fun _K_1 _hK_1 => ?_
  refine W_region ?_
  refine WL_s rfl rfl ?_
  refine s_box rfl fun _b1 _w_2 _m1 _cw_2 _e1 => ?_
  have _cw_2z := _cw_2.size
  have E := E.trans _cw_2
  have _z1 := _m1.lt
  replace _m1 : Blk _w_2 _b1 39 [(.int .i64 aS), (.slice _A_aA aA.length _C_aA), (.slice _A_saN saN.length _C_saN)] := _m1
  refine WL_s rfl rfl ?_
  refine s_alloc zr42 fun _b2 _w_3 _m2 _cw_3 _e2 => ?_
  have _cw_3z := _cw_3.size
  have E := E.trans _cw_3
  have _z2 := _m2.lt
  replace _m2 : Blk _w_3 _b2 42 [(.int .i64 0), (.slice none 0 0), (.slice none 0 0)] := _m2
  refine WL_nil ?_
  refine thn_nrm (_hK_1 _ _ ?_)
  clear _hK_1
  refine W_seq fun _K_4 _hK_4 => ?_
  refine W_region ?_
  refine WL_s rfl rfl ?_
  refine s_alloc zr42 fun _b3 _w_5 _m3 _cw_5 _e3 => ?_
  have _cw_5z := _cw_5.size
  have E := E.trans _cw_5
  have _z3 := _m3.lt
  replace _m3 : Blk _w_5 _b3 42 [(.int .i64 0), (.slice none 0 0), (.slice none 0 0)] := _m3
  refine WL_nil ?_
  refine thn_nrm (_hK_4 _ _ ?_)
  clear _hK_4
  refine W_seq fun _K_6 _hK_6 => ?_
  refine W_region ?_
  refine WL_step rfl rfl (r_fieldAddr fa39_0 rfl) ?_
  have _f_7 := ((_m1.ch0 _cw_3).ch0 _cw_5)
  refine WL_step rfl rfl (r_loadAt _f_7.at_ agg3 rfl rfl) ?_
  refine WL_step rfl rfl (r_fieldAddr fa42_0 rfl) ?_
  refine WL_s rfl rfl ?_
  refine s_store1 (off := 0) _m3 sz3 rfl rfl rfl rfl fun _w_8 _m_9 _cw_8 => ?_
  have _cw_8z := _cw_8.size
  have E := E.step _cw_8 (fun i hi => .inl (by have _h1 := List.mem_singleton.1 hi; omega))
  replace _m_9 : Blk _w_8 _b3 42 [(.int .i64 aS), (.slice none 0 0), (.slice none 0 0)] := _m_9
  refine WL_nil ?_
  refine thn_nrm (_hK_6 _ _ ?_)
  clear _hK_6
  refine W_seq fun _K_10 _hK_10 => ?_
  refine W_region ?_
  refine WL_step rfl rfl (r_fieldAddr fa39_1 rfl) ?_
  have _f_11 := (_f_7.ch _cw_8 (fun hm => by have _h1 := List.mem_singleton.1 hm; omega))
  refine WL_step rfl rfl (r_loadAt _f_11.at_ agg37 rfl rfl) ?_
  refine WL_s rfl rfl ?_
  have _f_12 := ((((_h_aA.ch0 _cw_2).ch0 _cw_3).ch0 _cw_5).ch _cw_8 (fun i hi => by have _h1 := List.mem_singleton.1 hi; omega))
  refine Step.call (r_call (xs := [.tmp 8]) fk63 rfl) (c_laws_toBoolS _f_12 (by omega)) fun _v9 _w_13 _q9 => ?_
  obtain ⟨_q9, _lo9, _cw_13⟩ := _q9
  have _cw_13z := _cw_13.size
  have E := E.trans _cw_13
  obtain ⟨_Av9, _Cv9, _ev9⟩ := _q9.val
  subst _ev9
  have _lv9 := _q9.len
  have _hiv9 := _q9.lt
  refine WL_step rfl rfl (r_fieldAddr fa42_1 rfl) ?_
  refine WL_s rfl rfl ?_
  have _f_14 := (_m_9.ch0 _cw_13)
  refine s_store1 (off := 1) _f_14 sz37 rfl rfl rfl rfl fun _w_15 _m_16 _cw_15 => ?_
  have _cw_15z := _cw_15.size
  have E := E.step _cw_15 (fun i hi => .inl (by have _h1 := List.mem_singleton.1 hi; omega))
  replace _m_16 : Blk _w_15 _b3 42 [(.int .i64 aS), (.slice _Av9 (aA).length _Cv9), (.slice none 0 0)] := _m_16
  refine WL_nil ?_
  refine thn_nrm (_hK_10 _ _ ?_)
  clear _hK_10
  refine W_seq fun _K_17 _hK_17 => ?_
  refine W_region ?_
  refine WL_step rfl rfl (r_fieldAddr fa39_2 rfl) ?_
  have _f_18 := ((_f_11.ch0 _cw_13).ch _cw_15 (fun hm => by have _h1 := List.mem_singleton.1 hm; omega))
  refine WL_step rfl rfl (r_loadAt _f_18.at_ agg26 rfl rfl) ?_
  refine WL_s rfl rfl ?_
  have _f_19 := ((((((_rd_aN.ch0 _cw_2).ch0 _cw_3).ch0 _cw_5).ch _cw_8 (fun i hi => by have _h1 := List.mem_singleton.1 hi; omega)).ch0 _cw_13).ch _cw_15 (fun i hi => by have _h1 := List.mem_singleton.1 hi; omega))
  have _f_20 := ((((((_h_saN.ch0 _cw_2).ch0 _cw_3).ch0 _cw_5).ch _cw_8 (fun i hi => by have _h1 := List.mem_singleton.1 hi; omega)).ch0 _cw_13).ch _cw_15 (fun i hi => by have _h1 := List.mem_singleton.1 hi; omega))
  refine Step.call (r_call (xs := [.tmp 12]) fk64 rfl) (c_laws_toIntSS _f_20 _f_19 (by omega)) fun _v13 _w_21 _q13 => ?_
  obtain ⟨u13_0, _vs13_0, rfl, _q_u13_0, _lo_u13_0, _od_vs13_0, _sep_vs13_0, _cw_21⟩ := _q13
  have _cw_21z := _cw_21.size
  have E := E.trans _cw_21
  obtain ⟨Au13_0, Cu13_0, eu13_0⟩ := _q_u13_0.val
  subst eu13_0
  have lu13_0 := _q_u13_0.len
  have _hiu13_0 := _q_u13_0.lt
  refine WL_step rfl rfl (r_fieldAddr fa42_2 rfl) ?_
  refine WL_s rfl rfl ?_
  have _f_22 := (_m_16.ch0 _cw_21)
  refine s_store1 (off := 2) _f_22 sz26 rfl rfl rfl rfl fun _w_23 _m_24 _cw_23 => ?_
  have _cw_23z := _cw_23.size
  have E := E.step _cw_23 (fun i hi => .inl (by have _h1 := List.mem_singleton.1 hi; omega))
  replace _m_24 : Blk _w_23 _b3 42 [(.int .i64 aS), (.slice _Av9 (aA).length _Cv9), (.slice Au13_0 (_vs13_0).length Cu13_0)] := _m_24
  refine WL_nil ?_
  refine thn_nrm (_hK_17 _ _ ?_)
  clear _hK_17
  refine W_seq fun _K_25 _hK_25 => ?_
  refine W_region ?_
  refine WL_step rfl rfl (r_loadAtA0 _m_24.at_ agg42 sz42 rfl) ?_
  refine WL_s rfl rfl ?_
  have _f_26 := ((((((_m2.ch0 _cw_5).ch _cw_8 (fun hm => by have _h1 := List.mem_singleton.1 hm; omega)).ch0 _cw_13).ch _cw_15 (fun hm => by have _h1 := List.mem_singleton.1 hm; omega)).ch0 _cw_21).ch _cw_23 (fun hm => by have _h1 := List.mem_singleton.1 hm; omega))
  refine s_storeA (off := 0) 3 _f_26 sz42 rfl (us := [(.int .i64 aS), (.slice _Av9 (aA).length _Cv9), (.slice Au13_0 (_vs13_0).length Cu13_0)]) rfl rfl rfl rfl fun _w_27 _m_28 _cw_27 => ?_
  have _cw_27z := _cw_27.size
  have E := E.step _cw_27 (fun i hi => .inl (by have _h1 := List.mem_singleton.1 hi; omega))
  replace _m_28 : Blk _w_27 _b2 42 [(.int .i64 aS), (.slice _Av9 (aA).length _Cv9), (.slice Au13_0 (_vs13_0).length Cu13_0)] := _m_28
  refine WL_nil ?_
  refine thn_nrm (_hK_25 _ _ ?_)
  clear _hK_25
  refine W_ret ?_
  have _f_29 := ((((_q9.ch _cw_15 (fun g hg hm => by have _h0 := List.mem_singleton.1 hm; have _h2 := _lo9 _ hg; have _h3 := _hiv9 _ hg; omega)).ch0 _cw_21).ch _cw_23 (fun g hg hm => by have _h0 := List.mem_singleton.1 hm; have _h2 := _lo9 _ hg; have _h3 := _hiv9 _ hg; omega)).ch _cw_27 (fun g hg hm => by have _h0 := List.mem_singleton.1 hm; have _h2 := _lo9 _ hg; have _h3 := _hiv9 _ hg; omega))
  have _o_30 : Ol bcs 4 1 _w_27 (.slice _Av9 (aA).length _Cv9) (aA) := by
    have hx := _f_29
    first | exact hx | simpa using hx
  have _f_33 := ((_q_u13_0.ch _cw_23 (fun g hg hm => by have _h0 := List.mem_singleton.1 hm; have _h2 := _lo_u13_0 _ hg; have _h3 := _hiu13_0 _ hg; omega)).ch _cw_27 (fun g hg hm => by have _h0 := List.mem_singleton.1 hm; have _h2 := _lo_u13_0 _ hg; have _h3 := _hiu13_0 _ hg; omega))
  have _f_34 := ((_od_vs13_0.ch _cw_23 (fun i hi => by have _h1 := List.mem_singleton.1 hi; omega)).ch _cw_27 (fun i hi => by have _h1 := List.mem_singleton.1 hi; omega))
  have _o_31 : Ol Sv.cs 46 1 _w_27 (.slice Au13_0 (_vs13_0).length Cu13_0) _vs13_0 := by
    have hx := _f_33
    exact hx
  have _o_32 : Od ics 3 1 _w_27 w.heap.size _w_27.heap.size _vs13_0 (aN) := by
    have hx := _f_34.up (lo' := w.heap.size) (hi' := _w_27.heap.size) (by omega) (by omega)
    exact hx
  exact ret_intro [_] (resOf_loadA _m_28 rfl agg42 sz42 trivial) ⟨(.slice _Av9 (aA).length _Cv9), (.slice Au13_0 (_vs13_0).length Cu13_0), _vs13_0, (congrArg (fun zq => (Value.agg #[.int .i64 zq, (.slice _Av9 (aA).length _Cv9), (.slice Au13_0 (_vs13_0).length Cu13_0)])) (by first | rfl | simp_all)), _o_30, (Lo.down _lo9 (by omega)), _o_31, (Lo.down _lo_u13_0 (by omega)), _o_32, _sep_vs13_0, (fun g hm hg => by have _h1 := _lo9 _ hm; have _h2 := _hiv9 _ hm; have _h3 := _lo_u13_0 _ hg; have _h4 := _hiu13_0 _ hg; omega), (Od.sepO _f_34 (fun g hm => by have _h1 := _lo9 _ hm; have _h2 := _hiv9 _ hm; omega)), E⟩

/-- spec.l1In -/
theorem c_spec_l1In {w : World} (n : Int) (a : Int) (b : Int) :
    Ctr Try.prog 44 #[(.int .i64 n), (.int .i64 a), (.int .i64 b)] w (fun v w' => v = .bool (decide (a ≤ n ∧ n ≤ b)) ∧ Ch [] w w') := by
  have E := Ch.refl [] w
  refine Ctr_of_W (N := 15) (vs0 := [(.int .i64 n), (.int .i64 a), (.int .i64 b)]) Try.func44 rfl rfl rfl ?_
  refine W_seq fun _K_1 _hK_1 => ?_
  refine W_region ?_
  refine WL_step rfl rfl (r_assign rfl) ?_
  refine WL_nil ?_
  refine thn_nrm (_hK_1 _ _ ?_)
  clear _hK_1
  refine W_seq fun _K_2 _hK_2 => ?_
  refine W_region ?_
  refine WL_step rfl rfl (r_move rfl) ?_
  refine WL_step rfl rfl (r_move rfl) ?_
  refine WL_step rfl rfl (r_geq rfl rfl) ?_
  refine WL_step rfl rfl (r_move rfl) ?_
  refine WL_split (d := 10) rfl (fun _h10 => ?_) (fun _h10 => ?_)
  · have _kb_3 := _h10
    have _h10 := bt_d _h10
    refine WL_step rfl rfl (r_move rfl) ?_
    refine WL_step rfl rfl (r_move rfl) ?_
    refine WL_step rfl rfl (r_leq rfl rfl) ?_
    refine WL_step rfl rfl (r_pickT rfl rfl) ?_
    refine WL_step rfl rfl (r_assign rfl) ?_
    refine WL_nil ?_
    refine thn_nrm (_hK_2 _ _ ?_)
    clear _hK_2
    refine W_ret ?_
    exact ret_intro [_] ⟨rfl, trivial⟩ ⟨congrArg Value.bool (by first | rfl | (rw [Bool.eq_iff_iff]; simp <;> omega) | (rw [Bool.eq_iff_iff]; simp_all; done) | simp_all), E⟩
  · have _kb_3 := _h10
    have _h10 := bf_d _h10
    refine WL_skip rfl rfl ?_
    refine WL_skip rfl rfl ?_
    refine WL_skip rfl rfl ?_
    refine WL_step rfl rfl (r_pickF rfl rfl) ?_
    refine WL_step rfl rfl (r_assign rfl) ?_
    refine WL_nil ?_
    refine thn_nrm (_hK_2 _ _ ?_)
    clear _hK_2
    refine W_ret ?_
    exact ret_intro [_] ⟨rfl, trivial⟩ ⟨congrArg Value.bool (by first | rfl | (rw [Bool.eq_iff_iff]; simp <;> omega) | (rw [Bool.eq_iff_iff]; simp_all; done) | simp_all), E⟩

/-- spec.l11Fits -/
theorem c_spec_l11Fits {w : World} (aS : Int) {LL_aA _B_aA : Nat} {_v_aA : Value} {aA : List Bool} (_h_aA : Ls bcs 1 w LL_aA _B_aA _v_aA aA) {LL_saN _B_saN : Nat} {_v_saN : Value} {saN : List Sv} (_h_saN : Ls Sv.cs 1 w LL_saN _B_saN _v_saN saN) {LR_aN BB_aN : Nat} {aN : List (List Int)} (_rd_aN : Rd ics 1 w LR_aN BB_aN saN aN) :
    Ctr Try.prog 118 #[(.agg #[(.int .i64 aS), _v_aA, _v_saN])] w (fun v w' => v = .bool (tt (FitsA aS aA aN)) ∧ Ch [] w w') := by
  obtain ⟨_A_aA, _C_aA, _e1_aA⟩ := _h_aA.val
  subst _e1_aA
  have _l_aA := _h_aA.len
  have _h_aA := _h_aA.here (by decide)
  obtain ⟨_A_saN, _C_saN, _e1_saN⟩ := _h_saN.val
  subst _e1_saN
  have _l_saN := _h_saN.len
  have _h_saN := _h_saN.here (by decide)
  have _rd_aN := _rd_aN.here (by decide)
  have _rl_aN := _rd_aN.1
  have E := Ch.refl [] w
  refine Ctr_of_W (N := 50) (vs0 := [(.agg #[(.int .i64 aS), (.slice _A_aA aA.length _C_aA), (.slice _A_saN saN.length _C_saN)])]) Try.func118 rfl rfl rfl ?_
  refine W_seq fun _K_1 _hK_1 => ?_
  refine W_region ?_
  refine WL_s rfl rfl ?_
  refine s_box rfl fun _b1 _w_2 _m1 _cw_2 _e1 => ?_
  have _cw_2z := _cw_2.size
  have E := E.trans _cw_2
  have _z1 := _m1.lt
  replace _m1 : Blk _w_2 _b1 42 [(.int .i64 aS), (.slice _A_aA aA.length _C_aA), (.slice _A_saN saN.length _C_saN)] := _m1
  refine WL_step rfl rfl (r_assign rfl) ?_
  refine WL_nil ?_
  refine thn_nrm (_hK_1 _ _ ?_)
  clear _hK_1
  refine W_seq fun _K_3 _hK_3 => ?_
  refine W_region ?_
  refine WL_step rfl rfl (r_fieldAddr fa42_1 rfl) ?_
  refine WL_step rfl rfl (r_loadAt _m1.at_ agg37 rfl rfl) ?_
  refine WL_step rfl rfl (r_len (by rw [el37]; rfl) rfl) ?_
  refine WL_step rfl rfl (r_assign rfl) ?_
  refine WL_nil ?_
  refine thn_nrm (_hK_3 _ _ ?_)
  clear _hK_3
  refine W_seq fun _K_4 _hK_4 => ?_
  refine W_seq fun _K_5 _hK_5 => ?_
  refine W_region ?_
  refine WL_step rfl rfl (r_fieldAddr fa42_0 rfl) ?_
  refine WL_step rfl rfl (r_loadAt _m1.at_ agg3 rfl rfl) ?_
  refine WL_step rfl rfl (r_move rfl) ?_
  refine WL_step rfl rfl (r_sub (by omega) rfl rfl) ?_
  refine WL_s rfl rfl ?_
  refine Step.call (r_call (xs := [.tmp 10, .const (Go.Value.int Go.IntKind.i64 0), .tmp 12]) fk44 rfl) (c_spec_l1In _ _ _ ) fun _v13 _w_6 _q13 => ?_
  obtain ⟨rfl, _cw_6⟩ := _q13
  have _cw_6z := _cw_6.size
  have E := E.trans _cw_6
  refine WL_step rfl rfl (r_not rfl) ?_
  refine WL_step rfl rfl (r_move rfl) ?_
  refine WL_split (d := 15) rfl (fun _h15 => ?_) (fun _h15 => ?_)
  · have _kb_7 := _h15
    have _h15 := bf_d (bt_n _h15)
    refine WL_skip rfl rfl ?_
    refine WL_skip rfl rfl ?_
    refine WL_skip rfl rfl ?_
    refine WL_skip rfl rfl ?_
    refine WL_skip rfl rfl ?_
    refine WL_step rfl rfl (r_pickT rfl rfl) ?_
    refine WL_nil ?_
    refine thn_nrm (_hK_5 _ _ ?_)
    clear _hK_5
    refine W_condT rfl ?_
    refine W_seq fun _K_8 _hK_8 => ?_
    refine W_region ?_
    refine WL_step rfl rfl (r_assign rfl) ?_
    refine WL_nil ?_
    refine thn_nrm (_hK_8 _ _ ?_)
    clear _hK_8
    refine W_ret (thn_ret ?_)
    clear _hK_4
    exact ret_intro [_] ⟨rfl, trivial⟩ ⟨congrArg Value.bool (by first | exact tt_true ⟨_h15, by omega, rows_all _ht (by omega)⟩ | exact tt_false (fun e => _h15 e.1) | exact tt_false (fun e => _h21 (by have _h1 := e.2.1; omega)) | exact tt_false (fun e => _h49 (fits_el e _hys41 _hy44)) | exact tt_false (fun e => _h33 (by have _h1 := (fits_row e _hys30).1; omega))), E⟩
  · have _kb_7 := _h15
    have _h15 := bt_d (bf_n _h15)
    refine WL_step rfl rfl (r_fieldAddr fa42_2 rfl) ?_
    have _f_9 := (_m1.ch0 _cw_6)
    refine WL_step rfl rfl (r_loadAt _f_9.at_ agg26 rfl rfl) ?_
    refine WL_step rfl rfl (r_len (by rw [el26]; rfl) rfl) ?_
    refine WL_step rfl rfl (r_move rfl) ?_
    refine WL_step rfl rfl (r_neq rfl rfl) ?_
    refine WL_step rfl rfl (r_pickF rfl rfl) ?_
    refine WL_nil ?_
    refine thn_nrm (_hK_5 _ _ ?_)
    clear _hK_5
    refine W_cond rfl (fun _h21 => ?_) (fun _h21 => ?_)
    · have _kb_10 := _h21
      have _h21 := bf_d (bt_n _h21)
      refine W_seq fun _K_11 _hK_11 => ?_
      refine W_region ?_
      refine WL_step rfl rfl (r_assign rfl) ?_
      refine WL_nil ?_
      refine thn_nrm (_hK_11 _ _ ?_)
      clear _hK_11
      refine W_ret (thn_ret ?_)
      clear _hK_4
      exact ret_intro [_] ⟨rfl, trivial⟩ ⟨congrArg Value.bool (by first | exact tt_true ⟨_h15, by omega, rows_all _ht (by omega)⟩ | exact tt_false (fun e => _h15 e.1) | exact tt_false (fun e => _h21 (by have _h1 := e.2.1; omega)) | exact tt_false (fun e => _h49 (fits_el e _hys41 _hy44)) | exact tt_false (fun e => _h33 (by have _h1 := (fits_row e _hys30).1; omega))), E⟩
    · have _kb_10 := _h21
      have _h21 := bt_d (bf_n _h21)
      refine W_skip ?_
      refine thn_nrm (_hK_4 _ _ ?_)
      clear _hK_4
      refine W_seq fun _K_12 _hK_12 => ?_
      refine W_seq fun _K_13 _hK_13 => ?_
      refine W_region ?_
      refine WL_step rfl rfl (r_assign rfl) ?_
      refine WL_nil ?_
      refine thn_nrm (_hK_13 _ _ ?_)
      clear _hK_13
      refine W_block ?_
      refine W_loop (σ := Nat) (fun (s : Nat) => [(1, (.pointer (some ⟨_b1, 0, none⟩))), (3, (.int .i64 ((aA.length : Nat) : Int))), (4, (.int .i64 ((s : Nat) : Int)))]) (fun (s : Nat) wx => Ch [] w wx ∧ _w_6.heap.size ≤ wx.heap.size ∧ (s ≤ aN.length) ∧ (RowsP aA.length aN s) ∧ Blk wx _b1 42 [(.int .i64 aS), (.slice _A_aA aA.length _C_aA), (.slice _A_saN saN.length _C_saN)]) (fun (s : Nat) => aN.length - s) 0 (Sub.cons rfl (Sub.cons rfl (Sub.cons rfl (Sub.nil _)))) ⟨E, (Nat.le_refl _), (by omega), (rows_zero _ _), _f_9⟩ ?_
      rintro s _wr_14 ⟨E, _zz0, hs, _ht, _F0_0⟩
      have _E0h := E
      have _E0hz := _E0h.size
      have _F0_0z := _F0_0.lt
      refine W_seq fun _K_15 _hK_15 => ?_
      refine W_seq fun _K_16 _hK_16 => ?_
      refine W_region ?_
      refine WL_step rfl rfl (r_move rfl) ?_
      refine WL_step rfl rfl (r_move rfl) ?_
      refine WL_step rfl rfl (r_lss rfl rfl) ?_
      refine WL_nil ?_
      refine thn_nrm (_hK_16 _ _ ?_)
      clear _hK_16
      refine W_cond rfl (fun _h24 => ?_) (fun _h24 => ?_)
      · have _kb_17 := _h24
        have _h24 := bt_d _h24
        refine W_skip ?_
        refine thn_nrm (_hK_15 _ _ ?_)
        clear _hK_15
        refine W_seq fun _K_18 _hK_18 => ?_
        refine W_block ?_
        refine W_seq fun _K_19 _hK_19 => ?_
        refine W_seq fun _K_20 _hK_20 => ?_
        refine W_region ?_
        refine WL_step rfl rfl (r_fieldAddr fa42_2 rfl) ?_
        refine WL_step rfl rfl (r_loadAt _F0_0.at_ agg26 rfl rfl) ?_
        refine WL_step rfl rfl (r_move rfl) ?_
        refine WL_s rfl rfl ?_
        have _f_21 := (_h_saN.ch0 _E0h)
        refine (s_index _f_21 Sv.len el26 sz46 rfl rfl rfl (by omega) fun _p30 _y30 _hy30 _a30 => ?_)
        have _f_22 := (_rd_aN.ch0 _E0h)
        obtain ⟨_ys30, _hys30, _fs30⟩ := _f_22.get _hy30
        obtain ⟨_A30, _n30, _C30⟩ := _y30
        obtain rfl := _fs30.eqn
        have _l30 := _fs30.len
        replace _fs30 : Ls ics 1 _wr_14 LR_aN w.heap.size (.slice _A30 _ys30.length _C30) _ys30 := _fs30
        replace _a30 : At _wr_14 LL_saN w.heap.size _p30 ([(.slice _A30 _ys30.length _C30)]) := _a30
        refine WL_step rfl rfl (r_loadAt0 _a30 agg46 rfl rfl) ?_
        refine WL_step rfl rfl (r_len (by rw [el46]; rfl) rfl) ?_
        refine WL_step rfl rfl (r_neq rfl rfl) ?_
        refine WL_nil ?_
        refine thn_nrm (_hK_20 _ _ ?_)
        clear _hK_20
        refine W_cond rfl (fun _h33 => ?_) (fun _h33 => ?_)
        · have _kb_23 := _h33
          have _h33 := bf_d (bt_n _h33)
          refine W_seq fun _K_24 _hK_24 => ?_
          refine W_region ?_
          refine WL_step rfl rfl (r_assign rfl) ?_
          refine WL_nil ?_
          refine thn_nrm (_hK_24 _ _ ?_)
          clear _hK_24
          refine W_ret (thn_ret (inB_ret (thn_ret (thn_ret (inB_ret (thn_ret ?_))))))
          clear _hK_12 _hK_18 _hK_19
          exact ret_intro [_] ⟨rfl, trivial⟩ ⟨congrArg Value.bool (by first | exact tt_true ⟨_h15, by omega, rows_all _ht (by omega)⟩ | exact tt_false (fun e => _h15 e.1) | exact tt_false (fun e => _h21 (by have _h1 := e.2.1; omega)) | exact tt_false (fun e => _h49 (fits_el e _hys41 _hy44)) | exact tt_false (fun e => _h33 (by have _h1 := (fits_row e _hys30).1; omega))), E⟩
        · have _kb_23 := _h33
          have _h33 := bt_d (bf_n _h33)
          refine W_skip ?_
          refine thn_nrm (_hK_19 _ _ ?_)
          clear _hK_19
          refine W_seq fun _K_25 _hK_25 => ?_
          refine W_region ?_
          refine WL_step rfl rfl (r_assign rfl) ?_
          refine WL_nil ?_
          refine thn_nrm (_hK_25 _ _ ?_)
          clear _hK_25
          refine W_block ?_
          refine W_loop (σ := Nat) (fun (k : Nat) => [(1, (.pointer (some ⟨_b1, 0, none⟩))), (3, (.int .i64 ((aA.length : Nat) : Int))), (4, (.int .i64 ((s : Nat) : Int))), (5, (.int .i64 ((k : Nat) : Int))), (22, (.int .i64 ((s : Nat) : Int))), (23, (.int .i64 ((aA.length : Nat) : Int))), (24, (.bool (decide (((s : Nat) : Int) < ((aA.length : Nat) : Int))))), (27, (.pointer (some (Addr.add ⟨_b1, 0, none⟩ 2)))), (28, (.slice _A_saN saN.length _C_saN)), (29, (.int .i64 ((s : Nat) : Int))), (30, (.pointer (some _p30))), (31, (.slice _A30 _ys30.length _C30)), (32, (.int .i64 ((_ys30.length : Nat) : Int))), (33, (.bool (!decide (((_ys30.length : Nat) : Int) = 9))))]) (fun (k : Nat) wx => Ch [] w wx ∧ _wr_14.heap.size ≤ wx.heap.size ∧ (k ≤ 9) ∧ (RowP aA.length _ys30 k) ∧ Blk wx _b1 42 [(.int .i64 aS), (.slice _A_aA aA.length _C_aA), (.slice _A_saN saN.length _C_saN)] ∧ Ls Sv.cs 1 wx LL_saN w.heap.size (.slice _A_saN saN.length _C_saN) saN ∧ Rd ics 1 wx LR_aN w.heap.size saN aN ∧ At wx LL_saN w.heap.size _p30 ([(.slice _A30 _ys30.length _C30)]) ∧ Ls ics 1 wx LR_aN w.heap.size (.slice _A30 _ys30.length _C30) _ys30) (fun (k : Nat) => 9 - k) 0 (Sub.cons rfl (Sub.cons rfl (Sub.cons rfl (Sub.cons rfl (Sub.cons rfl (Sub.cons rfl (Sub.cons rfl (Sub.cons rfl (Sub.cons rfl (Sub.cons rfl (Sub.cons rfl (Sub.cons rfl (Sub.cons rfl (Sub.cons rfl (Sub.nil _))))))))))))))) ⟨E, (Nat.le_refl _), (by omega), (rowp_zero _ _), _F0_0, _f_21, _f_22, _a30, _fs30⟩ ?_
          rintro k _wr_26 ⟨E, _zz1, _hk, hp, _F1_0, _F1_2, _F1_3, _F1_4, _F1_5⟩
          have _E1h := E
          have _E1hz := _E1h.size
          have _F1_0z := _F1_0.lt
          refine W_seq fun _K_27 _hK_27 => ?_
          refine W_seq fun _K_28 _hK_28 => ?_
          refine W_region ?_
          refine WL_step rfl rfl (r_move rfl) ?_
          refine WL_step rfl rfl (r_lss rfl rfl) ?_
          refine WL_nil ?_
          refine thn_nrm (_hK_28 _ _ ?_)
          clear _hK_28
          refine W_cond rfl (fun _h35 => ?_) (fun _h35 => ?_)
          · have _kb_29 := _h35
            have _h35 := bt_d _h35
            refine W_skip ?_
            refine thn_nrm (_hK_27 _ _ ?_)
            clear _hK_27
            refine W_seq fun _K_30 _hK_30 => ?_
            refine W_block ?_
            refine W_seq fun _K_31 _hK_31 => ?_
            refine W_region ?_
            refine WL_step rfl rfl (r_fieldAddr fa42_2 rfl) ?_
            refine WL_step rfl rfl (r_loadAt _F1_0.at_ agg26 rfl rfl) ?_
            refine WL_step rfl rfl (r_move rfl) ?_
            refine WL_s rfl rfl ?_
            refine (s_index _F1_2 Sv.len el26 sz46 rfl rfl rfl (by omega) fun _p41 _y41 _hy41 _a41 => ?_)
            obtain ⟨_ys41, _hys41, _fs41⟩ := _F1_3.get _hy41
            obtain ⟨_A41, _n41, _C41⟩ := _y41
            obtain rfl := _fs41.eqn
            have _l41 := _fs41.len
            replace _fs41 : Ls ics 1 _wr_26 LR_aN w.heap.size (.slice _A41 _ys41.length _C41) _ys41 := _fs41
            replace _a41 : At _wr_26 LL_saN w.heap.size _p41 ([(.slice _A41 _ys41.length _C41)]) := _a41
            have _e41 := congrArg List.length (get_uniq _hys30 _hys41)
            refine WL_step rfl rfl (r_loadAt0 _a41 agg46 rfl rfl) ?_
            refine WL_step rfl rfl (r_move rfl) ?_
            refine WL_s rfl rfl ?_
            refine (s_index _fs41 ics_len el46 sz3 rfl rfl rfl (by omega) fun _p44 _y44 _hy44 _a44 => ?_)
            refine WL_step rfl rfl (r_loadAt0 _a44 agg3 rfl rfl) ?_
            refine WL_step rfl rfl (r_move rfl) ?_
            refine WL_step rfl rfl (r_sub (by omega) rfl rfl) ?_
            refine WL_s rfl rfl ?_
            refine Step.call (r_call (xs := [.tmp 45, .const (Go.Value.int Go.IntKind.i64 (-1)), .tmp 47]) fk44 rfl) (c_spec_l1In _ _ _ ) fun _v48 _w_32 _q48 => ?_
            obtain ⟨rfl, _cw_32⟩ := _q48
            have _cw_32z := _cw_32.size
            have E := E.trans _cw_32
            refine WL_step rfl rfl (r_not rfl) ?_
            refine WL_nil ?_
            refine thn_nrm (_hK_31 _ _ ?_)
            clear _hK_31
            refine W_cond rfl (fun _h49 => ?_) (fun _h49 => ?_)
            · have _kb_33 := _h49
              have _h49 := bf_d (bt_n _h49)
              refine W_seq fun _K_34 _hK_34 => ?_
              refine W_region ?_
              refine WL_step rfl rfl (r_assign rfl) ?_
              refine WL_nil ?_
              refine thn_nrm (_hK_34 _ _ ?_)
              clear _hK_34
              refine W_ret (inB_ret (thn_ret (thn_ret (inB_ret (inB_ret (thn_ret (thn_ret (inB_ret (thn_ret ?_)))))))))
              clear _hK_12 _hK_18 _hK_30
              exact ret_intro [_] ⟨rfl, trivial⟩ ⟨congrArg Value.bool (by first | exact tt_true ⟨_h15, by omega, rows_all _ht (by omega)⟩ | exact tt_false (fun e => _h15 e.1) | exact tt_false (fun e => _h21 (by have _h1 := e.2.1; omega)) | exact tt_false (fun e => _h49 (fits_el e _hys41 _hy44)) | exact tt_false (fun e => _h33 (by have _h1 := (fits_row e _hys30).1; omega))), E⟩
            · have _kb_33 := _h49
              have _h49 := bt_d (bf_n _h49)
              refine W_skip ?_
              refine inB_nrm ?_
              refine thn_nrm (_hK_30 _ _ ?_)
              clear _hK_30
              refine W_region ?_
              refine WL_step rfl rfl (r_move rfl) ?_
              refine WL_step rfl rfl (r_add (by omega) rfl rfl) ?_
              refine WL_step rfl rfl (r_assign rfl) ?_
              refine WL_nil ?_
              have _f_35 := (_F1_0.ch0 _cw_32)
              have _f_36 := (_F1_2.ch0 _cw_32)
              have _f_37 := (_F1_3.ch0 _cw_32)
              have _f_38 := (_F1_4.ch0 _cw_32)
              have _f_39 := (_F1_5.ch0 _cw_32)
              exact thn_nrm (Exists.intro (k + 1) ⟨⟨E, (by omega), (by omega), (rowp_step hp (get_uniq _hys41 _hys30 ▸ _hy44) _h49), _f_35, _f_36, _f_37, _f_38, _f_39⟩, Sub.cons rfl (Sub.cons rfl (Sub.cons rfl (Sub.cons rfl (Sub.cons rfl (Sub.cons rfl (Sub.cons rfl (Sub.cons rfl (Sub.cons rfl (Sub.cons rfl (Sub.cons rfl (Sub.cons rfl (Sub.cons rfl (Sub.cons rfl (Sub.nil _)))))))))))))), (by first | omega | (dsimp only; omega))⟩)
          · have _kb_29 := _h35
            have _h35 := bf_d _h35
            refine W_exit (thn_exit (thn_exit (inB_hit ?_)))
            refine inB_nrm ?_
            refine thn_nrm (_hK_18 _ _ ?_)
            clear _hK_18
            refine W_region ?_
            refine WL_step rfl rfl (r_move rfl) ?_
            refine WL_step rfl rfl (r_add (by omega) rfl rfl) ?_
            refine WL_step rfl rfl (r_assign rfl) ?_
            refine WL_nil ?_
            exact thn_nrm (Exists.intro (s + 1) ⟨⟨E, (by omega), (by omega), (rows_step _ht _hys30 ⟨by omega, rowp_all hp (by omega)⟩), _F1_0⟩, Sub.cons rfl (Sub.cons rfl (Sub.cons rfl (Sub.nil _))), (by first | omega | (dsimp only; omega))⟩)
      · have _kb_17 := _h24
        have _h24 := bf_d _h24
        refine W_exit (thn_exit (thn_exit (inB_hit ?_)))
        refine thn_nrm (_hK_12 _ _ ?_)
        clear _hK_12
        refine W_seq fun _K_40 _hK_40 => ?_
        refine W_region ?_
        refine WL_step rfl rfl (r_assign rfl) ?_
        refine WL_nil ?_
        refine thn_nrm (_hK_40 _ _ ?_)
        clear _hK_40
        refine W_ret ?_
        clear _hK_15
        exact ret_intro [_] ⟨rfl, trivial⟩ ⟨congrArg Value.bool (by first | exact tt_true ⟨_h15, by omega, rows_all _ht (by omega)⟩ | exact tt_false (fun e => _h15 e.1) | exact tt_false (fun e => _h21 (by have _h1 := e.2.1; omega)) | exact tt_false (fun e => _h49 (fits_el e _hys41 _hy44)) | exact tt_false (fun e => _h33 (by have _h1 := (fits_row e _hys30).1; omega))), E⟩

/-- spec.IsValidAutomaton -/
theorem c_spec_IsValidAutomaton {w : World} (aS : Int) {LL_aA _B_aA : Nat} {_v_aA : Value} {aA : List Bool} (_h_aA : Ls bcs 1 w LL_aA _B_aA _v_aA aA) {LL_saN _B_saN : Nat} {_v_saN : Value} {saN : List Sv} (_h_saN : Ls Sv.cs 1 w LL_saN _B_saN _v_saN saN) {LR_aN BB_aN : Nat} {aN : List (List Int)} (_rd_aN : Rd ics 1 w LR_aN BB_aN saN aN) :
    Ctr Try.prog 60 #[(.agg #[(.int .i64 aS), _v_aA, _v_saN])] w (fun v w' => v = .bool (tt (ValidA aS aA aN)) ∧ Ch [] w w') := by
  obtain ⟨_A_aA, _C_aA, _e1_aA⟩ := _h_aA.val
  subst _e1_aA
  have _l_aA := _h_aA.len
  have _h_aA := _h_aA.here (by decide)
  obtain ⟨_A_saN, _C_saN, _e1_saN⟩ := _h_saN.val
  subst _e1_saN
  have _l_saN := _h_saN.len
  have _h_saN := _h_saN.here (by decide)
  have _rd_aN := _rd_aN.here (by decide)
  have _rl_aN := _rd_aN.1
  have E := Ch.refl [] w
  refine Ctr_of_W (N := 11) (vs0 := [(.agg #[(.int .i64 aS), (.slice _A_aA aA.length _C_aA), (.slice _A_saN saN.length _C_saN)])]) Try.func60 rfl rfl rfl ?_
  refine W_seq fun _K_1 _hK_1 => ?_
  refine W_region ?_
  refine WL_s rfl rfl ?_
  refine s_box rfl fun _b1 _w_2 _m1 _cw_2 _e1 => ?_
  have _cw_2z := _cw_2.size
  have E := E.trans _cw_2
  have _z1 := _m1.lt
  replace _m1 : Blk _w_2 _b1 42 [(.int .i64 aS), (.slice _A_aA aA.length _C_aA), (.slice _A_saN saN.length _C_saN)] := _m1
  refine WL_step rfl rfl (r_assign rfl) ?_
  refine WL_nil ?_
  refine thn_nrm (_hK_1 _ _ ?_)
  clear _hK_1
  refine W_seq fun _K_3 _hK_3 => ?_
  refine W_region ?_
  refine WL_step rfl rfl (r_fieldAddr fa42_1 rfl) ?_
  refine WL_step rfl rfl (r_loadAt _m1.at_ agg37 rfl rfl) ?_
  refine WL_step rfl rfl (r_len (by rw [el37]; rfl) rfl) ?_
  refine WL_step rfl rfl (r_leq rfl rfl) ?_
  refine WL_step rfl rfl (r_move rfl) ?_
  refine WL_split (d := 7) rfl (fun _h7 => ?_) (fun _h7 => ?_)
  · have _kb_4 := _h7
    have _h7 := bt_d _h7
    refine WL_step rfl rfl (r_loadAtA0 _m1.at_ agg42 sz42 rfl) ?_
    refine WL_s rfl rfl ?_
    have _f_5 := (_h_aA.ch0 _cw_2)
    have _f_6 := (_rd_aN.ch0 _cw_2)
    have _f_7 := (_h_saN.ch0 _cw_2)
    refine Step.call (r_call (xs := [.tmp 8]) fk118 rfl) (c_spec_l11Fits _ _f_5 _f_7 _f_6 ) fun _v9 _w_8 _q9 => ?_
    obtain ⟨rfl, _cw_8⟩ := _q9
    have _cw_8z := _cw_8.size
    have E := E.trans _cw_8
    refine WL_step rfl rfl (r_pickT rfl rfl) ?_
    refine WL_step rfl rfl (r_assign rfl) ?_
    refine WL_nil ?_
    refine thn_nrm (_hK_3 _ _ ?_)
    clear _hK_3
    refine W_ret ?_
    exact ret_intro [_] ⟨rfl, trivial⟩ ⟨congrArg Value.bool (by first | exact tt_eq ⟨fun e => ⟨by omega, e⟩, fun e => e.2⟩ | exact tt_false (fun e => _h7 (by have _h1 := e.1; omega))), E⟩
  · have _kb_4 := _h7
    have _h7 := bf_d _h7
    refine WL_skip rfl rfl ?_
    refine WL_skip rfl rfl ?_
    refine WL_step rfl rfl (r_pickF rfl rfl) ?_
    refine WL_step rfl rfl (r_assign rfl) ?_
    refine WL_nil ?_
    refine thn_nrm (_hK_3 _ _ ?_)
    clear _hK_3
    refine W_ret ?_
    exact ret_intro [_] ⟨rfl, trivial⟩ ⟨congrArg Value.bool (by first | exact tt_eq ⟨fun e => ⟨by omega, e⟩, fun e => e.2⟩ | exact tt_false (fun e => _h7 (by have _h1 := e.1; omega))), E⟩

end Go.Proofs.Ytmjldcgddhnmpaa
