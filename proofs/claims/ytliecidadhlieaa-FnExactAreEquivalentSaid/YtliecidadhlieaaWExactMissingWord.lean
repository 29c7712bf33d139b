/- Walks of functions that FnExactMissingWord reaches: what each returns, and that it leaves the memory that was there alone. -/
import Derived.Test.YtliecidadhlieaaKF
import Derived.Test.YtliecidadhlieaaKG
import Derived.Test.YtliecidadhlieaaKH
import Derived.Test.YtliecidadhlieaaKI
import Derived.Test.YtliecidadhlieaaKJ
import Derived.Test.YtliecidadhlieaaKM
import Derived.Test.YtliecidadhlieaaKN
import Derived.Test.YtliecidadhlieaaKO
import Derived.Test.YtliecidadhlieaaKP
import Derived.Test.YtliecidadhlieaaKQ
import Derived.Test.YtliecidadhlieaaKR
import Derived.Test.YtliecidadhlieaaKS
import Derived.Test.YtliecidadhlieaaKT
import Derived.Test.YtliecidadhlieaaKU
import Derived.Test.YtliecidadhlieaaKV
import Derived.Test.YtliecidadhlieaaKX
import Derived.Test.YtliecidadhlieaaKY
import Derived.Test.YtliecidadhlieaaKZ
import Derived.Test.YtliecidadhlieaaJA
import Derived.Test.YtliecidadhlieaaJB
import Derived.Test.YtliecidadhlieaaJC
import Derived.Test.YtliecidadhlieaaJD
import Derived.Test.YtliecidadhlieaaJE
import Derived.Test.YtliecidadhlieaaJF
import Derived.Test.YtliecidadhlieaaJG
import Derived.Test.YtliecidadhlieaaJH
import Derived.Test.YtliecidadhlieaaJI
import Derived.Test.YtliecidadhlieaaJK
import Derived.Test.YtliecidadhlieaaJM
import Derived.Test.YtliecidadhlieaaJN
import Derived.Test.YtliecidadhlieaaJO
import Derived.Test.YtliecidadhlieaaJP
import Derived.Test.YtliecidadhlieaaJQ
import Derived.Test.YtliecidadhlieaaJR
import Derived.Test.YtliecidadhlieaaJS
import Derived.Test.YtliecidadhlieaaJU
import Derived.Test.YtliecidadhlieaaProg
namespace Go.Proofs.Ytliecidadhlieaa
open Go.KLib Go.Shelf
set_option maxRecDepth 20000
set_option linter.unusedVariables false
set_option linter.unusedSimpArgs false
namespace TExactMissingWord
theorem agg22 : aggB Try.prog 22 = some false := by kernel_rfl
theorem agg23 : aggB Try.prog 23 = some false := by kernel_rfl
theorem agg28 : aggB Try.prog 28 = some true := by kernel_rfl
theorem agg3 : aggB Try.prog 3 = some false := by kernel_rfl
theorem agg31 : aggB Try.prog 31 = some false := by kernel_rfl
theorem agg4 : aggB Try.prog 4 = some false := by kernel_rfl
theorem agg51 : aggB Try.prog 51 = some true := by kernel_rfl
theorem agg76 : aggB Try.prog 76 = some true := by kernel_rfl
theorem by3 : bytesB Try.prog 3 = some 8 := by kernel_rfl
theorem by31 : bytesB Try.prog 31 = some 24 := by kernel_rfl
theorem by4 : bytesB Try.prog 4 = some 1 := by kernel_rfl
theorem by76 : bytesB Try.prog 76 = some 40 := by kernel_rfl
theorem el22 : elB Try.prog 22 = some 4 := by kernel_rfl
theorem el23 : elB Try.prog 23 = some 31 := by kernel_rfl
theorem el31 : elB Try.prog 31 = some 3 := by kernel_rfl
theorem el77 : elB Try.prog 77 = some 76 := by kernel_rfl
theorem fa25_0 : faB Try.prog 25 0 = some 0 := by kernel_rfl
theorem fa25_1 : faB Try.prog 25 1 = some 1 := by kernel_rfl
theorem fa25_2 : faB Try.prog 25 2 = some 2 := by kernel_rfl
theorem fa28_0 : faB Try.prog 28 0 = some 0 := by kernel_rfl
theorem fa28_1 : faB Try.prog 28 1 = some 1 := by kernel_rfl
theorem fa28_2 : faB Try.prog 28 2 = some 2 := by kernel_rfl
theorem fa51_0 : faB Try.prog 51 0 = some 0 := by kernel_rfl
theorem fa51_1 : faB Try.prog 51 1 = some 1 := by kernel_rfl
theorem fa76_0 : faB Try.prog 76 0 = some 0 := by kernel_rfl
theorem fa76_1 : faB Try.prog 76 1 = some 2 := by kernel_rfl
theorem fk18 : fnB Try.prog 18 = true := by kernel_rfl
theorem fk20 : fnB Try.prog 20 = true := by kernel_rfl
theorem fk28 : fnB Try.prog 28 = true := by kernel_rfl
theorem fk29 : fnB Try.prog 29 = true := by kernel_rfl
theorem fk31 : fnB Try.prog 31 = true := by kernel_rfl
theorem fk32 : fnB Try.prog 32 = true := by kernel_rfl
theorem fk33 : fnB Try.prog 33 = true := by kernel_rfl
theorem fk34 : fnB Try.prog 34 = true := by kernel_rfl
theorem fk35 : fnB Try.prog 35 = true := by kernel_rfl
theorem fk37 : fnB Try.prog 37 = true := by kernel_rfl
theorem fk38 : fnB Try.prog 38 = true := by kernel_rfl
theorem fk39 : fnB Try.prog 39 = true := by kernel_rfl
theorem fk40 : fnB Try.prog 40 = true := by kernel_rfl
theorem fk41 : fnB Try.prog 41 = true := by kernel_rfl
theorem fk42 : fnB Try.prog 42 = true := by kernel_rfl
theorem fk43 : fnB Try.prog 43 = true := by kernel_rfl
theorem fk44 : fnB Try.prog 44 = true := by kernel_rfl
theorem fk48 : fnB Try.prog 48 = true := by kernel_rfl
theorem fk58 : fnB Try.prog 58 = true := by kernel_rfl
theorem fk60 : fnB Try.prog 60 = true := by kernel_rfl
theorem fk65 : fnB Try.prog 65 = true := by kernel_rfl
theorem fk66 : fnB Try.prog 66 = true := by kernel_rfl
theorem fk67 : fnB Try.prog 67 = true := by kernel_rfl
theorem ist51 : intStructB Try.prog 51 2 = true := by kernel_rfl
theorem mixed : Try.prog.follows .mixedOrders = true := by kernel_rfl
theorem pl51 : placesB Try.prog 51 = some [(0, 1), (1, 1)] := by kernel_rfl
theorem pl76 : placesB Try.prog 76 = some [(0, 2), (2, 1)] := by kernel_rfl
theorem sz22 : sizeB Try.prog 22 = some 1 := by kernel_rfl
theorem sz23 : sizeB Try.prog 23 = some 1 := by kernel_rfl
theorem sz28 : sizeB Try.prog 28 = some 3 := by kernel_rfl
theorem sz3 : sizeB Try.prog 3 = some 1 := by kernel_rfl
theorem sz31 : sizeB Try.prog 31 = some 1 := by kernel_rfl
theorem sz4 : sizeB Try.prog 4 = some 1 := by kernel_rfl
theorem sz51 : sizeB Try.prog 51 = some 2 := by kernel_rfl
theorem sz76 : sizeB Try.prog 76 = some 3 := by kernel_rfl
theorem un4 : Try.prog.underlying 4 = some (.bool) := by kernel_rfl
theorem un74 : Try.prog.underlying 74 = some (.map 51 4) := by kernel_rfl
theorem zr28 : zeroB Try.prog 28 = some (.agg #[.int .i64 0, .slice none 0 0, .slice none 0 0]) := by kernel_rfl
theorem zr3 : zeroB Try.prog 3 = some (.int .i64 0) := by kernel_rfl
theorem zr31 : zeroB Try.prog 31 = some (.slice none 0 0) := by kernel_rfl
theorem zr4 : zeroB Try.prog 4 = some (.bool false) := by kernel_rfl
theorem zr51 : zeroB Try.prog 51 = some (.agg #[.int .i64 0, .int .i64 0]) := by kernel_rfl
theorem zr76 : zeroB Try.prog 76 = some (.agg #[.int .i64 0, .int .i64 0, .slice none 0 0]) := by kernel_rfl
end TExactMissingWord
open TExactMissingWord

/-- impl.within -/
theorem c_impl_within {w : World} (n : Int) (a : Int) (b : Int) :
    Ctr Try.prog 44 #[(.int .i64 n), (.int .i64 a), (.int .i64 b)] w (fun v w' => v = .bool (decide (a ≤ n ∧ n ≤ b)) ∧ Ch [] w w') := by
  have E := Ch.refl [] w
  refine Ctr_of_W (N := 15) (vs0 := [(.int .i64 n), (.int .i64 a), (.int .i64 b)]) Try.func44 rfl rfl rfl ?_
  refine W_seq fun _K_1 _hK_1 => ?_
  refine W_region ?_
  refine WL_step rfl rfl (r_assign rfl) ?_
  refine WL_nil ?_
  refine thn_nrm (_hK_1 _ _ ?_)
  clear _hK_1
  refine W_seq fun _K_2 _hK_2 => ?_
  refine W_region ?_
  refine WL_step rfl rfl (r_move rfl) ?_
  refine WL_step rfl rfl (r_move rfl) ?_
  refine WL_step rfl rfl (r_geq rfl rfl) ?_
  refine WL_step rfl rfl (r_move rfl) ?_
  refine WL_split (d := 10) rfl (fun _h10 => ?_) (fun _h10 => ?_)
  · have _kb_3 := _h10
    have _h10 := bt_d _h10
    refine WL_step rfl rfl (r_move rfl) ?_
    refine WL_step rfl rfl (r_move rfl) ?_
    refine WL_step rfl rfl (r_leq rfl rfl) ?_
    refine WL_step rfl rfl (r_pickT rfl rfl) ?_
    refine WL_step rfl rfl (r_assign rfl) ?_
    refine WL_nil ?_
    refine thn_nrm (_hK_2 _ _ ?_)
    clear _hK_2
    refine W_ret ?_
    exact ret_intro [_] ⟨rfl, trivial⟩ ⟨congrArg Value.bool (by first | rfl | (rw [Bool.eq_iff_iff]; simp <;> omega) | (rw [Bool.eq_iff_iff]; simp_all; done) | simp_all), E⟩
  · have _kb_3 := _h10
    have _h10 := bf_d _h10
    refine WL_skip rfl rfl ?_
    refine WL_skip rfl rfl ?_
    refine WL_skip rfl rfl ?_
    refine WL_step rfl rfl (r_pickF rfl rfl) ?_
    refine WL_step rfl rfl (r_assign rfl) ?_
    refine WL_nil ?_
    refine thn_nrm (_hK_2 _ _ ?_)
    clear _hK_2
    refine W_ret ?_
    exact ret_intro [_] ⟨rfl, trivial⟩ ⟨congrArg Value.bool (by first | rfl | (rw [Bool.eq_iff_iff]; simp <;> omega) | (rw [Bool.eq_iff_iff]; simp_all; done) | simp_all), E⟩

/-- impl.IsValidAutomaton -/
theorem c_impl_IsValidAutomaton {w : World} (aS : Int) {LL_aA _B_aA : Nat} {_v_aA : Value} {aA : List Bool} (_h_aA : Ls bcs 1 w LL_aA _B_aA _v_aA aA) {LL_saN _B_saN : Nat} {_v_saN : Value} {saN : List Sv} (_h_saN : Ls Sv.cs 1 w LL_saN _B_saN _v_saN saN) {LR_aN BB_aN : Nat} {aN : List (List Int)} (_rd_aN : Rd ics 1 w LR_aN BB_aN saN aN) :
    Ctr Try.prog 33 #[(.agg #[(.int .i64 aS), _v_aA, _v_saN])] w (fun v w' => v = .bool (tt (ValidA aS aA aN)) ∧ Ch [] w w') := by
  obtain ⟨_A_aA, _C_aA, _e1_aA⟩ := _h_aA.val
  subst _e1_aA
  have _l_aA := _h_aA.len
  have _h_aA := _h_aA.here (by decide)
  obtain ⟨_A_saN, _C_saN, _e1_saN⟩ := _h_saN.val
  subst _e1_saN
  have _l_saN := _h_saN.len
  have _h_saN := _h_saN.here (by decide)
  have _rd_aN := _rd_aN.here (by decide)
  have _rl_aN := _rd_aN.1
  have E := Ch.refl [] w
  refine Ctr_of_W (N := 52) (vs0 := [(.agg #[(.int .i64 aS), (.slice _A_aA aA.length _C_aA), (.slice _A_saN saN.length _C_saN)])]) Try.func33 rfl rfl rfl ?_
  refine W_seq fun _K_1 _hK_1 => ?_
  refine W_region ?_
  refine WL_s rfl rfl ?_
  refine s_box rfl fun _b1 _w_2 _m1 _cw_2 _e1 => ?_
  have _cw_2z := _cw_2.size
  have E := E.trans _cw_2
  have _z1 := _m1.lt
  replace _m1 : Blk _w_2 _b1 28 [(.int .i64 aS), (.slice _A_aA aA.length _C_aA), (.slice _A_saN saN.length _C_saN)] := _m1
  refine WL_step rfl rfl (r_assign rfl) ?_
  refine WL_nil ?_
  refine thn_nrm (_hK_1 _ _ ?_)
  clear _hK_1
  refine W_seq fun _K_3 _hK_3 => ?_
  refine W_region ?_
  refine WL_step rfl rfl (r_fieldAddr fa28_1 rfl) ?_
  refine WL_step rfl rfl (r_loadAt _m1.at_ agg22 rfl rfl) ?_
  refine WL_step rfl rfl (r_len (by rw [el22]; rfl) rfl) ?_
  refine WL_step rfl rfl (r_assign rfl) ?_
  refine WL_nil ?_
  refine thn_nrm (_hK_3 _ _ ?_)
  clear _hK_3
  refine W_seq fun _K_4 _hK_4 => ?_
  refine W_seq fun _K_5 _hK_5 => ?_
  refine W_region ?_
  refine WL_step rfl rfl (r_move rfl) ?_
  refine WL_s rfl rfl ?_
  refine Step.call (r_call (xs := [.tmp 11, .const (Go.Value.int Go.IntKind.i64 1), .const (Go.Value.int Go.IntKind.i64 12)]) fk44 rfl) (c_impl_within _ _ _ ) fun _v12 _w_6 _q12 => ?_
  obtain ⟨rfl, _cw_6⟩ := _q12
  have _cw_6z := _cw_6.size
  have E := E.trans _cw_6
  refine WL_step rfl rfl (r_not rfl) ?_
  refine WL_step rfl rfl (r_move rfl) ?_
  refine WL_split (d := 14) rfl (fun _h14 => ?_) (fun _h14 => ?_)
  · have _kb_7 := _h14
    have _h14 := bf_d (bt_n _h14)
    refine WL_skip rfl rfl ?_
    refine WL_skip rfl rfl ?_
    refine WL_skip rfl rfl ?_
    refine WL_skip rfl rfl ?_
    refine WL_skip rfl rfl ?_
    refine WL_skip rfl rfl ?_
    refine WL_step rfl rfl (r_pickT rfl rfl) ?_
    refine WL_step rfl rfl (r_move rfl) ?_
    refine WL_skip rfl rfl ?_
    refine WL_skip rfl rfl ?_
    refine WL_skip rfl rfl ?_
    refine WL_skip rfl rfl ?_
    refine WL_skip rfl rfl ?_
    refine WL_step rfl rfl (r_pickT rfl rfl) ?_
    refine WL_nil ?_
    refine thn_nrm (_hK_5 _ _ ?_)
    clear _hK_5
    refine W_condT rfl ?_
    refine W_seq fun _K_8 _hK_8 => ?_
    refine W_region ?_
    refine WL_step rfl rfl (r_assign rfl) ?_
    refine WL_nil ?_
    refine thn_nrm (_hK_8 _ _ ?_)
    clear _hK_8
    refine W_ret (thn_ret ?_)
    clear _hK_4
    exact ret_intro [_] ⟨rfl, trivial⟩ ⟨congrArg Value.bool (by first | exact tt_true ⟨by omega, _h22, by omega, rows_all _ht (by omega)⟩ | exact tt_false (fun e => _h14 (by have _h1 := e.1; have _h2 := e.2.1; omega)) | exact tt_false (fun e => _h22 e.2.1) | exact tt_false (fun e => _h28 (by have _h1 := e.2.2.1; omega)) | exact tt_false (fun e => _h46 (fits_el e.2 _hys34 _hy40)) | exact tt_false (fun e => _h50 (by have _h1 := (fits_row e.2 _hys34).1; omega))), E⟩
  · have _kb_7 := _h14
    have _h14 := bt_d (bf_n _h14)
    refine WL_step rfl rfl (r_fieldAddr fa28_0 rfl) ?_
    have _f_9 := (_m1.ch0 _cw_6)
    refine WL_step rfl rfl (r_loadAt _f_9.at_ agg3 rfl rfl) ?_
    refine WL_step rfl rfl (r_move rfl) ?_
    refine WL_step rfl rfl (r_sub (by omega) rfl rfl) ?_
    refine WL_s rfl rfl ?_
    refine Step.call (r_call (xs := [.tmp 16, .const (Go.Value.int Go.IntKind.i64 0), .tmp 18]) fk44 rfl) (c_impl_within _ _ _ ) fun _v19 _w_10 _q19 => ?_
    obtain ⟨rfl, _cw_10⟩ := _q19
    have _cw_10z := _cw_10.size
    have E := E.trans _cw_10
    refine WL_step rfl rfl (r_not rfl) ?_
    refine WL_step rfl rfl (r_pickF rfl rfl) ?_
    refine WL_step rfl rfl (r_move rfl) ?_
    refine WL_split (d := 22) rfl (fun _h22 => ?_) (fun _h22 => ?_)
    · have _kb_11 := _h22
      have _h22 := bf_d (bt_n _h22)
      refine WL_skip rfl rfl ?_
      refine WL_skip rfl rfl ?_
      refine WL_skip rfl rfl ?_
      refine WL_skip rfl rfl ?_
      refine WL_skip rfl rfl ?_
      refine WL_step rfl rfl (r_pickT rfl rfl) ?_
      refine WL_nil ?_
      refine thn_nrm (_hK_5 _ _ ?_)
      clear _hK_5
      refine W_condT rfl ?_
      refine W_seq fun _K_12 _hK_12 => ?_
      refine W_region ?_
      refine WL_step rfl rfl (r_assign rfl) ?_
      refine WL_nil ?_
      refine thn_nrm (_hK_12 _ _ ?_)
      clear _hK_12
      refine W_ret (thn_ret ?_)
      clear _hK_4
      exact ret_intro [_] ⟨rfl, trivial⟩ ⟨congrArg Value.bool (by first | exact tt_true ⟨by omega, _h22, by omega, rows_all _ht (by omega)⟩ | exact tt_false (fun e => _h14 (by have _h1 := e.1; have _h2 := e.2.1; omega)) | exact tt_false (fun e => _h22 e.2.1) | exact tt_false (fun e => _h28 (by have _h1 := e.2.2.1; omega)) | exact tt_false (fun e => _h46 (fits_el e.2 _hys34 _hy40)) | exact tt_false (fun e => _h50 (by have _h1 := (fits_row e.2 _hys34).1; omega))), E⟩
    · have _kb_11 := _h22
      have _h22 := bt_d (bf_n _h22)
      refine WL_step rfl rfl (r_fieldAddr fa28_2 rfl) ?_
      have _f_13 := (_f_9.ch0 _cw_10)
      refine WL_step rfl rfl (r_loadAt _f_13.at_ agg23 rfl rfl) ?_
      refine WL_step rfl rfl (r_len (by rw [el23]; rfl) rfl) ?_
      refine WL_step rfl rfl (r_move rfl) ?_
      refine WL_step rfl rfl (r_neq rfl rfl) ?_
      refine WL_step rfl rfl (r_pickF rfl rfl) ?_
      refine WL_nil ?_
      refine thn_nrm (_hK_5 _ _ ?_)
      clear _hK_5
      refine W_cond rfl (fun _h28 => ?_) (fun _h28 => ?_)
      · have _kb_14 := _h28
        have _h28 := bf_d (bt_n _h28)
        refine W_seq fun _K_15 _hK_15 => ?_
        refine W_region ?_
        refine WL_step rfl rfl (r_assign rfl) ?_
        refine WL_nil ?_
        refine thn_nrm (_hK_15 _ _ ?_)
        clear _hK_15
        refine W_ret (thn_ret ?_)
        clear _hK_4
        exact ret_intro [_] ⟨rfl, trivial⟩ ⟨congrArg Value.bool (by first | exact tt_true ⟨by omega, _h22, by omega, rows_all _ht (by omega)⟩ | exact tt_false (fun e => _h14 (by have _h1 := e.1; have _h2 := e.2.1; omega)) | exact tt_false (fun e => _h22 e.2.1) | exact tt_false (fun e => _h28 (by have _h1 := e.2.2.1; omega)) | exact tt_false (fun e => _h46 (fits_el e.2 _hys34 _hy40)) | exact tt_false (fun e => _h50 (by have _h1 := (fits_row e.2 _hys34).1; omega))), E⟩
      · have _kb_14 := _h28
        have _h28 := bt_d (bf_n _h28)
        refine W_skip ?_
        refine thn_nrm (_hK_4 _ _ ?_)
        clear _hK_4
        refine W_seq fun _K_16 _hK_16 => ?_
        refine W_seq fun _K_17 _hK_17 => ?_
        refine W_region ?_
        refine WL_step rfl rfl (r_fieldAddr fa28_2 rfl) ?_
        refine WL_step rfl rfl (r_loadAt _f_13.at_ agg23 rfl rfl) ?_
        refine WL_step rfl rfl (r_len (by rw [el23]; rfl) rfl) ?_
        refine WL_step rfl rfl (r_move rfl) ?_
        refine WL_nil ?_
        refine thn_nrm (_hK_17 _ _ ?_)
        clear _hK_17
        refine W_block ?_
        refine W_loop (σ := Nat) (fun (s : Nat) => [(3, (.int .i64 ((aA.length : Nat) : Int))), (30, (.slice _A_saN saN.length _C_saN)), (31, (.int .i64 ((saN.length : Nat) : Int))), (32, (.int .i64 ((s : Nat) : Int)))]) (fun (s : Nat) wx => Ch [] w wx ∧ _w_10.heap.size ≤ wx.heap.size ∧ (s ≤ aN.length) ∧ (RowsP aA.length aN s)) (fun (s : Nat) => aN.length - s) 0 (Sub.cons rfl (Sub.cons rfl (Sub.cons rfl (Sub.cons rfl (Sub.nil _))))) ⟨E, (Nat.le_refl _), (by omega), (rows_zero _ _)⟩ ?_
        rintro s _wr_18 ⟨E, _zz0, hs, _ht⟩
        have _E0h := E
        have _E0hz := _E0h.size
        refine W_seq fun _K_19 _hK_19 => ?_
        refine W_region ?_
        refine WL_step rfl rfl (r_lss rfl rfl) ?_
        refine WL_nil ?_
        refine thn_nrm (_hK_19 _ _ ?_)
        clear _hK_19
        refine W_seq fun _K_20 _hK_20 => ?_
        refine W_cond rfl (fun _h33 => ?_) (fun _h33 => ?_)
        · have _kb_21 := _h33
          have _h33 := bt_d _h33
          refine W_skip ?_
          refine thn_nrm (_hK_20 _ _ ?_)
          clear _hK_20
          refine W_seq fun _K_22 _hK_22 => ?_
          refine W_block ?_
          refine W_seq fun _K_23 _hK_23 => ?_
          refine W_region ?_
          refine WL_s rfl rfl ?_
          have _f_24 := (_h_saN.ch0 _E0h)
          refine (s_index _f_24 Sv.len el23 sz31 rfl rfl rfl (by omega) fun _p34 _y34 _hy34 _a34 => ?_)
          have _f_25 := (_rd_aN.ch0 _E0h)
          obtain ⟨_ys34, _hys34, _fs34⟩ := _f_25.get _hy34
          obtain ⟨_A34, _n34, _C34⟩ := _y34
          obtain rfl := _fs34.eqn
          have _l34 := _fs34.len
          replace _fs34 : Ls ics 1 _wr_18 LR_aN w.heap.size (.slice _A34 _ys34.length _C34) _ys34 := _fs34
          replace _a34 : At _wr_18 LL_saN w.heap.size _p34 ([(.slice _A34 _ys34.length _C34)]) := _a34
          refine WL_step rfl rfl (r_loadAt0 _a34 agg31 rfl rfl) ?_
          refine WL_step rfl rfl (r_assign rfl) ?_
          refine WL_nil ?_
          refine thn_nrm (_hK_23 _ _ ?_)
          clear _hK_23
          refine W_seq fun _K_26 _hK_26 => ?_
          refine W_seq fun _K_27 _hK_27 => ?_
          refine W_region ?_
          refine WL_step rfl rfl (r_move rfl) ?_
          refine WL_step rfl rfl (r_len (by rw [el31]; rfl) rfl) ?_
          refine WL_step rfl rfl (r_move rfl) ?_
          refine WL_nil ?_
          refine thn_nrm (_hK_27 _ _ ?_)
          clear _hK_27
          refine W_block ?_
          refine W_loop (σ := Nat) (fun (k : Nat) => [(3, (.int .i64 ((aA.length : Nat) : Int))), (5, (.slice _A34 _ys34.length _C34)), (30, (.slice _A_saN saN.length _C_saN)), (31, (.int .i64 ((saN.length : Nat) : Int))), (32, (.int .i64 ((s : Nat) : Int))), (33, (.bool (decide (((s : Nat) : Int) < ((saN.length : Nat) : Int))))), (34, (.pointer (some _p34))), (35, (.slice _A34 _ys34.length _C34)), (36, (.slice _A34 _ys34.length _C34)), (37, (.int .i64 ((_ys34.length : Nat) : Int))), (38, (.int .i64 ((k : Nat) : Int)))]) (fun (k : Nat) wx => Ch [] w wx ∧ _wr_18.heap.size ≤ wx.heap.size ∧ (k ≤ _ys34.length) ∧ (RowP aA.length _ys34 k) ∧ Ls Sv.cs 1 wx LL_saN w.heap.size (.slice _A_saN saN.length _C_saN) saN ∧ Rd ics 1 wx LR_aN w.heap.size saN aN ∧ At wx LL_saN w.heap.size _p34 ([(.slice _A34 _ys34.length _C34)]) ∧ Ls ics 1 wx LR_aN w.heap.size (.slice _A34 _ys34.length _C34) _ys34) (fun (k : Nat) => _ys34.length - k) 0 (Sub.cons rfl (Sub.cons rfl (Sub.cons rfl (Sub.cons rfl (Sub.cons rfl (Sub.cons rfl (Sub.cons rfl (Sub.cons rfl (Sub.cons rfl (Sub.cons rfl (Sub.cons rfl (Sub.nil _)))))))))))) ⟨E, (Nat.le_refl _), (by omega), (rowp_zero _ _), _f_24, _f_25, _a34, _fs34⟩ ?_
          rintro k _wr_28 ⟨E, _zz1, _hk, hp, _F1_0, _F1_1, _F1_2, _F1_3⟩
          have _E1h := E
          have _E1hz := _E1h.size
          refine W_seq fun _K_29 _hK_29 => ?_
          refine W_region ?_
          refine WL_step rfl rfl (r_lss rfl rfl) ?_
          refine WL_nil ?_
          refine thn_nrm (_hK_29 _ _ ?_)
          clear _hK_29
          refine W_seq fun _K_30 _hK_30 => ?_
          refine W_cond rfl (fun _h39 => ?_) (fun _h39 => ?_)
          · have _kb_31 := _h39
            have _h39 := bt_d _h39
            refine W_skip ?_
            refine thn_nrm (_hK_30 _ _ ?_)
            clear _hK_30
            refine W_seq fun _K_32 _hK_32 => ?_
            refine W_block ?_
            refine W_seq fun _K_33 _hK_33 => ?_
            refine W_region ?_
            refine WL_s rfl rfl ?_
            refine (s_index _F1_3 ics_len el31 sz3 rfl rfl rfl (by omega) fun _p40 _y40 _hy40 _a40 => ?_)
            refine WL_step rfl rfl (r_loadAt0 _a40 agg3 rfl rfl) ?_
            refine WL_step rfl rfl (r_assign rfl) ?_
            refine WL_nil ?_
            refine thn_nrm (_hK_33 _ _ ?_)
            clear _hK_33
            refine W_seq fun _K_34 _hK_34 => ?_
            refine W_region ?_
            refine WL_step rfl rfl (r_move rfl) ?_
            refine WL_step rfl rfl (r_move rfl) ?_
            refine WL_step rfl rfl (r_sub (by omega) rfl rfl) ?_
            refine WL_s rfl rfl ?_
            refine Step.call (r_call (xs := [.tmp 42, .const (Go.Value.int Go.IntKind.i64 (-1)), .tmp 44]) fk44 rfl) (c_impl_within _ _ _ ) fun _v45 _w_35 _q45 => ?_
            obtain ⟨rfl, _cw_35⟩ := _q45
            have _cw_35z := _cw_35.size
            have E := E.trans _cw_35
            refine WL_step rfl rfl (r_not rfl) ?_
            refine WL_nil ?_
            refine thn_nrm (_hK_34 _ _ ?_)
            clear _hK_34
            refine W_cond rfl (fun _h46 => ?_) (fun _h46 => ?_)
            · have _kb_36 := _h46
              have _h46 := bf_d (bt_n _h46)
              refine W_seq fun _K_37 _hK_37 => ?_
              refine W_region ?_
              refine WL_step rfl rfl (r_assign rfl) ?_
              refine WL_nil ?_
              refine thn_nrm (_hK_37 _ _ ?_)
              clear _hK_37
              refine W_ret (inB_ret (thn_ret (thn_ret (inB_ret (thn_ret (inB_ret (thn_ret (thn_ret (inB_ret (thn_ret ?_))))))))))
              clear _hK_16 _hK_22 _hK_26 _hK_32
              exact ret_intro [_] ⟨rfl, trivial⟩ ⟨congrArg Value.bool (by first | exact tt_true ⟨by omega, _h22, by omega, rows_all _ht (by omega)⟩ | exact tt_false (fun e => _h14 (by have _h1 := e.1; have _h2 := e.2.1; omega)) | exact tt_false (fun e => _h22 e.2.1) | exact tt_false (fun e => _h28 (by have _h1 := e.2.2.1; omega)) | exact tt_false (fun e => _h46 (fits_el e.2 _hys34 _hy40)) | exact tt_false (fun e => _h50 (by have _h1 := (fits_row e.2 _hys34).1; omega))), E⟩
            · have _kb_36 := _h46
              have _h46 := bt_d (bf_n _h46)
              refine W_skip ?_
              refine inB_nrm ?_
              refine thn_nrm (_hK_32 _ _ ?_)
              clear _hK_32
              refine W_region ?_
              refine WL_step rfl rfl (r_add (by omega) rfl rfl) ?_
              refine WL_step rfl rfl (r_move rfl) ?_
              refine WL_nil ?_
              have _f_38 := (_F1_0.ch0 _cw_35)
              have _f_39 := (_F1_1.ch0 _cw_35)
              have _f_40 := (_F1_2.ch0 _cw_35)
              have _f_41 := (_F1_3.ch0 _cw_35)
              exact thn_nrm (Exists.intro (k + 1) ⟨⟨E, (by omega), (by omega), (rowp_step hp _hy40 _h46), _f_38, _f_39, _f_40, _f_41⟩, Sub.cons rfl (Sub.cons rfl (Sub.cons rfl (Sub.cons rfl (Sub.cons rfl (Sub.cons rfl (Sub.cons rfl (Sub.cons rfl (Sub.cons rfl (Sub.cons rfl (Sub.cons rfl (Sub.nil _))))))))))), (by first | omega | (dsimp only; omega))⟩)
          · have _kb_31 := _h39
            have _h39 := bf_d _h39
            refine W_exit (thn_exit (thn_exit (inB_hit ?_)))
            refine thn_nrm (_hK_26 _ _ ?_)
            clear _hK_26
            refine W_seq fun _K_42 _hK_42 => ?_
            refine W_region ?_
            refine WL_step rfl rfl (r_move rfl) ?_
            refine WL_step rfl rfl (r_len (by rw [el31]; rfl) rfl) ?_
            refine WL_step rfl rfl (r_neq rfl rfl) ?_
            refine WL_nil ?_
            refine thn_nrm (_hK_42 _ _ ?_)
            clear _hK_42
            refine W_cond rfl (fun _h50 => ?_) (fun _h50 => ?_)
            · have _kb_43 := _h50
              have _h50 := bf_d (bt_n _h50)
              refine W_seq fun _K_44 _hK_44 => ?_
              refine W_region ?_
              refine WL_step rfl rfl (r_assign rfl) ?_
              refine WL_nil ?_
              refine thn_nrm (_hK_44 _ _ ?_)
              clear _hK_44
              refine W_ret (inB_ret (thn_ret (thn_ret (inB_ret (thn_ret ?_)))))
              clear _hK_16 _hK_22 _hK_30
              exact ret_intro [_] ⟨rfl, trivial⟩ ⟨congrArg Value.bool (by first | exact tt_true ⟨by omega, _h22, by omega, rows_all _ht (by omega)⟩ | exact tt_false (fun e => _h14 (by have _h1 := e.1; have _h2 := e.2.1; omega)) | exact tt_false (fun e => _h22 e.2.1) | exact tt_false (fun e => _h28 (by have _h1 := e.2.2.1; omega)) | exact tt_false (fun e => _h46 (fits_el e.2 _hys34 _hy40)) | exact tt_false (fun e => _h50 (by have _h1 := (fits_row e.2 _hys34).1; omega))), E⟩
            · have _kb_43 := _h50
              have _h50 := bt_d (bf_n _h50)
              refine W_skip ?_
              refine inB_nrm ?_
              refine thn_nrm (_hK_22 _ _ ?_)
              clear _hK_22
              refine W_region ?_
              refine WL_step rfl rfl (r_add (by omega) rfl rfl) ?_
              refine WL_step rfl rfl (r_move rfl) ?_
              refine WL_nil ?_
              exact thn_nrm (Exists.intro (s + 1) ⟨⟨E, (by omega), (by omega), (rows_step _ht _hys34 ⟨by omega, rowp_all hp (by omega)⟩)⟩, Sub.cons rfl (Sub.cons rfl (Sub.cons rfl (Sub.cons rfl (Sub.nil _)))), (by first | omega | (dsimp only; omega))⟩)
        · have _kb_21 := _h33
          have _h33 := bf_d _h33
          refine W_exit (thn_exit (thn_exit (inB_hit ?_)))
          refine thn_nrm (_hK_16 _ _ ?_)
          clear _hK_16
          refine W_seq fun _K_45 _hK_45 => ?_
          refine W_region ?_
          refine WL_step rfl rfl (r_assign rfl) ?_
          refine WL_nil ?_
          refine thn_nrm (_hK_45 _ _ ?_)
          clear _hK_45
          refine W_ret ?_
          clear _hK_20
          exact ret_intro [_] ⟨rfl, trivial⟩ ⟨congrArg Value.bool (by first | exact tt_true ⟨by omega, _h22, by omega, rows_all _ht (by omega)⟩ | exact tt_false (fun e => _h14 (by have _h1 := e.1; have _h2 := e.2.1; omega)) | exact tt_false (fun e => _h22 e.2.1) | exact tt_false (fun e => _h28 (by have _h1 := e.2.2.1; omega)) | exact tt_false (fun e => _h46 (fits_el e.2 _hys34 _hy40)) | exact tt_false (fun e => _h50 (by have _h1 := (fits_row e.2 _hys34).1; omega))), E⟩

/-- impl.Automaton).accepts -/
theorem c_impl_Automaton_accepts {w : World} (aS : Int) {LL_aA _B_aA : Nat} {_v_aA : Value} {aA : List Bool} (_h_aA : Ls bcs 1 w LL_aA _B_aA _v_aA aA) {LL_saN _B_saN : Nat} {_v_saN : Value} {saN : List Sv} (_h_saN : Ls Sv.cs 1 w LL_saN _B_saN _v_saN saN) {LR_aN BB_aN : Nat} {aN : List (List Int)} (_rd_aN : Rd ics 1 w LR_aN BB_aN saN aN) (s : Int) (hs : s ≤ (aA.length : Int) - 1) :
    Ctr Try.prog 40 #[(.agg #[(.int .i64 aS), _v_aA, _v_saN]), (.int .i64 s)] w (fun v w' => v = .bool (accA aA s) ∧ Ch [] w w') := by
  obtain ⟨_A_aA, _C_aA, _e1_aA⟩ := _h_aA.val
  subst _e1_aA
  have _l_aA := _h_aA.len
  have _h_aA := _h_aA.here (by decide)
  obtain ⟨_A_saN, _C_saN, _e1_saN⟩ := _h_saN.val
  subst _e1_saN
  have _l_saN := _h_saN.len
  have _h_saN := _h_saN.here (by decide)
  have _rd_aN := _rd_aN.here (by decide)
  have _rl_aN := _rd_aN.1
  have E := Ch.refl [] w
  refine Ctr_of_W (N := 14) (vs0 := [(.agg #[(.int .i64 aS), (.slice _A_aA aA.length _C_aA), (.slice _A_saN saN.length _C_saN)]), (.int .i64 s)]) Try.func40 rfl rfl rfl ?_
  refine W_seq fun _K_1 _hK_1 => ?_
  refine W_region ?_
  refine WL_s rfl rfl ?_
  refine s_box rfl fun _b2 _w_2 _m2 _cw_2 _e2 => ?_
  have _cw_2z := _cw_2.size
  have E := E.trans _cw_2
  have _z2 := _m2.lt
  replace _m2 : Blk _w_2 _b2 28 [(.int .i64 aS), (.slice _A_aA aA.length _C_aA), (.slice _A_saN saN.length _C_saN)] := _m2
  refine WL_step rfl rfl (r_assign rfl) ?_
  refine WL_nil ?_
  refine thn_nrm (_hK_1 _ _ ?_)
  clear _hK_1
  refine W_seq fun _K_3 _hK_3 => ?_
  refine W_region ?_
  refine WL_step rfl rfl (r_move rfl) ?_
  refine WL_step rfl rfl (r_geq rfl rfl) ?_
  refine WL_step rfl rfl (r_move rfl) ?_
  refine WL_split (d := 7) rfl (fun _h7 => ?_) (fun _h7 => ?_)
  · have _kb_4 := _h7
    have _h7 := bt_d _h7
    refine WL_step rfl rfl (r_fieldAddr fa28_1 rfl) ?_
    refine WL_step rfl rfl (r_loadAt _m2.at_ agg22 rfl rfl) ?_
    refine WL_step rfl rfl (r_move rfl) ?_
    refine WL_s rfl rfl ?_
    have _f_5 := (_h_aA.ch0 _cw_2)
    refine (s_index (j := s.toNat) _f_5 bcs_len el22 sz4 rfl rfl (by omega) (by omega) fun _p11 _y11 _hy11 _a11 => ?_)
    refine WL_step rfl rfl (r_loadAt0 _a11 agg4 rfl rfl) ?_
    refine WL_step rfl rfl (r_pickT rfl rfl) ?_
    refine WL_step rfl rfl (r_assign rfl) ?_
    refine WL_nil ?_
    refine thn_nrm (_hK_3 _ _ ?_)
    clear _hK_3
    refine W_ret ?_
    exact ret_intro [_] ⟨rfl, trivial⟩ ⟨congrArg Value.bool (by first | exact accA_y (by omega) _hy11 | exact accA_n (by omega)), E⟩
  · have _kb_4 := _h7
    have _h7 := bf_d _h7
    refine WL_skip rfl rfl ?_
    refine WL_skip rfl rfl ?_
    refine WL_skip rfl rfl ?_
    refine WL_skip rfl rfl ?_
    refine WL_skip rfl rfl ?_
    refine WL_step rfl rfl (r_pickF rfl rfl) ?_
    refine WL_step rfl rfl (r_assign rfl) ?_
    refine WL_nil ?_
    refine thn_nrm (_hK_3 _ _ ?_)
    clear _hK_3
    refine W_ret ?_
    exact ret_intro [_] ⟨rfl, trivial⟩ ⟨congrArg Value.bool (by first | exact accA_y (by omega) _hy11 | exact accA_n (by omega)), E⟩

/-- impl.MissingWord$1 -/
theorem c_impl_MissingWord_1 {w : World} (s : St2) (bS : Int) {LL_bA _B_bA : Nat} {_v_bA : Value} {bA : List Bool} (_h_bA : Ls bcs 1 w LL_bA _B_bA _v_bA bA) {LL_sbN _B_sbN : Nat} {_v_sbN : Value} {sbN : List Sv} (_h_sbN : Ls Sv.cs 1 w LL_sbN _B_sbN _v_sbN sbN) {LR_bN BB_bN : Nat} {bN : List (List Int)} (_rd_bN : Rd ics 1 w LR_bN BB_bN sbN bN) {b_b t_b : Nat} (_hb_b : Blk w b_b t_b [(.int .i64 bS), _v_bA, _v_sbN]) (aS : Int) {LL_aA _B_aA : Nat} {_v_aA : Value} {aA : List Bool} (_h_aA : Ls bcs 1 w LL_aA _B_aA _v_aA aA) {LL_saN _B_saN : Nat} {_v_saN : Value} {saN : List Sv} (_h_saN : Ls Sv.cs 1 w LL_saN _B_saN _v_saN saN) {LR_aN BB_aN : Nat} {aN : List (List Int)} (_rd_aN : Rd ics 1 w LR_aN BB_aN saN aN) {b_a t_a : Nat} (_hb_a : Blk w b_a t_a [(.int .i64 aS), _v_aA, _v_saN]) (hs : inS aA bA s) :
    Ctr Try.prog 39 #[(.agg #[(.int .i64 s.a), (.int .i64 s.b)]), (.pointer (some ⟨b_b, 0, none⟩)), (.pointer (some ⟨b_a, 0, none⟩))] w (fun v w' => v = .bool (tsD aA bA true s) ∧ Ch [] w w') := by
  obtain ⟨_A_bA, _C_bA, _e1_bA⟩ := _h_bA.val
  subst _e1_bA
  have _l_bA := _h_bA.len
  have _h_bA := _h_bA.here (by decide)
  obtain ⟨_A_sbN, _C_sbN, _e1_sbN⟩ := _h_sbN.val
  subst _e1_sbN
  have _l_sbN := _h_sbN.len
  have _h_sbN := _h_sbN.here (by decide)
  have _rd_bN := _rd_bN.here (by decide)
  have _rl_bN := _rd_bN.1
  have _zb_b := _hb_b.lt
  obtain ⟨_A_aA, _C_aA, _e1_aA⟩ := _h_aA.val
  subst _e1_aA
  have _l_aA := _h_aA.len
  have _h_aA := _h_aA.here (by decide)
  obtain ⟨_A_saN, _C_saN, _e1_saN⟩ := _h_saN.val
  subst _e1_saN
  have _l_saN := _h_saN.len
  have _h_saN := _h_saN.here (by decide)
  have _rd_aN := _rd_aN.here (by decide)
  have _rl_aN := _rd_aN.1
  have _zb_a := _hb_a.lt
  have E := Ch.refl [] w
  unfold inS inA at hs
  refine Ctr_of_W (N := 16) (vs0 := [(.agg #[(.int .i64 s.a), (.int .i64 s.b)]), (.pointer (some ⟨b_b, 0, none⟩)), (.pointer (some ⟨b_a, 0, none⟩))]) Try.func39 rfl rfl rfl ?_
  refine W_seq fun _K_1 _hK_1 => ?_
  refine W_region ?_
  refine WL_s rfl rfl ?_
  refine s_box rfl fun _b3 _w_2 _m3 _cw_2 _e3 => ?_
  have _cw_2z := _cw_2.size
  have E := E.trans _cw_2
  have _z3 := _m3.lt
  replace _m3 : Blk _w_2 _b3 51 [(.int .i64 s.a), (.int .i64 s.b)] := _m3
  refine WL_step rfl rfl (r_assign rfl) ?_
  refine WL_nil ?_
  refine thn_nrm (_hK_1 _ _ ?_)
  clear _hK_1
  refine W_seq fun _K_3 _hK_3 => ?_
  refine W_region ?_
  have _f_4 := (_hb_b.ch0 _cw_2)
  refine WL_step rfl rfl (r_loadAtA0 _f_4.at_ agg28 sz28 rfl) ?_
  refine WL_step rfl rfl (r_fieldAddr fa51_1 rfl) ?_
  refine WL_step rfl rfl (r_loadAt _m3.at_ agg3 rfl rfl) ?_
  refine WL_s rfl rfl ?_
  have _f_5 := (_h_bA.ch0 _cw_2)
  have _f_6 := (_rd_bN.ch0 _cw_2)
  have _f_7 := (_h_sbN.ch0 _cw_2)
  refine Step.call (r_call (xs := [.tmp 5, .tmp 7]) fk40 rfl) (c_impl_Automaton_accepts _ _f_5 _f_7 _f_6 _ (by omega)) fun _v8 _w_8 _q8 => ?_
  obtain ⟨rfl, _cw_8⟩ := _q8
  have _cw_8z := _cw_8.size
  have E := E.trans _cw_8
  refine WL_step rfl rfl (r_move rfl) ?_
  refine WL_split (d := 9) rfl (fun _h9 => ?_) (fun _h9 => ?_)
  · have _kb_9 := _h9
    have _f_10 := ((_hb_a.ch0 _cw_2).ch0 _cw_8)
    refine WL_step rfl rfl (r_loadAtA0 _f_10.at_ agg28 sz28 rfl) ?_
    refine WL_step rfl rfl (r_fieldAddr fa51_0 rfl) ?_
    have _f_11 := (_m3.ch0 _cw_8)
    refine WL_step rfl rfl (r_loadAt _f_11.at_ agg3 rfl rfl) ?_
    refine WL_s rfl rfl ?_
    have _f_12 := ((_h_aA.ch0 _cw_2).ch0 _cw_8)
    have _f_13 := ((_rd_aN.ch0 _cw_2).ch0 _cw_8)
    have _f_14 := ((_h_saN.ch0 _cw_2).ch0 _cw_8)
    refine Step.call (r_call (xs := [.tmp 10, .tmp 12]) fk40 rfl) (c_impl_Automaton_accepts _ _f_12 _f_14 _f_13 _ (by omega)) fun _v13 _w_15 _q13 => ?_
    obtain ⟨rfl, _cw_15⟩ := _q13
    have _cw_15z := _cw_15.size
    have E := E.trans _cw_15
    refine WL_step rfl rfl (r_not rfl) ?_
    refine WL_step rfl rfl (r_pickT rfl rfl) ?_
    refine WL_step rfl rfl (r_assign rfl) ?_
    refine WL_nil ?_
    refine thn_nrm (_hK_3 _ _ ?_)
    clear _hK_3
    refine W_ret ?_
    exact ret_intro [_] ⟨rfl, trivial⟩ ⟨congrArg Value.bool (by unfold tsD; first | (simp [_h9]; done) | simp_all), E⟩
  · have _kb_9 := _h9
    refine WL_skip rfl rfl ?_
    refine WL_skip rfl rfl ?_
    refine WL_skip rfl rfl ?_
    refine WL_skip rfl rfl ?_
    refine WL_skip rfl rfl ?_
    refine WL_step rfl rfl (r_pickF rfl rfl) ?_
    refine WL_step rfl rfl (r_assign rfl) ?_
    refine WL_nil ?_
    refine thn_nrm (_hK_3 _ _ ?_)
    clear _hK_3
    refine W_ret ?_
    exact ret_intro [_] ⟨rfl, trivial⟩ ⟨congrArg Value.bool (by unfold tsD; first | (simp [_h9]; done) | simp_all), E⟩

/-- impl.copyInts -/
theorem c_impl_copyInts {w : World} {LL_l _B_l : Nat} {_v_l : Value} {l : List Int} (_h_l : Ls ics 1 w LL_l _B_l _v_l l) (hb : l.length ≤ 4194304) :
    Ctr Try.prog 65 #[_v_l] w (fun v w' => Ol ics 3 1 w' v (l) ∧ Lo w.heap.size v ∧ Ch [] w w') := by
  obtain ⟨_A_l, _C_l, _e1_l⟩ := _h_l.val
  subst _e1_l
  have _l_l := _h_l.len
  have _h_l := _h_l.here (by decide)
  have E := Ch.refl [] w
  refine Ctr_of_W (N := 6) (vs0 := [(.slice _A_l l.length _C_l)]) Try.func65 rfl rfl rfl ?_
  refine W_seq fun _K_1 _hK_1 => ?_
  refine W_region ?_
  refine WL_step rfl rfl (r_assign rfl) ?_
  refine WL_nil ?_
  refine thn_nrm (_hK_1 _ _ ?_)
  clear _hK_1
  refine W_seq fun _K_2 _hK_2 => ?_
  refine W_region ?_
  refine WL_s rfl rfl ?_
  refine s_buildSlice0 (k := 1) ics el31 sz3 fun _v3 _w_3 _q3 _lo3 _cw_3 => ?_
  have _cw_3z := _cw_3.size
  have E := E.trans _cw_3
  obtain ⟨_Av3, _Cv3, _ev3⟩ := _q3.val
  subst _ev3
  have _lv3 := _q3.len
  have _hiv3 := _q3.lt
  refine WL_step rfl rfl (r_move rfl) ?_
  refine WL_s rfl rfl ?_
  have _f_5 := (_h_l.ch0 _cw_3)
  refine s_append (cs := ics) el31 sz3 by3 zr3 rfl (by decide) ics_one _q3 _f_5 rfl rfl (by first | omega | (simp only [List.length_append, List.length_nil, List.length_cons, List.length_replicate, List.length_set, List.length_reverse, List.length_map] at *; omega) | (simp at *; omega)) (by first | omega | (simp only [List.length_append, List.length_nil, List.length_cons, List.length_replicate, List.length_set, List.length_reverse, List.length_map] at *; omega) | (simp at *; omega)) _lo3 (by omega) fun _v5 _w_4 _q5 _lo5 _ap5 _cw_4 => ?_
  have _cw_4z := _cw_4.size
  have E := E.step _cw_4 (fun i hi => .inl (by have _h1 := _lo3 _ hi; omega))
  replace _q5 : Ol ics 3 1 _w_4 _v5 l := _q5
  obtain ⟨_Av5, _Cv5, _ev5⟩ := _q5.val
  subst _ev5
  have _lv5 := _q5.len
  have _hiv5 := _q5.lt
  refine WL_step rfl rfl (r_assign rfl) ?_
  refine WL_nil ?_
  refine thn_nrm (_hK_2 _ _ ?_)
  clear _hK_2
  refine W_ret ?_
  have _o_6 : Ol ics 3 1 _w_4 (.slice _Av5 (l).length _Cv5) (l) := by
    have hx := _q5
    first | exact hx | simpa using hx
  exact ret_intro [_] ⟨rfl, trivial⟩ ⟨_o_6, Lo.down _lo5 (by omega), E⟩

/-- impl.isLetter -/
theorem c_impl_isLetter {w : World} (n : Int) :
    Ctr Try.prog 67 #[(.int .i64 n)] w (fun v w' => v = .bool (decide (0 ≤ n ∧ n ≤ 8)) ∧ Ch [] w w') := by
  have E := Ch.refl [] w
  refine Ctr_of_W (N := 5) (vs0 := [(.int .i64 n)]) Try.func67 rfl rfl rfl ?_
  refine W_seq fun _K_1 _hK_1 => ?_
  refine W_region ?_
  refine WL_step rfl rfl (r_assign rfl) ?_
  refine WL_nil ?_
  refine thn_nrm (_hK_1 _ _ ?_)
  clear _hK_1
  refine W_seq fun _K_2 _hK_2 => ?_
  refine W_region ?_
  refine WL_step rfl rfl (r_move rfl) ?_
  refine WL_s rfl rfl ?_
  refine Step.call (r_call (xs := [.tmp 3, .const (Go.Value.int Go.IntKind.i64 0), .const (Go.Value.int Go.IntKind.i64 8)]) fk44 rfl) (c_impl_within _ _ _ ) fun _v4 _w_3 _q4 => ?_
  obtain ⟨rfl, _cw_3⟩ := _q4
  have _cw_3z := _cw_3.size
  have E := E.trans _cw_3
  refine WL_step rfl rfl (r_assign rfl) ?_
  refine WL_nil ?_
  refine thn_nrm (_hK_2 _ _ ?_)
  clear _hK_2
  refine W_ret ?_
  exact ret_intro [_] ⟨rfl, trivial⟩ ⟨congrArg Value.bool rfl, E⟩

/-- impl.Automaton).move -/
theorem c_impl_Automaton_move {w : World} (aS : Int) {LL_aA _B_aA : Nat} {_v_aA : Value} {aA : List Bool} (_h_aA : Ls bcs 1 w LL_aA _B_aA _v_aA aA) {LL_saN _B_saN : Nat} {_v_saN : Value} {saN : List Sv} (_h_saN : Ls Sv.cs 1 w LL_saN _B_saN _v_saN saN) {LR_aN BB_aN : Nat} {aN : List (List Int)} (_rd_aN : Rd ics 1 w LR_aN BB_aN saN aN) (s : Int) (x : Int) (hv : ValidA aS aA aN) (hs : -1 ≤ s ∧ s ≤ (aA.length : Int) - 1) :
    Ctr Try.prog 48 #[(.agg #[(.int .i64 aS), _v_aA, _v_saN]), (.int .i64 s), (.int .i64 x)] w (fun v w' => v = .int .i64 (moveA aN s x) ∧ Ch [] w w') := by
  obtain ⟨_A_aA, _C_aA, _e1_aA⟩ := _h_aA.val
  subst _e1_aA
  have _l_aA := _h_aA.len
  have _h_aA := _h_aA.here (by decide)
  obtain ⟨_A_saN, _C_saN, _e1_saN⟩ := _h_saN.val
  subst _e1_saN
  have _l_saN := _h_saN.len
  have _h_saN := _h_saN.here (by decide)
  have _rd_aN := _rd_aN.here (by decide)
  have _rl_aN := _rd_aN.1
  have E := Ch.refl [] w
  have hv2 := hv.2.2.1
  refine Ctr_of_W (N := 22) (vs0 := [(.agg #[(.int .i64 aS), (.slice _A_aA aA.length _C_aA), (.slice _A_saN saN.length _C_saN)]), (.int .i64 s), (.int .i64 x)]) Try.func48 rfl rfl rfl ?_
  refine W_seq fun _K_1 _hK_1 => ?_
  refine W_region ?_
  refine WL_s rfl rfl ?_
  refine s_box rfl fun _b3 _w_2 _m3 _cw_2 _e3 => ?_
  have _cw_2z := _cw_2.size
  have E := E.trans _cw_2
  have _z3 := _m3.lt
  replace _m3 : Blk _w_2 _b3 28 [(.int .i64 aS), (.slice _A_aA aA.length _C_aA), (.slice _A_saN saN.length _C_saN)] := _m3
  refine WL_step rfl rfl (r_assign rfl) ?_
  refine WL_nil ?_
  refine thn_nrm (_hK_1 _ _ ?_)
  clear _hK_1
  refine W_seq fun _K_3 _hK_3 => ?_
  refine W_seq fun _K_4 _hK_4 => ?_
  refine W_region ?_
  refine WL_step rfl rfl (r_move rfl) ?_
  refine WL_step rfl rfl (r_lss rfl rfl) ?_
  refine WL_step rfl rfl (r_move rfl) ?_
  refine WL_split (d := 9) rfl (fun _h9 => ?_) (fun _h9 => ?_)
  · have _kb_5 := _h9
    have _h9 := bt_d _h9
    refine WL_skip rfl rfl ?_
    refine WL_skip rfl rfl ?_
    refine WL_skip rfl rfl ?_
    refine WL_step rfl rfl (r_pickT rfl rfl) ?_
    refine WL_nil ?_
    refine thn_nrm (_hK_4 _ _ ?_)
    clear _hK_4
    refine W_condT rfl ?_
    refine W_seq fun _K_6 _hK_6 => ?_
    refine W_region ?_
    refine WL_step rfl rfl (r_assign rfl) ?_
    refine WL_nil ?_
    refine thn_nrm (_hK_6 _ _ ?_)
    clear _hK_6
    refine W_ret (thn_ret ?_)
    clear _hK_3
    exact ret_intro [_] ⟨rfl, trivial⟩ ⟨congrArg (Value.int .i64) (by first | exact move_y (by omega) _h13 _hys17 _hy20 | exact move_n (.inl _h9) | exact move_n (.inr _h13) | exact move_n (.inl (by omega))), E⟩
  · have _kb_5 := _h9
    have _h9 := bf_d _h9
    refine WL_step rfl rfl (r_move rfl) ?_
    refine WL_s rfl rfl ?_
    refine Step.call (r_call (xs := [.tmp 10]) fk67 rfl) (c_impl_isLetter _ ) fun _v11 _w_7 _q11 => ?_
    obtain ⟨rfl, _cw_7⟩ := _q11
    have _cw_7z := _cw_7.size
    have E := E.trans _cw_7
    refine WL_step rfl rfl (r_not rfl) ?_
    refine WL_step rfl rfl (r_pickF rfl rfl) ?_
    refine WL_nil ?_
    refine thn_nrm (_hK_4 _ _ ?_)
    clear _hK_4
    refine W_cond rfl (fun _h13 => ?_) (fun _h13 => ?_)
    · have _kb_8 := _h13
      have _h13 := bf_d (bt_n _h13)
      refine W_seq fun _K_9 _hK_9 => ?_
      refine W_region ?_
      refine WL_step rfl rfl (r_assign rfl) ?_
      refine WL_nil ?_
      refine thn_nrm (_hK_9 _ _ ?_)
      clear _hK_9
      refine W_ret (thn_ret ?_)
      clear _hK_3
      exact ret_intro [_] ⟨rfl, trivial⟩ ⟨congrArg (Value.int .i64) (by first | exact move_y (by omega) _h13 _hys17 _hy20 | exact move_n (.inl _h9) | exact move_n (.inr _h13) | exact move_n (.inl (by omega))), E⟩
    · have _kb_8 := _h13
      have _h13 := bt_d (bf_n _h13)
      refine W_skip ?_
      refine thn_nrm (_hK_3 _ _ ?_)
      clear _hK_3
      refine W_seq fun _K_10 _hK_10 => ?_
      refine W_region ?_
      refine WL_step rfl rfl (r_fieldAddr fa28_2 rfl) ?_
      have _f_11 := (_m3.ch0 _cw_7)
      refine WL_step rfl rfl (r_loadAt _f_11.at_ agg23 rfl rfl) ?_
      refine WL_step rfl rfl (r_move rfl) ?_
      refine WL_s rfl rfl ?_
      have _f_12 := ((_h_saN.ch0 _cw_2).ch0 _cw_7)
      refine (s_index (j := s.toNat) _f_12 Sv.len el23 sz31 rfl rfl (by omega) (by omega) fun _p17 _y17 _hy17 _a17 => ?_)
      have _f_13 := ((_rd_aN.ch0 _cw_2).ch0 _cw_7)
      obtain ⟨_ys17, _hys17, _fs17⟩ := _f_13.get _hy17
      obtain ⟨_A17, _n17, _C17⟩ := _y17
      obtain rfl := _fs17.eqn
      have _l17 := _fs17.len
      replace _fs17 : Ls ics 1 _w_7 LR_aN w.heap.size (.slice _A17 _ys17.length _C17) _ys17 := _fs17
      replace _a17 : At _w_7 LL_saN w.heap.size _p17 ([(.slice _A17 _ys17.length _C17)]) := _a17
      have _e17 := (fits_row hv.2 _hys17).1
      refine WL_step rfl rfl (r_loadAt0 _a17 agg31 rfl rfl) ?_
      refine WL_step rfl rfl (r_move rfl) ?_
      refine WL_s rfl rfl ?_
      refine (s_index (j := x.toNat) _fs17 ics_len el31 sz3 rfl rfl (by omega) (by omega) fun _p20 _y20 _hy20 _a20 => ?_)
      refine WL_step rfl rfl (r_loadAt0 _a20 agg3 rfl rfl) ?_
      refine WL_step rfl rfl (r_assign rfl) ?_
      refine WL_nil ?_
      refine thn_nrm (_hK_10 _ _ ?_)
      clear _hK_10
      refine W_ret ?_
      exact ret_intro [_] ⟨rfl, trivial⟩ ⟨congrArg (Value.int .i64) (by first | exact move_y (by omega) _h13 _hys17 _hy20 | exact move_n (.inl _h9) | exact move_n (.inr _h13) | exact move_n (.inl (by omega))), E⟩

/-- impl.together$1 -/
theorem c_impl_together_1 {w : World} (s : St2) (x : Int) (aS : Int) {LL_aA _B_aA : Nat} {_v_aA : Value} {aA : List Bool} (_h_aA : Ls bcs 1 w LL_aA _B_aA _v_aA aA) {LL_saN _B_saN : Nat} {_v_saN : Value} {saN : List Sv} (_h_saN : Ls Sv.cs 1 w LL_saN _B_saN _v_saN saN) {LR_aN BB_aN : Nat} {aN : List (List Int)} (_rd_aN : Rd ics 1 w LR_aN BB_aN saN aN) {b_a t_a : Nat} (_hb_a : Blk w b_a t_a [(.int .i64 aS), _v_aA, _v_saN]) (bS : Int) {LL_bA _B_bA : Nat} {_v_bA : Value} {bA : List Bool} (_h_bA : Ls bcs 1 w LL_bA _B_bA _v_bA bA) {LL_sbN _B_sbN : Nat} {_v_sbN : Value} {sbN : List Sv} (_h_sbN : Ls Sv.cs 1 w LL_sbN _B_sbN _v_sbN sbN) {LR_bN BB_bN : Nat} {bN : List (List Int)} (_rd_bN : Rd ics 1 w LR_bN BB_bN sbN bN) {b_b t_b : Nat} (_hb_b : Blk w b_b t_b [(.int .i64 bS), _v_bA, _v_sbN]) (hva : ValidA aS aA aN) (hvb : ValidA bS bA bN) (hs : inS aA bA s) :
    Ctr Try.prog 66 #[(.agg #[(.int .i64 s.a), (.int .i64 s.b)]), (.int .i64 x), (.pointer (some ⟨b_a, 0, none⟩)), (.pointer (some ⟨b_b, 0, none⟩))] w (fun v w' => v = .agg (St2.cs ((⟨moveA aN s.a x, moveA bN s.b x⟩ : St2))).toArray ∧ Ch [] w w') := by
  obtain ⟨_A_aA, _C_aA, _e1_aA⟩ := _h_aA.val
  subst _e1_aA
  have _l_aA := _h_aA.len
  have _h_aA := _h_aA.here (by decide)
  obtain ⟨_A_saN, _C_saN, _e1_saN⟩ := _h_saN.val
  subst _e1_saN
  have _l_saN := _h_saN.len
  have _h_saN := _h_saN.here (by decide)
  have _rd_aN := _rd_aN.here (by decide)
  have _rl_aN := _rd_aN.1
  have _zb_a := _hb_a.lt
  obtain ⟨_A_bA, _C_bA, _e1_bA⟩ := _h_bA.val
  subst _e1_bA
  have _l_bA := _h_bA.len
  have _h_bA := _h_bA.here (by decide)
  obtain ⟨_A_sbN, _C_sbN, _e1_sbN⟩ := _h_sbN.val
  subst _e1_sbN
  have _l_sbN := _h_sbN.len
  have _h_sbN := _h_sbN.here (by decide)
  have _rd_bN := _rd_bN.here (by decide)
  have _rl_bN := _rd_bN.1
  have _zb_b := _hb_b.lt
  have E := Ch.refl [] w
  unfold inS inA at hs
  refine Ctr_of_W (N := 18) (vs0 := [(.agg #[(.int .i64 s.a), (.int .i64 s.b)]), (.int .i64 x), (.pointer (some ⟨b_a, 0, none⟩)), (.pointer (some ⟨b_b, 0, none⟩))]) Try.func66 rfl rfl rfl ?_
  refine W_seq fun _K_1 _hK_1 => ?_
  refine W_region ?_
  refine WL_s rfl rfl ?_
  refine s_box rfl fun _b4 _w_2 _m4 _cw_2 _e4 => ?_
  have _cw_2z := _cw_2.size
  have E := E.trans _cw_2
  have _z4 := _m4.lt
  replace _m4 : Blk _w_2 _b4 51 [(.int .i64 s.a), (.int .i64 s.b)] := _m4
  refine WL_s rfl rfl ?_
  refine s_alloc zr51 fun _b6 _w_3 _m6 _cw_3 _e6 => ?_
  have _cw_3z := _cw_3.size
  have E := E.trans _cw_3
  have _z6 := _m6.lt
  replace _m6 : Blk _w_3 _b6 51 [(.int .i64 0), (.int .i64 0)] := _m6
  refine WL_nil ?_
  refine thn_nrm (_hK_1 _ _ ?_)
  clear _hK_1
  refine W_seq fun _K_4 _hK_4 => ?_
  refine W_drawC [_b6] 12 mixed rfl fun _w_5 _cw_5 => ?_
  have _cw_5z := _cw_5.size
  have E := E.trans _cw_5
  have _f_6 := (((_hb_a.ch0 _cw_2).ch0 _cw_3).ch0 _cw_5)
  refine DR_s 0 rfl (by kernel_rfl) rfl rfl (t_loadAtA0 _f_6.at_ (fun i hm => by have _h1 := List.mem_singleton.1 hm; omega) agg28 sz28 rfl ?_)
  refine DR_s 1 rfl (by kernel_rfl) rfl rfl (t_v (fun _ => (r_fieldAddr fa51_0 rfl)) ?_)
  have _f_7 := ((_m4.ch0 _cw_3).ch0 _cw_5)
  refine DR_s 2 rfl (by kernel_rfl) rfl rfl (t_loadAt _f_7.at_ (fun i hm => by have _h1 := List.mem_singleton.1 hm; omega) agg3 rfl rfl ?_)
  refine DR_s 3 rfl (by kernel_rfl) rfl rfl (t_v (fun _ => (r_move rfl)) ?_)
  have _f_8 := (((_hb_b.ch0 _cw_2).ch0 _cw_3).ch0 _cw_5)
  refine DR_s 5 rfl (by kernel_rfl) rfl rfl (t_loadAtA0 _f_8.at_ (fun i hm => by have _h1 := List.mem_singleton.1 hm; omega) agg28 sz28 rfl ?_)
  refine DR_s 6 rfl (by kernel_rfl) rfl rfl (t_v (fun _ => (r_fieldAddr fa51_1 rfl)) ?_)
  refine DR_s 7 rfl (by kernel_rfl) rfl rfl (t_loadAt _f_7.at_ (fun i hm => by have _h1 := List.mem_singleton.1 hm; omega) agg3 rfl rfl ?_)
  refine DR_s 8 rfl (by kernel_rfl) rfl rfl (t_v (fun _ => (r_move rfl)) ?_)
  refine DR_one 4 (by kernel_rfl) ?_
  refine DO_s rfl rfl rfl ?_
  have _f_9 := (((_h_aA.ch0 _cw_2).ch0 _cw_3).ch0 _cw_5)
  have _f_10 := (((_rd_aN.ch0 _cw_2).ch0 _cw_3).ch0 _cw_5)
  have _f_11 := (((_h_saN.ch0 _cw_2).ch0 _cw_3).ch0 _cw_5)
  refine Step.call (r_call (xs := [.tmp 7, .tmp 9, .tmp 10]) fk48 rfl) (c_impl_Automaton_move _ _f_9 _f_11 _f_10 _ _ hva (by omega)) fun _v11 _w_12 _q11 => ?_
  obtain ⟨rfl, _cw_12⟩ := _q11
  have _cw_12z := _cw_12.size
  have E := E.trans _cw_12
  have _S_13 : Ch [_b6] _w_5 _w_12 := ((Ch.refl _ _).trans _cw_12.of_nil)
  refine ⟨_S_13, ?_⟩
  refine DR_one 9 (by kernel_rfl) ?_
  refine DO_s rfl rfl rfl ?_
  have _f_14 := ((((_h_bA.ch0 _cw_2).ch0 _cw_3).ch0 _cw_5).ch0 _cw_12)
  have _f_15 := ((((_rd_bN.ch0 _cw_2).ch0 _cw_3).ch0 _cw_5).ch0 _cw_12)
  have _f_16 := ((((_h_sbN.ch0 _cw_2).ch0 _cw_3).ch0 _cw_5).ch0 _cw_12)
  refine Step.call (r_call (xs := [.tmp 12, .tmp 14, .tmp 15]) fk48 rfl) (c_impl_Automaton_move _ _f_14 _f_16 _f_15 _ _ hvb (by omega)) fun _v16 _w_17 _q16 => ?_
  obtain ⟨rfl, _cw_17⟩ := _q16
  have _cw_17z := _cw_17.size
  have E := E.trans _cw_17
  have _S_18 : Ch [_b6] _w_5 _w_17 := (_S_13.trans _cw_17.of_nil)
  refine ⟨_S_18, ?_⟩
  refine DR_s 10 rfl (by kernel_rfl) rfl rfl (t_v (fun _ => (r_build (parts := [(0, .tmp 11), (1, .tmp 16)]) (cells := [(.int .i64 (moveA aN s.a x)), (.int .i64 (moveA bN s.b x))]) zr51 pl51 rfl rfl)) ?_)
  refine DR_one 11 (by kernel_rfl) ?_
  refine DO_s rfl rfl rfl ?_
  have _f_19 := (((_m6.ch0 _cw_5).ch0 _cw_12).ch0 _cw_17)
  refine s_storeA (off := 0) 2 _f_19 sz51 rfl (us := [(.int .i64 (moveA aN s.a x)), (.int .i64 (moveA bN s.b x))]) rfl rfl rfl rfl fun _w_20 _m_21 _cw_20 => ?_
  have _cw_20z := _cw_20.size
  have E := E.step _cw_20 (fun i hi => .inl (by have _h1 := List.mem_singleton.1 hi; omega))
  replace _m_21 : Blk _w_20 _b6 51 [(.int .i64 (moveA aN s.a x)), (.int .i64 (moveA bN s.b x))] := _m_21
  have _S_22 : Ch [_b6] _w_5 _w_20 := (_S_18.step _cw_20 (fun i hm => by have _h0 := List.mem_singleton.1 hm; exact .inr (by rw [_h0]; exact (List.mem_singleton.2 rfl))))
  refine ⟨_S_22, ?_⟩
  refine DR_done (by kernel_rfl) ?_
  refine thn_nrm (_hK_4 _ _ ?_)
  clear _hK_4
  refine W_ret ?_
  exact ret_intro [_] (resOf_loadA _m_21 rfl agg51 sz51 trivial) ⟨by simp [packed, St2.cs], E⟩

/-- impl.states] -/
theorem c_impl_states {w : World} (first : St2) (nextc0S : Int) {LL_nextc0A _B_nextc0A : Nat} {_v_nextc0A : Value} {nextc0A : List Bool} (_h_nextc0A : Ls bcs 1 w LL_nextc0A _B_nextc0A _v_nextc0A nextc0A) {LL_snextc0N _B_snextc0N : Nat} {_v_snextc0N : Value} {snextc0N : List Sv} (_h_snextc0N : Ls Sv.cs 1 w LL_snextc0N _B_snextc0N _v_snextc0N snextc0N) {LR_nextc0N BB_nextc0N : Nat} {nextc0N : List (List Int)} (_rd_nextc0N : Rd ics 1 w LR_nextc0N BB_nextc0N snextc0N nextc0N) {b_nextc0 t_nextc0 : Nat} (_hb_nextc0 : Blk w b_nextc0 t_nextc0 [(.int .i64 nextc0S), _v_nextc0A, _v_snextc0N]) (nextc1S : Int) {LL_nextc1A _B_nextc1A : Nat} {_v_nextc1A : Value} {nextc1A : List Bool} (_h_nextc1A : Ls bcs 1 w LL_nextc1A _B_nextc1A _v_nextc1A nextc1A) {LL_snextc1N _B_snextc1N : Nat} {_v_snextc1N : Value} {snextc1N : List Sv} (_h_snextc1N : Ls Sv.cs 1 w LL_snextc1N _B_snextc1N _v_snextc1N snextc1N) {LR_nextc1N BB_nextc1N : Nat} {nextc1N : List (List Int)} (_rd_nextc1N : Rd ics 1 w LR_nextc1N BB_nextc1N snextc1N nextc1N) {b_nextc1 t_nextc1 : Nat} (_hb_nextc1 : Blk w b_nextc1 t_nextc1 [(.int .i64 nextc1S), _v_nextc1A, _v_snextc1N]) (testc0S : Int) {LL_testc0A _B_testc0A : Nat} {_v_testc0A : Value} {testc0A : List Bool} (_h_testc0A : Ls bcs 1 w LL_testc0A _B_testc0A _v_testc0A testc0A) {LL_stestc0N _B_stestc0N : Nat} {_v_stestc0N : Value} {stestc0N : List Sv} (_h_stestc0N : Ls Sv.cs 1 w LL_stestc0N _B_stestc0N _v_stestc0N stestc0N) {LR_testc0N BB_testc0N : Nat} {testc0N : List (List Int)} (_rd_testc0N : Rd ics 1 w LR_testc0N BB_testc0N stestc0N testc0N) {b_testc0 t_testc0 : Nat} (_hb_testc0 : Blk w b_testc0 t_testc0 [(.int .i64 testc0S), _v_testc0A, _v_stestc0N]) (testc1S : Int) {LL_testc1A _B_testc1A : Nat} {_v_testc1A : Value} {testc1A : List Bool} (_h_testc1A : Ls bcs 1 w LL_testc1A _B_testc1A _v_testc1A testc1A) {LL_stestc1N _B_stestc1N : Nat} {_v_stestc1N : Value} {stestc1N : List Sv} (_h_stestc1N : Ls Sv.cs 1 w LL_stestc1N _B_stestc1N _v_stestc1N stestc1N) {LR_testc1N BB_testc1N : Nat} {testc1N : List (List Int)} (_rd_testc1N : Rd ics 1 w LR_testc1N BB_testc1N stestc1N testc1N) {b_testc1 t_testc1 : Nat} (_hb_testc1 : Blk w b_testc1 t_testc1 [(.int .i64 testc1S), _v_testc1A, _v_stestc1N]) (hva : ValidA nextc0S nextc0A nextc0N) (hvb : ValidA nextc1S nextc1A nextc1N) (hs : inS nextc0A nextc1A first) (_e1 : nextc0A = testc1A) (_e2 : nextc1A = testc0A) :
    Ctr Try.prog 37 #[(.agg #[(.int .i64 first.a), (.int .i64 first.b)]), (.func (.func 66) #[] #[(.pointer (some ⟨b_nextc0, 0, none⟩)), (.pointer (some ⟨b_nextc1, 0, none⟩))]), (.func (.func 39) #[] #[(.pointer (some ⟨b_testc0, 0, none⟩)), (.pointer (some ⟨b_testc1, 0, none⟩))])] w (fun v w' => ∃ (_u0 : Value), v = .tuple #[_u0, .bool ((difR testc1A nextc0N testc0A nextc1N first true).2)] ∧ Ol ics 3 1 w' _u0 ((difR testc1A nextc0N testc0A nextc1N first true).1) ∧ Lo w.heap.size _u0 ∧ Ch [] w w') := by
  obtain ⟨_A_nextc0A, _C_nextc0A, _e1_nextc0A⟩ := _h_nextc0A.val
  subst _e1_nextc0A
  have _l_nextc0A := _h_nextc0A.len
  have _h_nextc0A := _h_nextc0A.here (by decide)
  obtain ⟨_A_snextc0N, _C_snextc0N, _e1_snextc0N⟩ := _h_snextc0N.val
  subst _e1_snextc0N
  have _l_snextc0N := _h_snextc0N.len
  have _h_snextc0N := _h_snextc0N.here (by decide)
  have _rd_nextc0N := _rd_nextc0N.here (by decide)
  have _rl_nextc0N := _rd_nextc0N.1
  have _zb_nextc0 := _hb_nextc0.lt
  obtain ⟨_A_nextc1A, _C_nextc1A, _e1_nextc1A⟩ := _h_nextc1A.val
  subst _e1_nextc1A
  have _l_nextc1A := _h_nextc1A.len
  have _h_nextc1A := _h_nextc1A.here (by decide)
  obtain ⟨_A_snextc1N, _C_snextc1N, _e1_snextc1N⟩ := _h_snextc1N.val
  subst _e1_snextc1N
  have _l_snextc1N := _h_snextc1N.len
  have _h_snextc1N := _h_snextc1N.here (by decide)
  have _rd_nextc1N := _rd_nextc1N.here (by decide)
  have _rl_nextc1N := _rd_nextc1N.1
  have _zb_nextc1 := _hb_nextc1.lt
  obtain ⟨_A_testc0A, _C_testc0A, _e1_testc0A⟩ := _h_testc0A.val
  subst _e1_testc0A
  have _l_testc0A := _h_testc0A.len
  have _h_testc0A := _h_testc0A.here (by decide)
  obtain ⟨_A_stestc0N, _C_stestc0N, _e1_stestc0N⟩ := _h_stestc0N.val
  subst _e1_stestc0N
  have _l_stestc0N := _h_stestc0N.len
  have _h_stestc0N := _h_stestc0N.here (by decide)
  have _rd_testc0N := _rd_testc0N.here (by decide)
  have _rl_testc0N := _rd_testc0N.1
  have _zb_testc0 := _hb_testc0.lt
  obtain ⟨_A_testc1A, _C_testc1A, _e1_testc1A⟩ := _h_testc1A.val
  subst _e1_testc1A
  have _l_testc1A := _h_testc1A.len
  have _h_testc1A := _h_testc1A.here (by decide)
  obtain ⟨_A_stestc1N, _C_stestc1N, _e1_stestc1N⟩ := _h_stestc1N.val
  subst _e1_stestc1N
  have _l_stestc1N := _h_stestc1N.len
  have _h_stestc1N := _h_stestc1N.here (by decide)
  have _rd_testc1N := _rd_testc1N.here (by decide)
  have _rl_testc1N := _rd_testc1N.1
  have _zb_testc1 := _hb_testc1.lt
  have E := Ch.refl [] w
  have hva2 : ValidA nextc0S testc1A nextc0N := by rw [← _e1]; exact hva
  have hvb2 : ValidA nextc1S testc0A nextc1N := by rw [← _e2]; exact hvb
  have hs2 : inS testc1A testc0A first := by rw [_e1, _e2] at hs; exact hs
  have hin := inS_all hva2 hvb2 hs2; have hle := lenS hva2 hvb2 hs2; have hwl := wlenS nextc0N nextc1N first
  refine Ctr_of_W (N := 60) (vs0 := [(.agg #[(.int .i64 first.a), (.int .i64 first.b)]), (.func (.func 66) #[] #[(.pointer (some ⟨b_nextc0, 0, none⟩)), (.pointer (some ⟨b_nextc1, 0, none⟩))]), (.func (.func 39) #[] #[(.pointer (some ⟨b_testc0, 0, none⟩)), (.pointer (some ⟨b_testc1, 0, none⟩))])]) Try.func37 rfl rfl rfl ?_
  refine W_seq fun _K_1 _hK_1 => ?_
  refine W_region ?_
  refine WL_s rfl rfl ?_
  refine s_box rfl fun _b3 _w_2 _m3 _cw_2 _e3 => ?_
  have _cw_2z := _cw_2.size
  have E := E.trans _cw_2
  have _z3 := _m3.lt
  replace _m3 : Blk _w_2 _b3 51 [(.int .i64 first.a), (.int .i64 first.b)] := _m3
  refine WL_step rfl rfl (r_assign rfl) ?_
  refine WL_step rfl rfl (r_assign rfl) ?_
  refine WL_nil ?_
  refine thn_nrm (_hK_1 _ _ ?_)
  clear _hK_1
  refine W_seq fun _K_3 _hK_3 => ?_
  refine W_region ?_
  refine WL_s rfl rfl ?_
  refine s_makeMap kvS fun _b13 _w_4 _m13 _cw_4 _e13 => ?_
  have _cw_4z := _cw_4.size
  have E := E.trans _cw_4
  have _z13 := _m13.lt
  replace _m13 : Mp kvS _w_4 _b13 ([] : List St2) := _m13
  have _f_5 := (_m3.ch0 _cw_4)
  refine WL_step rfl rfl (r_loadAtA0 _f_5.at_ agg51 sz51 rfl) ?_
  refine WL_s rfl rfl ?_
  refine s_mapIns (first : St2) un74 (keyT_st2 ist51) _m13 rfl rfl rfl (by simp) fun _w_6 _m_7 _cw_6 => ?_
  have _cw_6z := _cw_6.size
  have E := E.step _cw_6 (fun i hi => .inl (by have _h1 := List.mem_singleton.1 hi; omega))
  replace _m_7 : Mp kvS _w_6 _b13 ([(first : St2)]) := _m_7
  refine WL_step rfl rfl (r_move rfl) ?_
  refine WL_step rfl rfl (r_assign rfl) ?_
  refine WL_nil ?_
  refine thn_nrm (_hK_3 _ _ ?_)
  clear _hK_3
  refine W_seq fun _K_8 _hK_8 => ?_
  refine W_seq fun _K_9 _hK_9 => ?_
  refine W_region ?_
  have _f_10 := (_f_5.ch _cw_6 (fun hm => by have _h1 := List.mem_singleton.1 hm; omega))
  refine WL_step rfl rfl (r_loadAtA0 _f_10.at_ agg51 sz51 rfl) ?_
  refine WL_step rfl rfl (r_build (parts := [(0, .tmp 16)]) (cells := [(.int .i64 first.a), (.int .i64 first.b), (.slice none 0 0)]) zr76 pl76 rfl rfl) ?_
  refine WL_s rfl rfl ?_
  refine s_buildSlice (cs := Qs.cs) (parts := [(0, .tmp 17)]) (⟨⟨0, 0⟩, ⟨none, 0, 0⟩⟩ : Qs) [(⟨⟨first.a, first.b⟩, (⟨none, 0, 0⟩ : Sv)⟩ : Qs)] el77 sz76 zr76 Qs.len (by decide) rfl rfl rfl (by decide) (by decide) rfl fun _v18 _w_11 _q18 _lo18 _cw_11 => ?_
  have _cw_11z := _cw_11.size
  have E := E.trans _cw_11
  obtain ⟨_Av18, _Cv18, _ev18⟩ := _q18.val
  subst _ev18
  have _lv18 := _q18.len
  have _hiv18 := _q18.lt
  refine WL_step rfl rfl (r_assign rfl) ?_
  refine WL_nil ?_
  refine thn_nrm (_hK_9 _ _ ?_)
  clear _hK_9
  refine W_block ?_
  have _oi_12 : Ol Qs.cs 76 3 _w_11 (.slice _Av18 ([(⟨⟨first.a, first.b⟩, (⟨none, 0, 0⟩ : Sv)⟩ : Qs)]).length _Cv18) ((zq (bE (nxS nextc0N nextc1N) first 0) [(⟨none, 0, 0⟩ : Sv)]).drop 0) := by
    have hx := _q18
    exact hx
  have _f_14 := (_m_7.ch0 _cw_11)
  have _oi_13 : Mp kvS _w_11 _b13 ((bE (nxS nextc0N nextc1N) first 0).map (·.1)) := by
    have hx := _f_14
    exact hx
  refine W_loop (σ := Nat × List Sv × Value) (fun ⟨k, V, kq⟩ => [(1, (.func (.func 66) #[] #[(.pointer (some ⟨b_nextc0, 0, none⟩)), (.pointer (some ⟨b_nextc1, 0, none⟩))])), (2, (.func (.func 39) #[] #[(.pointer (some ⟨b_testc0, 0, none⟩)), (.pointer (some ⟨b_testc1, 0, none⟩))])), (8, (.map (some _b13))), (9, kq)]) (fun ⟨k, V, kq⟩ wx => Ch [] w wx ∧ _w_11.heap.size ≤ wx.heap.size ∧ (k ≤ (bE (nxS nextc0N nextc1N) first k).length) ∧ (V.length = (bE (nxS nextc0N nextc1N) first k).length) ∧ (∀ j x, j < k → (bE (nxS nextc0N nextc1N) first j)[j]? = some x → (tsD testc1A testc0A true) x.1 = false) ∧ Ol Qs.cs 76 3 wx kq ((zq (bE (nxS nextc0N nextc1N) first k) V).drop k) ∧ Lo _w_6.heap.size kq ∧ Mp kvS wx _b13 ((bE (nxS nextc0N nextc1N) first k).map (·.1)) ∧ Od ics 3 1 wx _w_11.heap.size wx.heap.size V ((bE (nxS nextc0N nextc1N) first k).map (·.2)) ∧ (Sep kq V)) (fun ⟨k, V, kq⟩ => 170 - k) (0, [(⟨none, 0, 0⟩ : Sv)], (.slice _Av18 ([(⟨⟨first.a, first.b⟩, (⟨none, 0, 0⟩ : Sv)⟩ : Qs)]).length _Cv18)) (Sub.cons rfl (Sub.cons rfl (Sub.cons rfl (Sub.cons rfl (Sub.nil _))))) ⟨E, (Nat.le_refl _), (Nat.zero_le _), rfl, (fun _ _ h => absurd h (by omega)), _oi_12, _lo18, _oi_13, Od.one_nil, nil1Sep⟩ ?_
  rintro ⟨k, V, kq⟩ _wr_15 ⟨E, _zz0, _hk, hV, hf, _o0_9, _lo0_9, _m0_8, od, _spl0_9⟩
  have _E0h := E
  have _E0hz := _E0h.size
  have m0_8z := _m0_8.lt
  obtain ⟨Akq, Ckq, ekq⟩ := _o0_9.val
  subst ekq
  have lkq := _o0_9.len
  have hikq := _o0_9.lt
  have hlk := hle k
  have zl9 := zq_len hV
  have zd9 := List.length_drop (l := zq (bE (nxS nextc0N nextc1N) first k) V) (i := k)
  refine W_seq fun _K_16 _hK_16 => ?_
  refine W_seq fun _K_17 _hK_17 => ?_
  refine W_region ?_
  refine WL_step rfl rfl (r_move rfl) ?_
  refine WL_step rfl rfl (r_len (by rw [el77]; rfl) rfl) ?_
  refine WL_step rfl rfl (r_gtr rfl rfl) ?_
  refine WL_nil ?_
  refine thn_nrm (_hK_17 _ _ ?_)
  clear _hK_17
  refine W_cond rfl (fun _h21 => ?_) (fun _h21 => ?_)
  · have _kb_18 := _h21
    have _h21 := bt_d _h21
    refine W_skip ?_
    refine thn_nrm (_hK_16 _ _ ?_)
    clear _hK_16
    refine W_seq fun _K_19 _hK_19 => ?_
    refine W_block ?_
    refine W_seq fun _K_20 _hK_20 => ?_
    refine W_region ?_
    refine WL_step rfl rfl (r_move rfl) ?_
    refine WL_s rfl rfl ?_
    refine (s_index (j := 0) _o0_9.ls Qs.len el77 sz76 rfl rfl rfl (by omega) fun _p25 _y25 _hy25 _a25 => ?_)
    obtain ⟨x25, _u25, _A25, _C25, he25, hs25, rfl, _fs25⟩ := zq_row _hy25 od
    have _l25 := _fs25.len
    replace _fs25 : Ls ics 1 _wr_15 0 _wr_15.heap.size (.slice _A25 _u25.length _C25) _u25 := _fs25
    have hi25 := hin k _ (mem_of_get he25)
    dsimp only at hi25
    refine WL_step rfl rfl (r_loadAtA0 _a25 agg76 sz76 rfl) ?_
    refine WL_s rfl rfl ?_
    refine s_alloc zr76 fun _b10 _w_21 _m10 _cw_21 _e10 => ?_
    have _cw_21z := _cw_21.size
    have E := E.trans _cw_21
    have _z10 := _m10.lt
    replace _m10 : Blk _w_21 _b10 76 [(.int .i64 0), (.int .i64 0), (.slice none 0 0)] := _m10
    refine WL_s rfl rfl ?_
    refine s_storeA (off := 0) 3 _m10 sz76 rfl (us := [(.int .i64 x25.a), (.int .i64 x25.b), (.slice _A25 _u25.length _C25)]) rfl rfl rfl rfl fun _w_22 _m_23 _cw_22 => ?_
    have _cw_22z := _cw_22.size
    have E := E.step _cw_22 (fun i hi => .inl (by have _h1 := List.mem_singleton.1 hi; omega))
    replace _m_23 : Blk _w_22 _b10 76 [(.int .i64 x25.a), (.int .i64 x25.b), (.slice _A25 _u25.length _C25)] := _m_23
    refine WL_nil ?_
    refine thn_nrm (_hK_20 _ _ ?_)
    clear _hK_20
    refine W_seq fun _K_24 _hK_24 => ?_
    refine W_seq fun _K_25 _hK_25 => ?_
    refine W_region ?_
    refine WL_step rfl rfl (r_move rfl) ?_
    refine WL_step rfl rfl (r_fieldAddr fa76_0 rfl) ?_
    refine WL_step rfl rfl (r_loadAtA 2 _m_23.at_ agg51 sz51 rfl rfl) ?_
    refine WL_s rfl rfl ?_
    have _f_26 := (((_h_testc0A.ch0 _E0h).ch0 _cw_21).ch _cw_22 (fun i hi => by have _h1 := List.mem_singleton.1 hi; omega))
    have _f_27 := (((_rd_testc0N.ch0 _E0h).ch0 _cw_21).ch _cw_22 (fun i hi => by have _h1 := List.mem_singleton.1 hi; omega))
    have _f_28 := (((_h_stestc0N.ch0 _E0h).ch0 _cw_21).ch _cw_22 (fun i hi => by have _h1 := List.mem_singleton.1 hi; omega))
    have _f_29 := (((_hb_testc0.ch0 _E0h).ch0 _cw_21).ch _cw_22 (fun hm => by have _h1 := List.mem_singleton.1 hm; omega))
    have _f_30 := (((_h_testc1A.ch0 _E0h).ch0 _cw_21).ch _cw_22 (fun i hi => by have _h1 := List.mem_singleton.1 hi; omega))
    have _f_31 := (((_rd_testc1N.ch0 _E0h).ch0 _cw_21).ch _cw_22 (fun i hi => by have _h1 := List.mem_singleton.1 hi; omega))
    have _f_32 := (((_h_stestc1N.ch0 _E0h).ch0 _cw_21).ch _cw_22 (fun i hi => by have _h1 := List.mem_singleton.1 hi; omega))
    have _f_33 := (((_hb_testc1.ch0 _E0h).ch0 _cw_21).ch _cw_22 (fun hm => by have _h1 := List.mem_singleton.1 hm; omega))
    refine Step.call (r_callV (xs := [.tmp 29]) (as' := [(.agg #[(.int .i64 x25.a), (.int .i64 x25.b)]), (.pointer (some ⟨b_testc0, 0, none⟩)), (.pointer (some ⟨b_testc1, 0, none⟩))]) fk39 rfl rfl rfl) (c_impl_MissingWord_1 x25 _ _f_26 _f_28 _f_27 _f_29 _ _f_30 _f_32 _f_31 _f_33 hi25) fun _v30 _w_34 _q30 => ?_
    obtain ⟨rfl, _cw_34⟩ := _q30
    have _cw_34z := _cw_34.size
    have E := E.trans _cw_34
    refine WL_nil ?_
    refine thn_nrm (_hK_25 _ _ ?_)
    clear _hK_25
    refine W_cond rfl (fun _h30 => ?_) (fun _h30 => ?_)
    · have _kb_35 := _h30
      refine W_seq fun _K_36 _hK_36 => ?_
      refine W_region ?_
      refine WL_step rfl rfl (r_fieldAddr fa76_1 rfl) ?_
      have _f_37 := (_m_23.ch0 _cw_34)
      refine WL_step rfl rfl (r_loadAt _f_37.at_ agg31 rfl rfl) ?_
      refine WL_s rfl rfl ?_
      have _f_38 := (((od.ch0 _cw_21).ch _cw_22 (fun i hi => by have _h1 := List.mem_singleton.1 hi; omega)).ch0 _cw_34)
      have _f_39 : _ := zq_word _f_38 hs25 he25
      refine Step.call (r_call (xs := [.tmp 32]) fk65 rfl) (c_impl_copyInts _f_39 (by have _z1 := hwl k _ (mem_of_get he25); dsimp only at _z1; omega)) fun _v33 _w_40 _q33 => ?_
      obtain ⟨_q33, _lo33, _cw_40⟩ := _q33
      have _cw_40z := _cw_40.size
      have E := E.trans _cw_40
      obtain ⟨_Av33, _Cv33, _ev33⟩ := _q33.val
      subst _ev33
      have _lv33 := _q33.len
      have _hiv33 := _q33.lt
      refine WL_step rfl rfl (r_assign rfl) ?_
      refine WL_step rfl rfl (r_assign rfl) ?_
      refine WL_nil ?_
      refine thn_nrm (_hK_36 _ _ ?_)
      clear _hK_36
      refine W_ret (thn_ret (inB_ret (thn_ret (thn_ret (inB_ret (thn_ret ?_))))))
      clear _hK_8 _hK_19 _hK_24
      have _o_41 : Ol ics 3 1 _w_40 (.slice _Av33 (_u25).length _Cv33) ((difR testc1A nextc0N testc0A nextc1N first true).1) := by
        have hx := _q33
        first | (rw [← dif_eq (bres_hit he25 _h30 hf)]; exact hx) | (rw [← dif_eq (bres_none (zq_no hV (by omega)) hf)]; simpa using hx)
      exact ret_intro [_, _] ⟨rfl, ⟨rfl, trivial⟩⟩ ⟨(.slice _Av33 (_u25).length _Cv33), (congrArg (fun zq => (Value.tuple #[(.slice _Av33 (_u25).length _Cv33), .bool zq])) (by first | rw [← dif_eq (bres_hit he25 _h30 hf)] | rw [← dif_eq (bres_none (zq_no hV (by omega)) hf)])), _o_41, (Lo.down _lo33 (by omega)), E⟩
    · have _kb_35 := _h30
      refine W_skip ?_
      refine thn_nrm (_hK_24 _ _ ?_)
      clear _hK_24
      refine W_seq fun _K_42 _hK_42 => ?_
      refine W_region ?_
      refine WL_step rfl rfl (r_assign rfl) ?_
      refine WL_nil ?_
      refine thn_nrm (_hK_42 _ _ ?_)
      clear _hK_42
      refine W_block ?_
      have _f_43 := (((_o0_9.ch0 _cw_21).ch _cw_22 (fun g hg hm => by have _h0 := List.mem_singleton.1 hm; have _h2 := _lo0_9 _ hg; have _h3 := hikq _ hg; omega)).ch0 _cw_34)
      have _oi_44 : Ol Qs.cs 76 3 _w_34 (.slice Akq ((zq (bE (nxS nextc0N nextc1N) first k) V).drop k).length Ckq) ((zq (bx (nxS nextc0N nextc1N) (x25, _u25) (bE (nxS nextc0N nextc1N) first k) 0) V).drop k) := by
        have hx := _f_43
        exact hx
      have _f_46 := (((_m0_8.ch0 _cw_21).ch _cw_22 (fun hm => by have _h1 := List.mem_singleton.1 hm; omega)).ch0 _cw_34)
      have _oi_45 : Mp kvS _w_34 _b13 ((bx (nxS nextc0N nextc1N) (x25, _u25) (bE (nxS nextc0N nextc1N) first k) 0).map (·.1)) := by
        have hx := _f_46
        exact hx
      have _f_47 := (((od.ch0 _cw_21).ch _cw_22 (fun i hi => by have _h1 := List.mem_singleton.1 hi; omega)).ch0 _cw_34)
      have _f_48 := (_f_29.ch0 _cw_34)
      have _f_49 := (_f_26.ch0 _cw_34)
      have _f_50 := (_f_28.ch0 _cw_34)
      have _f_51 := (_f_27.ch0 _cw_34)
      have _f_52 := (_f_33.ch0 _cw_34)
      have _f_53 := (_f_30.ch0 _cw_34)
      have _f_54 := (_f_32.ch0 _cw_34)
      have _f_55 := (_f_31.ch0 _cw_34)
      have _f_56 := (_m_23.ch0 _cw_34)
      refine W_loop (σ := Nat × List Sv × Value) (fun ⟨m, V2, kr⟩ => [(1, (.func (.func 66) #[] #[(.pointer (some ⟨b_nextc0, 0, none⟩)), (.pointer (some ⟨b_nextc1, 0, none⟩))])), (2, (.func (.func 39) #[] #[(.pointer (some ⟨b_testc0, 0, none⟩)), (.pointer (some ⟨b_testc1, 0, none⟩))])), (8, (.map (some _b13))), (9, kr), (10, (.pointer (some ⟨_b10, 0, none⟩))), (11, (.int .i64 ((m : Nat) : Int))), (21, (.bool (decide (0 < ((((zq (bE (nxS nextc0N nextc1N) first k) V).drop k).length : Nat) : Int))))), (30, (.bool (tsD testc1A testc0A true x25)))]) (fun ⟨m, V2, kr⟩ wx => Ch [] w wx ∧ _w_34.heap.size ≤ wx.heap.size ∧ (m ≤ 9) ∧ (V2.length = (bx (nxS nextc0N nextc1N) (x25, _u25) (bE (nxS nextc0N nextc1N) first k) m).length) ∧ (V2[k]? = some (⟨_A25, _u25.length, _C25⟩ : Sv)) ∧ Blk wx b_testc0 t_testc0 [(.int .i64 testc0S), (.slice _A_testc0A testc0A.length _C_testc0A), (.slice _A_stestc0N stestc0N.length _C_stestc0N)] ∧ Ls bcs 1 wx LL_testc0A w.heap.size (.slice _A_testc0A testc0A.length _C_testc0A) testc0A ∧ Ls Sv.cs 1 wx LL_stestc0N w.heap.size (.slice _A_stestc0N stestc0N.length _C_stestc0N) stestc0N ∧ Rd ics 1 wx LR_testc0N w.heap.size stestc0N testc0N ∧ Blk wx b_testc1 t_testc1 [(.int .i64 testc1S), (.slice _A_testc1A testc1A.length _C_testc1A), (.slice _A_stestc1N stestc1N.length _C_stestc1N)] ∧ Ls bcs 1 wx LL_testc1A w.heap.size (.slice _A_testc1A testc1A.length _C_testc1A) testc1A ∧ Ls Sv.cs 1 wx LL_stestc1N w.heap.size (.slice _A_stestc1N stestc1N.length _C_stestc1N) stestc1N ∧ Rd ics 1 wx LR_testc1N w.heap.size stestc1N testc1N ∧ Blk wx _b10 76 [(.int .i64 x25.a), (.int .i64 x25.b), (.slice _A25 _u25.length _C25)] ∧ Ol Qs.cs 76 3 wx kr ((zq (bx (nxS nextc0N nextc1N) (x25, _u25) (bE (nxS nextc0N nextc1N) first k) m) V2).drop k) ∧ Lo _w_6.heap.size kr ∧ Mp kvS wx _b13 ((bx (nxS nextc0N nextc1N) (x25, _u25) (bE (nxS nextc0N nextc1N) first k) m).map (·.1)) ∧ Od ics 3 1 wx _w_11.heap.size wx.heap.size V2 ((bx (nxS nextc0N nextc1N) (x25, _u25) (bE (nxS nextc0N nextc1N) first k) m).map (·.2)) ∧ (_b10 ∉ bl kr) ∧ (Sep kr V2)) (fun ⟨m, V2, kr⟩ => 9 - m) (0, V, (.slice Akq ((zq (bE (nxS nextc0N nextc1N) first k) V).drop k).length Ckq)) (Sub.cons rfl (Sub.cons rfl (Sub.cons rfl (Sub.cons rfl (Sub.cons rfl (Sub.cons rfl (Sub.cons rfl (Sub.cons rfl (Sub.nil _))))))))) ⟨E, (Nat.le_refl _), (by omega), hV, hs25, _f_48, _f_49, _f_50, _f_51, _f_52, _f_53, _f_54, _f_55, _f_56, _oi_44, _lo0_9, _oi_45, (_f_47.up (Nat.le_refl _) (by omega)), (fun hm => by have _h1 := _lo0_9 _ hm; have _h2 := hikq _ hm; omega), _spl0_9⟩ ?_
      rintro ⟨m, V2, kr⟩ _wr_57 ⟨E, _zz1, hm, hV2, hvk, _F1_8, _F1_9, _F1_10, _F1_11, _F1_12, _F1_13, _F1_14, _F1_15, _F1_16, _o1_9, _lo1_9, _m1_8, od2, _nbz1_9_10, _spl1_9⟩
      have _E1h := E
      have _E1hz := _E1h.size
      have _F1_8z := _F1_8.lt
      have _F1_12z := _F1_12.lt
      have _F1_16z := _F1_16.lt
      have m1_8z := _m1_8.lt
      obtain ⟨Akr, Ckr, ekr⟩ := _o1_9.val
      subst ekr
      have lkr := _o1_9.len
      have hikr := _o1_9.lt
      refine W_seq fun _K_58 _hK_58 => ?_
      refine W_seq fun _K_59 _hK_59 => ?_
      refine W_region ?_
      refine WL_step rfl rfl (r_move rfl) ?_
      refine WL_step rfl rfl (r_lss rfl rfl) ?_
      refine WL_nil ?_
      refine thn_nrm (_hK_59 _ _ ?_)
      clear _hK_59
      refine W_cond rfl (fun _h35 => ?_) (fun _h35 => ?_)
      · have _kb_60 := _h35
        have _h35 := bt_d _h35
        refine W_skip ?_
        refine thn_nrm (_hK_58 _ _ ?_)
        clear _hK_58
        refine W_seq fun _K_61 _hK_61 => ?_
        refine W_block ?_
        refine W_seq fun _K_62 _hK_62 => ?_
        refine W_region ?_
        refine WL_step rfl rfl (r_move rfl) ?_
        refine WL_step rfl rfl (r_fieldAddr fa76_0 rfl) ?_
        refine WL_step rfl rfl (r_loadAtA 2 _F1_16.at_ agg51 sz51 rfl rfl) ?_
        refine WL_step rfl rfl (r_move rfl) ?_
        refine WL_s rfl rfl ?_
        have _f_63 := (_h_nextc0A.ch0 _E1h)
        have _f_64 := (_rd_nextc0N.ch0 _E1h)
        have _f_65 := (_h_snextc0N.ch0 _E1h)
        have _f_66 := (_hb_nextc0.ch0 _E1h)
        have _f_67 := (_h_nextc1A.ch0 _E1h)
        have _f_68 := (_rd_nextc1N.ch0 _E1h)
        have _f_69 := (_h_snextc1N.ch0 _E1h)
        have _f_70 := (_hb_nextc1.ch0 _E1h)
        refine Step.call (r_callV (xs := [.tmp 40, .tmp 41]) (as' := [(.agg #[(.int .i64 x25.a), (.int .i64 x25.b)]), (.int .i64 ((m : Nat) : Int)), (.pointer (some ⟨b_nextc0, 0, none⟩)), (.pointer (some ⟨b_nextc1, 0, none⟩))]) fk66 rfl rfl rfl) (c_impl_together_1 x25 _ _ _f_63 _f_65 _f_64 _f_66 _ _f_67 _f_69 _f_68 _f_70 hva hvb (by rw [_e1, _e2]; exact hi25)) fun _v42 _w_71 _q42 => ?_
        obtain ⟨rfl, _cw_71⟩ := _q42
        have _cw_71z := _cw_71.size
        have E := E.trans _cw_71
        refine WL_s rfl rfl ?_
        refine s_alloc zr51 fun _b12 _w_72 _m12 _cw_72 _e12 => ?_
        have _cw_72z := _cw_72.size
        have E := E.trans _cw_72
        have _z12 := _m12.lt
        replace _m12 : Blk _w_72 _b12 51 [(.int .i64 0), (.int .i64 0)] := _m12
        refine WL_s rfl rfl ?_
        refine s_storeA (off := 0) 2 _m12 sz51 rfl (us := [(.int .i64 ((⟨moveA nextc0N x25.a ((m : Nat) : Int), moveA nextc1N x25.b ((m : Nat) : Int)⟩ : St2).a)), (.int .i64 ((⟨moveA nextc0N x25.a ((m : Nat) : Int), moveA nextc1N x25.b ((m : Nat) : Int)⟩ : St2).b))]) rfl rfl rfl rfl fun _w_73 _m_74 _cw_73 => ?_
        have _cw_73z := _cw_73.size
        have E := E.step _cw_73 (fun i hi => .inl (by have _h1 := List.mem_singleton.1 hi; omega))
        replace _m_74 : Blk _w_73 _b12 51 [(.int .i64 ((⟨moveA nextc0N x25.a ((m : Nat) : Int), moveA nextc1N x25.b ((m : Nat) : Int)⟩ : St2).a)), (.int .i64 ((⟨moveA nextc0N x25.a ((m : Nat) : Int), moveA nextc1N x25.b ((m : Nat) : Int)⟩ : St2).b))] := _m_74
        refine WL_nil ?_
        refine thn_nrm (_hK_62 _ _ ?_)
        clear _hK_62
        refine W_seq fun _K_75 _hK_75 => ?_
        refine W_region ?_
        refine WL_step rfl rfl (r_move rfl) ?_
        refine WL_step rfl rfl (r_loadAtA0 _m_74.at_ agg51 sz51 rfl) ?_
        have _f_76 := (((_m1_8.ch0 _cw_71).ch0 _cw_72).ch _cw_73 (fun hm => by have _h1 := List.mem_singleton.1 hm; omega))
        refine WL_step rfl rfl (r_mapLook ((⟨moveA nextc0N x25.a ((m : Nat) : Int), moveA nextc1N x25.b ((m : Nat) : Int)⟩ : St2) : St2) un74 zr4 (keyT_st2 ist51) _f_76 rfl rfl) ?_
        refine WL_step rfl rfl (r_not rfl) ?_
        refine WL_nil ?_
        refine thn_nrm (_hK_75 _ _ ?_)
        clear _hK_75
        refine W_cond rfl (fun _h46 => ?_) (fun _h46 => ?_)
        · have _kb_77 := _h46
          have _h46 := bf_d (bt_n _h46)
          have hm46 := _h46
          refine W_seq fun _K_78 _hK_78 => ?_
          refine W_region ?_
          refine WL_step rfl rfl (r_move rfl) ?_
          refine WL_step rfl rfl (r_loadAtA0 _m_74.at_ agg51 sz51 rfl) ?_
          refine WL_s rfl rfl ?_
          refine s_mapPut ((⟨moveA nextc0N x25.a ((m : Nat) : Int), moveA nextc1N x25.b ((m : Nat) : Int)⟩ : St2) : St2) un74 (keyT_st2 ist51) _f_76 rfl rfl rfl (hm46) fun _w_79 _m_80 _cw_79 => ?_
          have _cw_79z := _cw_79.size
          have E := E.step _cw_79 (fun i hi => .inl (by have _h1 := List.mem_singleton.1 hi; omega))
          replace _m_80 : Mp kvS _w_79 _b13 (((bx (nxS nextc0N nextc1N) (x25, _u25) (bE (nxS nextc0N nextc1N) first k) m).map (·.1)) ++ [((⟨moveA nextc0N x25.a ((m : Nat) : Int), moveA nextc1N x25.b ((m : Nat) : Int)⟩ : St2) : St2)]) := _m_80
          refine WL_nil ?_
          refine thn_nrm (_hK_78 _ _ ?_)
          clear _hK_78
          refine W_drawC (bl (.slice Akr ((zq (bx (nxS nextc0N nextc1N) (x25, _u25) (bE (nxS nextc0N nextc1N) first k) m) V2).drop k).length Ckr)) 12 mixed rfl fun _w_81 _cw_81 => ?_
          have _cw_81z := _cw_81.size
          have E := E.trans _cw_81
          refine DR_s 0 rfl (by kernel_rfl) rfl rfl (t_v (fun _ => (r_move rfl)) ?_)
          have _f_82 := ((_m_74.ch _cw_79 (fun hm => by have _h1 := List.mem_singleton.1 hm; omega)).ch0 _cw_81)
          refine DR_s 1 rfl (by kernel_rfl) rfl rfl (t_loadAtA0 _f_82.at_ (fun i hm => by have _h1 := _lo1_9 _ hm; have _h2 := hikr _ hm; omega) agg51 sz51 rfl ?_)
          refine DR_s 2 rfl (by kernel_rfl) rfl rfl (t_v (fun _ => (r_fieldAddr fa76_1 rfl)) ?_)
          have _f_83 := (((((_F1_16.ch0 _cw_71).ch0 _cw_72).ch _cw_73 (fun hm => by have _h1 := List.mem_singleton.1 hm; omega)).ch _cw_79 (fun hm => by have _h1 := List.mem_singleton.1 hm; omega)).ch0 _cw_81)
          refine DR_s 3 rfl (by kernel_rfl) rfl rfl (t_loadAt _f_83.at_ (fun i hm => by rcases Nat.lt_trichotomy i _b10 with _h9 | _h9 | _h9; (exact .inl _h9); (exact absurd (_h9 ▸ hm) _nbz1_9_10); (exact .inr _h9)) agg31 rfl rfl ?_)
          refine DR_s 5 rfl (by kernel_rfl) rfl rfl (t_v (fun _ => (r_move rfl)) ?_)
          refine DR_two 4 6 (by kernel_rfl) ?_ ?_
          · refine DO_s rfl rfl rfl ?_
            have _f_84 := (((((od2.ch0 _cw_71).ch0 _cw_72).ch _cw_73 (fun i hi => by have _h1 := List.mem_singleton.1 hi; omega)).ch _cw_79 (fun i hi => by have _h1 := List.mem_singleton.1 hi; omega)).ch0 _cw_81)
            have _f_85 : _ := zq_word _f_84 hvk (bx_get he25)
            refine Step.call (r_call (xs := [.tmp 52]) fk65 rfl) (c_impl_copyInts _f_85 (by have _z1 := hwl k _ (mem_of_get he25); dsimp only at _z1; omega)) fun _v53 _w_86 _q53 => ?_
            obtain ⟨_q53, _lo53, _cw_86⟩ := _q53
            have _cw_86z := _cw_86.size
            have E := E.trans _cw_86
            obtain ⟨_Av53, _Cv53, _ev53⟩ := _q53.val
            subst _ev53
            have _lv53 := _q53.len
            have _hiv53 := _q53.lt
            have _S_87 : Ch (bl (.slice Akr ((zq (bx (nxS nextc0N nextc1N) (x25, _u25) (bE (nxS nextc0N nextc1N) first k) m) V2).drop k).length Ckr)) _w_81 _w_86 := ((Ch.refl _ _).trans _cw_86.of_nil)
            refine ⟨_S_87, ?_⟩
            refine DR_one 6 (by kernel_rfl) ?_
            refine DO_s rfl rfl rfl ?_
            refine s_buildSlice (cs := ics) (parts := [(0, .tmp 54)]) (0 : Int) [((m : Nat) : Int)] el31 sz3 zr3 ics_len (by decide) rfl rfl rfl (by decide) (by decide) rfl fun _v55 _w_88 _q55 _lo55 _cw_88 => ?_
            have _cw_88z := _cw_88.size
            have E := E.trans _cw_88
            obtain ⟨_Av55, _Cv55, _ev55⟩ := _q55.val
            subst _ev55
            have _lv55 := _q55.len
            have _hiv55 := _q55.lt
            have _S_89 : Ch (bl (.slice Akr ((zq (bx (nxS nextc0N nextc1N) (x25, _u25) (bE (nxS nextc0N nextc1N) first k) m) V2).drop k).length Ckr)) _w_81 _w_88 := (_S_87.trans _cw_88.of_nil)
            refine ⟨_S_89, ?_⟩
            refine DR_one 7 (by kernel_rfl) ?_
            refine DO_s rfl rfl rfl ?_
            have _f_91 := (_q53.ch0 _cw_88)
            refine s_append (cs := ics) el31 sz3 by3 zr3 rfl (by decide) ics_one _f_91 _q55.ls rfl rfl (by have _z1 := hwl k _ (mem_of_get he25); dsimp only at _z1; simp only [List.length_singleton]; omega) (by have _z1 := hwl k _ (mem_of_get he25); dsimp only at _z1; simp only [List.length_singleton]; omega) _lo53 (by omega) fun _v56 _w_90 _q56 _lo56 _ap56 _cw_90 => ?_
            have _cw_90z := _cw_90.size
            have E := E.step _cw_90 (fun i hi => .inl (by have _h1 := _lo53 _ hi; omega))
            obtain ⟨_Av56, _Cv56, _ev56⟩ := _q56.val
            subst _ev56
            have _lv56 := _q56.len
            have _hiv56 := _q56.lt
            have _S_92 : Ch (bl (.slice Akr ((zq (bx (nxS nextc0N nextc1N) (x25, _u25) (bE (nxS nextc0N nextc1N) first k) m) V2).drop k).length Ckr)) _w_81 _w_90 := (_S_89.step _cw_90 (fun i hm => by left; have _h1 := _lo53 _ hm; have _h2 := _hiv53 _ hm; omega))
            refine ⟨_S_92, ?_⟩
            refine DR_s 8 rfl (by kernel_rfl) rfl rfl (t_v (fun _ => (r_build (parts := [(0, .tmp 50), (1, .tmp 56)]) (cells := [(.int .i64 ((⟨moveA nextc0N x25.a ((m : Nat) : Int), moveA nextc1N x25.b ((m : Nat) : Int)⟩ : St2).a)), (.int .i64 ((⟨moveA nextc0N x25.a ((m : Nat) : Int), moveA nextc1N x25.b ((m : Nat) : Int)⟩ : St2).b)), (.slice _Av56 ((_u25 ++ [((m : Nat) : Int)])).length _Cv56)]) zr76 pl76 rfl rfl)) ?_)
            refine DR_one 9 (by kernel_rfl) ?_
            refine DO_s rfl rfl rfl ?_
            refine s_buildSlice (cs := Qs.cs) (parts := [(0, .tmp 57)]) (⟨⟨0, 0⟩, ⟨none, 0, 0⟩⟩ : Qs) [(⟨⟨(⟨moveA nextc0N x25.a ((m : Nat) : Int), moveA nextc1N x25.b ((m : Nat) : Int)⟩ : St2).a, (⟨moveA nextc0N x25.a ((m : Nat) : Int), moveA nextc1N x25.b ((m : Nat) : Int)⟩ : St2).b⟩, (⟨_Av56, ((_u25 ++ [((m : Nat) : Int)])).length, _Cv56⟩ : Sv)⟩ : Qs)] el77 sz76 zr76 Qs.len (by decide) rfl rfl rfl (by decide) (by decide) rfl fun _v58 _w_93 _q58 _lo58 _cw_93 => ?_
            have _cw_93z := _cw_93.size
            have E := E.trans _cw_93
            obtain ⟨_Av58, _Cv58, _ev58⟩ := _q58.val
            subst _ev58
            have _lv58 := _q58.len
            have _hiv58 := _q58.lt
            have _S_94 : Ch (bl (.slice Akr ((zq (bx (nxS nextc0N nextc1N) (x25, _u25) (bE (nxS nextc0N nextc1N) first k) m) V2).drop k).length Ckr)) _w_81 _w_93 := (_S_92.trans _cw_93.of_nil)
            refine ⟨_S_94, ?_⟩
            refine DR_one 10 (by kernel_rfl) ?_
            refine DO_s rfl rfl rfl ?_
            have _f_96 := (((((((((_o1_9.ch0 _cw_71).ch0 _cw_72).ch _cw_73 (fun g hg hm => by have _h0 := List.mem_singleton.1 hm; have _h2 := _lo1_9 _ hg; have _h3 := hikr _ hg; omega)).ch _cw_79 (fun g hg hm => by have _h0 := List.mem_singleton.1 hm; have _h2 := _lo1_9 _ hg; have _h3 := hikr _ hg; omega)).ch0 _cw_81).ch0 _cw_86).ch0 _cw_88).ch _cw_90 (fun g hg hm => by have _h1 := _lo53 _ hm; have _h2 := _hiv53 _ hm; have _h3 := _lo1_9 _ hg; have _h4 := hikr _ hg; omega)).ch0 _cw_93)
            refine s_append (cs := Qs.cs) el77 sz76 by76 zr76 rfl (by decide) Qs.one _f_96 _q58.ls rfl rfl (by have _z1 := bx_le9 (m := m) he25 (by omega); have _z2 := hle (k + 1); have _z3 := zq_len hV2; simp only [List.length_singleton, List.length_drop]; omega) (by have _z1 := bx_le9 (m := m) he25 (by omega); have _z2 := hle (k + 1); have _z3 := zq_len hV2; simp only [List.length_singleton, List.length_drop]; omega) _lo1_9 (by omega) fun _v59 _w_95 _q59 _lo59 _ap59 _cw_95 => ?_
            have _cw_95z := _cw_95.size
            have E := E.step _cw_95 (fun i hi => .inl (by have _h1 := _lo1_9 _ hi; omega))
            obtain ⟨_Av59, _Cv59, _ev59⟩ := _q59.val
            subst _ev59
            have _lv59 := _q59.len
            have _hiv59 := _q59.lt
            have _S_97 : Ch (bl (.slice Akr ((zq (bx (nxS nextc0N nextc1N) (x25, _u25) (bE (nxS nextc0N nextc1N) first k) m) V2).drop k).length Ckr)) _w_81 _w_95 := (_S_94.step _cw_95 (fun i hm => by exact .inr hm))
            refine ⟨_S_97, ?_⟩
            refine DR_s 11 rfl (by kernel_rfl) rfl rfl (t_v (fun _ => (r_assign rfl)) ?_)
            refine DR_done (by kernel_rfl) ?_
            refine inB_nrm ?_
            refine thn_nrm (_hK_61 _ _ ?_)
            clear _hK_61
            refine W_region ?_
            refine WL_step rfl rfl (r_move rfl) ?_
            refine WL_step rfl rfl (r_add (by omega) rfl rfl) ?_
            refine WL_step rfl rfl (r_assign rfl) ?_
            refine WL_nil ?_
            have _on_98 : Ol Qs.cs 76 3 _w_95 (.slice _Av59 (((zq (bx (nxS nextc0N nextc1N) (x25, _u25) (bE (nxS nextc0N nextc1N) first k) m) V2).drop k ++ [(⟨⟨(⟨moveA nextc0N x25.a ((m : Nat) : Int), moveA nextc1N x25.b ((m : Nat) : Int)⟩ : St2).a, (⟨moveA nextc0N x25.a ((m : Nat) : Int), moveA nextc1N x25.b ((m : Nat) : Int)⟩ : St2).b⟩, (⟨_Av56, ((_u25 ++ [((m : Nat) : Int)])).length, _Cv56⟩ : Sv)⟩ : Qs)])).length _Cv59) ((zq (bx (nxS nextc0N nextc1N) (x25, _u25) (bE (nxS nextc0N nextc1N) first k) (m + 1)) (V2 ++ [(⟨_Av56, ((_u25 ++ [((m : Nat) : Int)])).length, _Cv56⟩ : Sv)])).drop k) := by
              have hx := _q59
              first | (rw [bx_y hm46]; exact hx) | (rw [bx_n hm46, zq_drop hV2 (Nat.le_of_lt (bx_lt he25))]; exact hx)
            have _f_100 := ((((((_m_80.ch0 _cw_81).ch0 _cw_86).ch0 _cw_88).ch _cw_90 (fun hm => by have _h1 := _lo53 _ hm; have _h2 := _hiv53 _ hm; omega)).ch0 _cw_93).ch _cw_95 (fun hm => by have _h1 := _lo1_9 _ hm; have _h2 := hikr _ hm; omega))
            have _on_99 : Mp kvS _w_95 _b13 ((bx (nxS nextc0N nextc1N) (x25, _u25) (bE (nxS nextc0N nextc1N) first k) (m + 1)).map (·.1)) := by
              have hx := _f_100
              first | (rw [bx_y hm46]; exact hx) | (rw [bx_n hm46, List.map_append]; exact hx)
            have _f_101 := (((((_f_84.ch0 _cw_86).ch0 _cw_88).ch _cw_90 (fun i hm => by have _h1 := _lo53 _ hm; have _h2 := _hiv53 _ hm; omega)).ch0 _cw_93).chS _cw_95 _spl1_9)
            have _f_102 := ((_q56.ch0 _cw_93).ch _cw_95 (fun g hg hm => by rcases _ap56 with ea | ea; (rw [ea] at hg; have _h1 := _lo1_9 _ hm; have _h2 := hikr _ hm; have _h3 := _lo53 _ hg; have _h4 := _hiv53 _ hg; omega); (have z2hg := _hiv56 _ hg; rw [ea] at hg; have _z1 := List.mem_singleton.1 hg; have _h1 := _lo1_9 _ hm; have _h2 := hikr _ hm; omega)))
            have _f_103 := ((((((((((_F1_8.ch0 _cw_71).ch0 _cw_72).ch _cw_73 (fun hm => by have _h1 := List.mem_singleton.1 hm; omega)).ch _cw_79 (fun hm => by have _h1 := List.mem_singleton.1 hm; omega)).ch0 _cw_81).ch0 _cw_86).ch0 _cw_88).ch _cw_90 (fun hm => by have _h1 := _lo53 _ hm; have _h2 := _hiv53 _ hm; omega)).ch0 _cw_93).ch _cw_95 (fun hm => by have _h1 := _lo1_9 _ hm; have _h2 := hikr _ hm; omega))
            have _f_104 := ((((((((((_F1_9.ch0 _cw_71).ch0 _cw_72).ch _cw_73 (fun i hi => by have _h1 := List.mem_singleton.1 hi; omega)).ch _cw_79 (fun i hi => by have _h1 := List.mem_singleton.1 hi; omega)).ch0 _cw_81).ch0 _cw_86).ch0 _cw_88).ch _cw_90 (fun i hi => by have _h1 := _lo53 _ hi; omega)).ch0 _cw_93).ch _cw_95 (fun i hi => by have _h1 := _lo1_9 _ hi; omega))
            have _f_105 := ((((((((((_F1_10.ch0 _cw_71).ch0 _cw_72).ch _cw_73 (fun i hi => by have _h1 := List.mem_singleton.1 hi; omega)).ch _cw_79 (fun i hi => by have _h1 := List.mem_singleton.1 hi; omega)).ch0 _cw_81).ch0 _cw_86).ch0 _cw_88).ch _cw_90 (fun i hi => by have _h1 := _lo53 _ hi; omega)).ch0 _cw_93).ch _cw_95 (fun i hi => by have _h1 := _lo1_9 _ hi; omega))
            have _f_106 := ((((((((((_F1_11.ch0 _cw_71).ch0 _cw_72).ch _cw_73 (fun i hi => by have _h1 := List.mem_singleton.1 hi; omega)).ch _cw_79 (fun i hi => by have _h1 := List.mem_singleton.1 hi; omega)).ch0 _cw_81).ch0 _cw_86).ch0 _cw_88).ch _cw_90 (fun i hi => by have _h1 := _lo53 _ hi; omega)).ch0 _cw_93).ch _cw_95 (fun i hi => by have _h1 := _lo1_9 _ hi; omega))
            have _f_107 := ((((((((((_F1_12.ch0 _cw_71).ch0 _cw_72).ch _cw_73 (fun hm => by have _h1 := List.mem_singleton.1 hm; omega)).ch _cw_79 (fun hm => by have _h1 := List.mem_singleton.1 hm; omega)).ch0 _cw_81).ch0 _cw_86).ch0 _cw_88).ch _cw_90 (fun hm => by have _h1 := _lo53 _ hm; have _h2 := _hiv53 _ hm; omega)).ch0 _cw_93).ch _cw_95 (fun hm => by have _h1 := _lo1_9 _ hm; have _h2 := hikr _ hm; omega))
            have _f_108 := ((((((((((_F1_13.ch0 _cw_71).ch0 _cw_72).ch _cw_73 (fun i hi => by have _h1 := List.mem_singleton.1 hi; omega)).ch _cw_79 (fun i hi => by have _h1 := List.mem_singleton.1 hi; omega)).ch0 _cw_81).ch0 _cw_86).ch0 _cw_88).ch _cw_90 (fun i hi => by have _h1 := _lo53 _ hi; omega)).ch0 _cw_93).ch _cw_95 (fun i hi => by have _h1 := _lo1_9 _ hi; omega))
            have _f_109 := ((((((((((_F1_14.ch0 _cw_71).ch0 _cw_72).ch _cw_73 (fun i hi => by have _h1 := List.mem_singleton.1 hi; omega)).ch _cw_79 (fun i hi => by have _h1 := List.mem_singleton.1 hi; omega)).ch0 _cw_81).ch0 _cw_86).ch0 _cw_88).ch _cw_90 (fun i hi => by have _h1 := _lo53 _ hi; omega)).ch0 _cw_93).ch _cw_95 (fun i hi => by have _h1 := _lo1_9 _ hi; omega))
            have _f_110 := ((((((((((_F1_15.ch0 _cw_71).ch0 _cw_72).ch _cw_73 (fun i hi => by have _h1 := List.mem_singleton.1 hi; omega)).ch _cw_79 (fun i hi => by have _h1 := List.mem_singleton.1 hi; omega)).ch0 _cw_81).ch0 _cw_86).ch0 _cw_88).ch _cw_90 (fun i hi => by have _h1 := _lo53 _ hi; omega)).ch0 _cw_93).ch _cw_95 (fun i hi => by have _h1 := _lo1_9 _ hi; omega))
            have _f_111 := (((((_f_83.ch0 _cw_86).ch0 _cw_88).ch _cw_90 (fun hm => by have _h1 := _lo53 _ hm; have _h2 := _hiv53 _ hm; omega)).ch0 _cw_93).ch _cw_95 (fun hm => by exact _nbz1_9_10 (by first | exact hm | exact _h0 ▸ hm)))
            exact thn_nrm (Exists.intro ((m + 1), (V2 ++ [(⟨_Av56, ((_u25 ++ [((m : Nat) : Int)])).length, _Cv56⟩ : Sv)]), (.slice _Av59 (((zq (bx (nxS nextc0N nextc1N) (x25, _u25) (bE (nxS nextc0N nextc1N) first k) m) V2).drop k ++ [(⟨⟨(⟨moveA nextc0N x25.a ((m : Nat) : Int), moveA nextc1N x25.b ((m : Nat) : Int)⟩ : St2).a, (⟨moveA nextc0N x25.a ((m : Nat) : Int), moveA nextc1N x25.b ((m : Nat) : Int)⟩ : St2).b⟩, (⟨_Av56, ((_u25 ++ [((m : Nat) : Int)])).length, _Cv56⟩ : Sv)⟩ : Qs)])).length _Cv59)) ⟨⟨E, (by omega), (by omega), (by first | (rw [bx_y hm46]; exact hV2) | (rw [bx_n hm46]; simp only [List.length_append, hV2, List.length_singleton])), (by first | exact hvk | exact get_app hvk), _f_103, _f_104, _f_105, _f_106, _f_107, _f_108, _f_109, _f_110, _f_111, _on_98, (Lo.down _lo59 (by omega)), _on_99, (by rw [bx_n hm46, List.map_append]; exact Od.snoc _f_101 _f_102 (Lo.down _lo56 (by omega)) (fun g hg => by have _h1 := _hiv56 g hg; omega) (by omega) (by omega)), (fun hm => by rcases _ap59 with ea | ea; (rw [ea] at hm; exact _nbz1_9_10 (by first | exact hm | exact _h0 ▸ hm)); (have z2hm := _hiv59 _ hm; rw [ea] at hm; have _z1 := List.mem_singleton.1 hm; omega)), (fun u hu g hg hm => by rcases List.mem_append.1 hu with hu | hu; (rcases _ap59 with ea | ea; (rw [ea] at hm; exact _spl1_9 _ hu _ hg hm); (have z2hm := _hiv59 _ hm; rw [ea] at hm; have _z1 := List.mem_singleton.1 hm; have _h9 := _f_101.rng hu hg; omega)); (rw [List.mem_singleton.1 hu] at hg; replace hg : g ∈ bl (.slice _Av56 ((_u25 ++ [((m : Nat) : Int)])).length _Cv56) := hg; rcases _ap56 with ea | ea; (rw [ea] at hg; rcases _ap59 with ea | ea; (rw [ea] at hm; have _h1 := _lo1_9 _ hm; have _h2 := hikr _ hm; have _h3 := _lo53 _ hg; have _h4 := _hiv53 _ hg; omega); (have z2hm := _hiv59 _ hm; rw [ea] at hm; have _z1 := List.mem_singleton.1 hm; have _h3 := _lo53 _ hg; have _h4 := _hiv53 _ hg; omega)); (have z2hg := _hiv56 _ hg; rw [ea] at hg; have _z1 := List.mem_singleton.1 hg; rcases _ap59 with ea | ea; (rw [ea] at hm; have _h1 := _lo1_9 _ hm; have _h2 := hikr _ hm; omega); (have z2hm := _hiv59 _ hm; rw [ea] at hm; have _z1 := List.mem_singleton.1 hm; omega))))⟩, Sub.cons rfl (Sub.cons rfl (Sub.cons rfl (Sub.cons rfl (Sub.cons rfl (Sub.cons rfl (Sub.cons rfl (Sub.cons rfl (Sub.nil _)))))))), (by first | omega | (dsimp only; omega))⟩)
          · refine DO_s rfl rfl rfl ?_
            refine s_buildSlice (cs := ics) (parts := [(0, .tmp 54)]) (0 : Int) [((m : Nat) : Int)] el31 sz3 zr3 ics_len (by decide) rfl rfl rfl (by decide) (by decide) rfl fun _v55 _w_112 _q55 _lo55 _cw_112 => ?_
            have _cw_112z := _cw_112.size
            have E := E.trans _cw_112
            obtain ⟨_Av55, _Cv55, _ev55⟩ := _q55.val
            subst _ev55
            have _lv55 := _q55.len
            have _hiv55 := _q55.lt
            have _S_113 : Ch (bl (.slice Akr ((zq (bx (nxS nextc0N nextc1N) (x25, _u25) (bE (nxS nextc0N nextc1N) first k) m) V2).drop k).length Ckr)) _w_81 _w_112 := ((Ch.refl _ _).trans _cw_112.of_nil)
            refine ⟨_S_113, ?_⟩
            refine DR_one 4 (by kernel_rfl) ?_
            refine DO_s rfl rfl rfl ?_
            have _f_114 := ((((((od2.ch0 _cw_71).ch0 _cw_72).ch _cw_73 (fun i hi => by have _h1 := List.mem_singleton.1 hi; omega)).ch _cw_79 (fun i hi => by have _h1 := List.mem_singleton.1 hi; omega)).ch0 _cw_81).ch0 _cw_112)
            have _f_115 : _ := zq_word _f_114 hvk (bx_get he25)
            refine Step.call (r_call (xs := [.tmp 52]) fk65 rfl) (c_impl_copyInts _f_115 (by have _z1 := hwl k _ (mem_of_get he25); dsimp only at _z1; omega)) fun _v53 _w_116 _q53 => ?_
            obtain ⟨_q53, _lo53, _cw_116⟩ := _q53
            have _cw_116z := _cw_116.size
            have E := E.trans _cw_116
            obtain ⟨_Av53, _Cv53, _ev53⟩ := _q53.val
            subst _ev53
            have _lv53 := _q53.len
            have _hiv53 := _q53.lt
            have _S_117 : Ch (bl (.slice Akr ((zq (bx (nxS nextc0N nextc1N) (x25, _u25) (bE (nxS nextc0N nextc1N) first k) m) V2).drop k).length Ckr)) _w_81 _w_116 := (_S_113.trans _cw_116.of_nil)
            refine ⟨_S_117, ?_⟩
            refine DR_one 7 (by kernel_rfl) ?_
            refine DO_s rfl rfl rfl ?_
            have _f_119 := (_q55.ch0 _cw_116)
            refine s_append (cs := ics) el31 sz3 by3 zr3 rfl (by decide) ics_one _q53 _f_119.ls rfl rfl (by have _z1 := hwl k _ (mem_of_get he25); dsimp only at _z1; simp only [List.length_singleton]; omega) (by have _z1 := hwl k _ (mem_of_get he25); dsimp only at _z1; simp only [List.length_singleton]; omega) _lo53 (by omega) fun _v56 _w_118 _q56 _lo56 _ap56 _cw_118 => ?_
            have _cw_118z := _cw_118.size
            have E := E.step _cw_118 (fun i hi => .inl (by have _h1 := _lo53 _ hi; omega))
            obtain ⟨_Av56, _Cv56, _ev56⟩ := _q56.val
            subst _ev56
            have _lv56 := _q56.len
            have _hiv56 := _q56.lt
            have _S_120 : Ch (bl (.slice Akr ((zq (bx (nxS nextc0N nextc1N) (x25, _u25) (bE (nxS nextc0N nextc1N) first k) m) V2).drop k).length Ckr)) _w_81 _w_118 := (_S_117.step _cw_118 (fun i hm => by left; have _h1 := _lo53 _ hm; have _h2 := _hiv53 _ hm; omega))
            refine ⟨_S_120, ?_⟩
            refine DR_s 8 rfl (by kernel_rfl) rfl rfl (t_v (fun _ => (r_build (parts := [(0, .tmp 50), (1, .tmp 56)]) (cells := [(.int .i64 ((⟨moveA nextc0N x25.a ((m : Nat) : Int), moveA nextc1N x25.b ((m : Nat) : Int)⟩ : St2).a)), (.int .i64 ((⟨moveA nextc0N x25.a ((m : Nat) : Int), moveA nextc1N x25.b ((m : Nat) : Int)⟩ : St2).b)), (.slice _Av56 ((_u25 ++ [((m : Nat) : Int)])).length _Cv56)]) zr76 pl76 rfl rfl)) ?_)
            refine DR_one 9 (by kernel_rfl) ?_
            refine DO_s rfl rfl rfl ?_
            refine s_buildSlice (cs := Qs.cs) (parts := [(0, .tmp 57)]) (⟨⟨0, 0⟩, ⟨none, 0, 0⟩⟩ : Qs) [(⟨⟨(⟨moveA nextc0N x25.a ((m : Nat) : Int), moveA nextc1N x25.b ((m : Nat) : Int)⟩ : St2).a, (⟨moveA nextc0N x25.a ((m : Nat) : Int), moveA nextc1N x25.b ((m : Nat) : Int)⟩ : St2).b⟩, (⟨_Av56, ((_u25 ++ [((m : Nat) : Int)])).length, _Cv56⟩ : Sv)⟩ : Qs)] el77 sz76 zr76 Qs.len (by decide) rfl rfl rfl (by decide) (by decide) rfl fun _v58 _w_121 _q58 _lo58 _cw_121 => ?_
            have _cw_121z := _cw_121.size
            have E := E.trans _cw_121
            obtain ⟨_Av58, _Cv58, _ev58⟩ := _q58.val
            subst _ev58
            have _lv58 := _q58.len
            have _hiv58 := _q58.lt
            have _S_122 : Ch (bl (.slice Akr ((zq (bx (nxS nextc0N nextc1N) (x25, _u25) (bE (nxS nextc0N nextc1N) first k) m) V2).drop k).length Ckr)) _w_81 _w_121 := (_S_120.trans _cw_121.of_nil)
            refine ⟨_S_122, ?_⟩
            refine DR_one 10 (by kernel_rfl) ?_
            refine DO_s rfl rfl rfl ?_
            have _f_124 := (((((((((_o1_9.ch0 _cw_71).ch0 _cw_72).ch _cw_73 (fun g hg hm => by have _h0 := List.mem_singleton.1 hm; have _h2 := _lo1_9 _ hg; have _h3 := hikr _ hg; omega)).ch _cw_79 (fun g hg hm => by have _h0 := List.mem_singleton.1 hm; have _h2 := _lo1_9 _ hg; have _h3 := hikr _ hg; omega)).ch0 _cw_81).ch0 _cw_112).ch0 _cw_116).ch _cw_118 (fun g hg hm => by have _h1 := _lo53 _ hm; have _h2 := _hiv53 _ hm; have _h3 := _lo1_9 _ hg; have _h4 := hikr _ hg; omega)).ch0 _cw_121)
            refine s_append (cs := Qs.cs) el77 sz76 by76 zr76 rfl (by decide) Qs.one _f_124 _q58.ls rfl rfl (by have _z1 := bx_le9 (m := m) he25 (by omega); have _z2 := hle (k + 1); have _z3 := zq_len hV2; simp only [List.length_singleton, List.length_drop]; omega) (by have _z1 := bx_le9 (m := m) he25 (by omega); have _z2 := hle (k + 1); have _z3 := zq_len hV2; simp only [List.length_singleton, List.length_drop]; omega) _lo1_9 (by omega) fun _v59 _w_123 _q59 _lo59 _ap59 _cw_123 => ?_
            have _cw_123z := _cw_123.size
            have E := E.step _cw_123 (fun i hi => .inl (by have _h1 := _lo1_9 _ hi; omega))
            obtain ⟨_Av59, _Cv59, _ev59⟩ := _q59.val
            subst _ev59
            have _lv59 := _q59.len
            have _hiv59 := _q59.lt
            have _S_125 : Ch (bl (.slice Akr ((zq (bx (nxS nextc0N nextc1N) (x25, _u25) (bE (nxS nextc0N nextc1N) first k) m) V2).drop k).length Ckr)) _w_81 _w_123 := (_S_122.step _cw_123 (fun i hm => by exact .inr hm))
            refine ⟨_S_125, ?_⟩
            refine DR_s 11 rfl (by kernel_rfl) rfl rfl (t_v (fun _ => (r_assign rfl)) ?_)
            refine DR_done (by kernel_rfl) ?_
            refine inB_nrm ?_
            refine thn_nrm (_hK_61 _ _ ?_)
            clear _hK_61
            refine W_region ?_
            refine WL_step rfl rfl (r_move rfl) ?_
            refine WL_step rfl rfl (r_add (by omega) rfl rfl) ?_
            refine WL_step rfl rfl (r_assign rfl) ?_
            refine WL_nil ?_
            have _on_126 : Ol Qs.cs 76 3 _w_123 (.slice _Av59 (((zq (bx (nxS nextc0N nextc1N) (x25, _u25) (bE (nxS nextc0N nextc1N) first k) m) V2).drop k ++ [(⟨⟨(⟨moveA nextc0N x25.a ((m : Nat) : Int), moveA nextc1N x25.b ((m : Nat) : Int)⟩ : St2).a, (⟨moveA nextc0N x25.a ((m : Nat) : Int), moveA nextc1N x25.b ((m : Nat) : Int)⟩ : St2).b⟩, (⟨_Av56, ((_u25 ++ [((m : Nat) : Int)])).length, _Cv56⟩ : Sv)⟩ : Qs)])).length _Cv59) ((zq (bx (nxS nextc0N nextc1N) (x25, _u25) (bE (nxS nextc0N nextc1N) first k) (m + 1)) (V2 ++ [(⟨_Av56, ((_u25 ++ [((m : Nat) : Int)])).length, _Cv56⟩ : Sv)])).drop k) := by
              have hx := _q59
              first | (rw [bx_y hm46]; exact hx) | (rw [bx_n hm46, zq_drop hV2 (Nat.le_of_lt (bx_lt he25))]; exact hx)
            have _f_128 := ((((((_m_80.ch0 _cw_81).ch0 _cw_112).ch0 _cw_116).ch _cw_118 (fun hm => by have _h1 := _lo53 _ hm; have _h2 := _hiv53 _ hm; omega)).ch0 _cw_121).ch _cw_123 (fun hm => by have _h1 := _lo1_9 _ hm; have _h2 := hikr _ hm; omega))
            have _on_127 : Mp kvS _w_123 _b13 ((bx (nxS nextc0N nextc1N) (x25, _u25) (bE (nxS nextc0N nextc1N) first k) (m + 1)).map (·.1)) := by
              have hx := _f_128
              first | (rw [bx_y hm46]; exact hx) | (rw [bx_n hm46, List.map_append]; exact hx)
            have _f_129 := ((((_f_114.ch0 _cw_116).ch _cw_118 (fun i hm => by have _h1 := _lo53 _ hm; have _h2 := _hiv53 _ hm; omega)).ch0 _cw_121).chS _cw_123 _spl1_9)
            have _f_130 := ((_q56.ch0 _cw_121).ch _cw_123 (fun g hg hm => by rcases _ap56 with ea | ea; (rw [ea] at hg; have _h1 := _lo1_9 _ hm; have _h2 := hikr _ hm; have _h3 := _lo53 _ hg; have _h4 := _hiv53 _ hg; omega); (have z2hg := _hiv56 _ hg; rw [ea] at hg; have _z1 := List.mem_singleton.1 hg; have _h1 := _lo1_9 _ hm; have _h2 := hikr _ hm; omega)))
            have _f_131 := ((((((((((_F1_8.ch0 _cw_71).ch0 _cw_72).ch _cw_73 (fun hm => by have _h1 := List.mem_singleton.1 hm; omega)).ch _cw_79 (fun hm => by have _h1 := List.mem_singleton.1 hm; omega)).ch0 _cw_81).ch0 _cw_112).ch0 _cw_116).ch _cw_118 (fun hm => by have _h1 := _lo53 _ hm; have _h2 := _hiv53 _ hm; omega)).ch0 _cw_121).ch _cw_123 (fun hm => by have _h1 := _lo1_9 _ hm; have _h2 := hikr _ hm; omega))
            have _f_132 := ((((((((((_F1_9.ch0 _cw_71).ch0 _cw_72).ch _cw_73 (fun i hi => by have _h1 := List.mem_singleton.1 hi; omega)).ch _cw_79 (fun i hi => by have _h1 := List.mem_singleton.1 hi; omega)).ch0 _cw_81).ch0 _cw_112).ch0 _cw_116).ch _cw_118 (fun i hi => by have _h1 := _lo53 _ hi; omega)).ch0 _cw_121).ch _cw_123 (fun i hi => by have _h1 := _lo1_9 _ hi; omega))
            have _f_133 := ((((((((((_F1_10.ch0 _cw_71).ch0 _cw_72).ch _cw_73 (fun i hi => by have _h1 := List.mem_singleton.1 hi; omega)).ch _cw_79 (fun i hi => by have _h1 := List.mem_singleton.1 hi; omega)).ch0 _cw_81).ch0 _cw_112).ch0 _cw_116).ch _cw_118 (fun i hi => by have _h1 := _lo53 _ hi; omega)).ch0 _cw_121).ch _cw_123 (fun i hi => by have _h1 := _lo1_9 _ hi; omega))
            have _f_134 := ((((((((((_F1_11.ch0 _cw_71).ch0 _cw_72).ch _cw_73 (fun i hi => by have _h1 := List.mem_singleton.1 hi; omega)).ch _cw_79 (fun i hi => by have _h1 := List.mem_singleton.1 hi; omega)).ch0 _cw_81).ch0 _cw_112).ch0 _cw_116).ch _cw_118 (fun i hi => by have _h1 := _lo53 _ hi; omega)).ch0 _cw_121).ch _cw_123 (fun i hi => by have _h1 := _lo1_9 _ hi; omega))
            have _f_135 := ((((((((((_F1_12.ch0 _cw_71).ch0 _cw_72).ch _cw_73 (fun hm => by have _h1 := List.mem_singleton.1 hm; omega)).ch _cw_79 (fun hm => by have _h1 := List.mem_singleton.1 hm; omega)).ch0 _cw_81).ch0 _cw_112).ch0 _cw_116).ch _cw_118 (fun hm => by have _h1 := _lo53 _ hm; have _h2 := _hiv53 _ hm; omega)).ch0 _cw_121).ch _cw_123 (fun hm => by have _h1 := _lo1_9 _ hm; have _h2 := hikr _ hm; omega))
            have _f_136 := ((((((((((_F1_13.ch0 _cw_71).ch0 _cw_72).ch _cw_73 (fun i hi => by have _h1 := List.mem_singleton.1 hi; omega)).ch _cw_79 (fun i hi => by have _h1 := List.mem_singleton.1 hi; omega)).ch0 _cw_81).ch0 _cw_112).ch0 _cw_116).ch _cw_118 (fun i hi => by have _h1 := _lo53 _ hi; omega)).ch0 _cw_121).ch _cw_123 (fun i hi => by have _h1 := _lo1_9 _ hi; omega))
            have _f_137 := ((((((((((_F1_14.ch0 _cw_71).ch0 _cw_72).ch _cw_73 (fun i hi => by have _h1 := List.mem_singleton.1 hi; omega)).ch _cw_79 (fun i hi => by have _h1 := List.mem_singleton.1 hi; omega)).ch0 _cw_81).ch0 _cw_112).ch0 _cw_116).ch _cw_118 (fun i hi => by have _h1 := _lo53 _ hi; omega)).ch0 _cw_121).ch _cw_123 (fun i hi => by have _h1 := _lo1_9 _ hi; omega))
            have _f_138 := ((((((((((_F1_15.ch0 _cw_71).ch0 _cw_72).ch _cw_73 (fun i hi => by have _h1 := List.mem_singleton.1 hi; omega)).ch _cw_79 (fun i hi => by have _h1 := List.mem_singleton.1 hi; omega)).ch0 _cw_81).ch0 _cw_112).ch0 _cw_116).ch _cw_118 (fun i hi => by have _h1 := _lo53 _ hi; omega)).ch0 _cw_121).ch _cw_123 (fun i hi => by have _h1 := _lo1_9 _ hi; omega))
            have _f_139 := (((((_f_83.ch0 _cw_112).ch0 _cw_116).ch _cw_118 (fun hm => by have _h1 := _lo53 _ hm; have _h2 := _hiv53 _ hm; omega)).ch0 _cw_121).ch _cw_123 (fun hm => by exact _nbz1_9_10 (by first | exact hm | exact _h0 ▸ hm)))
            exact thn_nrm (Exists.intro ((m + 1), (V2 ++ [(⟨_Av56, ((_u25 ++ [((m : Nat) : Int)])).length, _Cv56⟩ : Sv)]), (.slice _Av59 (((zq (bx (nxS nextc0N nextc1N) (x25, _u25) (bE (nxS nextc0N nextc1N) first k) m) V2).drop k ++ [(⟨⟨(⟨moveA nextc0N x25.a ((m : Nat) : Int), moveA nextc1N x25.b ((m : Nat) : Int)⟩ : St2).a, (⟨moveA nextc0N x25.a ((m : Nat) : Int), moveA nextc1N x25.b ((m : Nat) : Int)⟩ : St2).b⟩, (⟨_Av56, ((_u25 ++ [((m : Nat) : Int)])).length, _Cv56⟩ : Sv)⟩ : Qs)])).length _Cv59)) ⟨⟨E, (by omega), (by omega), (by first | (rw [bx_y hm46]; exact hV2) | (rw [bx_n hm46]; simp only [List.length_append, hV2, List.length_singleton])), (by first | exact hvk | exact get_app hvk), _f_131, _f_132, _f_133, _f_134, _f_135, _f_136, _f_137, _f_138, _f_139, _on_126, (Lo.down _lo59 (by omega)), _on_127, (by rw [bx_n hm46, List.map_append]; exact Od.snoc _f_129 _f_130 (Lo.down _lo56 (by omega)) (fun g hg => by have _h1 := _hiv56 g hg; omega) (by omega) (by omega)), (fun hm => by rcases _ap59 with ea | ea; (rw [ea] at hm; exact _nbz1_9_10 (by first | exact hm | exact _h0 ▸ hm)); (have z2hm := _hiv59 _ hm; rw [ea] at hm; have _z1 := List.mem_singleton.1 hm; omega)), (fun u hu g hg hm => by rcases List.mem_append.1 hu with hu | hu; (rcases _ap59 with ea | ea; (rw [ea] at hm; exact _spl1_9 _ hu _ hg hm); (have z2hm := _hiv59 _ hm; rw [ea] at hm; have _z1 := List.mem_singleton.1 hm; have _h9 := _f_129.rng hu hg; omega)); (rw [List.mem_singleton.1 hu] at hg; replace hg : g ∈ bl (.slice _Av56 ((_u25 ++ [((m : Nat) : Int)])).length _Cv56) := hg; rcases _ap56 with ea | ea; (rw [ea] at hg; rcases _ap59 with ea | ea; (rw [ea] at hm; have _h1 := _lo1_9 _ hm; have _h2 := hikr _ hm; have _h3 := _lo53 _ hg; have _h4 := _hiv53 _ hg; omega); (have z2hm := _hiv59 _ hm; rw [ea] at hm; have _z1 := List.mem_singleton.1 hm; have _h3 := _lo53 _ hg; have _h4 := _hiv53 _ hg; omega)); (have z2hg := _hiv56 _ hg; rw [ea] at hg; have _z1 := List.mem_singleton.1 hg; rcases _ap59 with ea | ea; (rw [ea] at hm; have _h1 := _lo1_9 _ hm; have _h2 := hikr _ hm; omega); (have z2hm := _hiv59 _ hm; rw [ea] at hm; have _z1 := List.mem_singleton.1 hm; omega))))⟩, Sub.cons rfl (Sub.cons rfl (Sub.cons rfl (Sub.cons rfl (Sub.cons rfl (Sub.cons rfl (Sub.cons rfl (Sub.cons rfl (Sub.nil _)))))))), (by first | omega | (dsimp only; omega))⟩)
        · have _kb_77 := _h46
          have _h46 := bt_d (bf_n _h46)
          have hm46 := _h46
          refine W_skip ?_
          refine inB_nrm ?_
          refine thn_nrm (_hK_61 _ _ ?_)
          clear _hK_61
          refine W_region ?_
          refine WL_step rfl rfl (r_move rfl) ?_
          refine WL_step rfl rfl (r_add (by omega) rfl rfl) ?_
          refine WL_step rfl rfl (r_assign rfl) ?_
          refine WL_nil ?_
          have _f_141 := (((_o1_9.ch0 _cw_71).ch0 _cw_72).ch _cw_73 (fun g hg hm => by have _h0 := List.mem_singleton.1 hm; have _h2 := _lo1_9 _ hg; have _h3 := hikr _ hg; omega))
          have _on_140 : Ol Qs.cs 76 3 _w_73 (.slice Akr ((zq (bx (nxS nextc0N nextc1N) (x25, _u25) (bE (nxS nextc0N nextc1N) first k) m) V2).drop k).length Ckr) ((zq (bx (nxS nextc0N nextc1N) (x25, _u25) (bE (nxS nextc0N nextc1N) first k) (m + 1)) V2).drop k) := by
            have hx := _f_141
            first | (rw [bx_y hm46]; exact hx) | (rw [bx_n hm46, zq_drop hV2 (Nat.le_of_lt (bx_lt he25))]; exact hx)
          have _on_142 : Mp kvS _w_73 _b13 ((bx (nxS nextc0N nextc1N) (x25, _u25) (bE (nxS nextc0N nextc1N) first k) (m + 1)).map (·.1)) := by
            have hx := _f_76
            first | (rw [bx_y hm46]; exact hx) | (rw [bx_n hm46, List.map_append]; exact hx)
          have _f_143 := (((od2.ch0 _cw_71).ch0 _cw_72).ch _cw_73 (fun i hi => by have _h1 := List.mem_singleton.1 hi; omega))
          have _f_144 := (((_F1_8.ch0 _cw_71).ch0 _cw_72).ch _cw_73 (fun hm => by have _h1 := List.mem_singleton.1 hm; omega))
          have _f_145 := (((_F1_9.ch0 _cw_71).ch0 _cw_72).ch _cw_73 (fun i hi => by have _h1 := List.mem_singleton.1 hi; omega))
          have _f_146 := (((_F1_10.ch0 _cw_71).ch0 _cw_72).ch _cw_73 (fun i hi => by have _h1 := List.mem_singleton.1 hi; omega))
          have _f_147 := (((_F1_11.ch0 _cw_71).ch0 _cw_72).ch _cw_73 (fun i hi => by have _h1 := List.mem_singleton.1 hi; omega))
          have _f_148 := (((_F1_12.ch0 _cw_71).ch0 _cw_72).ch _cw_73 (fun hm => by have _h1 := List.mem_singleton.1 hm; omega))
          have _f_149 := (((_F1_13.ch0 _cw_71).ch0 _cw_72).ch _cw_73 (fun i hi => by have _h1 := List.mem_singleton.1 hi; omega))
          have _f_150 := (((_F1_14.ch0 _cw_71).ch0 _cw_72).ch _cw_73 (fun i hi => by have _h1 := List.mem_singleton.1 hi; omega))
          have _f_151 := (((_F1_15.ch0 _cw_71).ch0 _cw_72).ch _cw_73 (fun i hi => by have _h1 := List.mem_singleton.1 hi; omega))
          have _f_152 := (((_F1_16.ch0 _cw_71).ch0 _cw_72).ch _cw_73 (fun hm => by have _h1 := List.mem_singleton.1 hm; omega))
          exact thn_nrm (Exists.intro ((m + 1), V2, (.slice Akr ((zq (bx (nxS nextc0N nextc1N) (x25, _u25) (bE (nxS nextc0N nextc1N) first k) m) V2).drop k).length Ckr)) ⟨⟨E, (by omega), (by omega), (by first | (rw [bx_y hm46]; exact hV2) | (rw [bx_n hm46]; simp only [List.length_append, hV2, List.length_singleton])), (by first | exact hvk | exact get_app hvk), _f_144, _f_145, _f_146, _f_147, _f_148, _f_149, _f_150, _f_151, _f_152, _on_140, (Lo.down _lo1_9 (by omega)), _on_142, (by rw [bx_y hm46]; exact _f_143.up (Nat.le_refl _) (by omega)), (fun hm => by exact _nbz1_9_10 (by first | exact hm | exact _h0 ▸ hm)), (fun u hu g hg hm => by exact _spl1_9 _ hu _ hg hm)⟩, Sub.cons rfl (Sub.cons rfl (Sub.cons rfl (Sub.cons rfl (Sub.cons rfl (Sub.cons rfl (Sub.cons rfl (Sub.cons rfl (Sub.nil _)))))))), (by first | omega | (dsimp only; omega))⟩)
      · have _kb_60 := _h35
        have _h35 := bf_d _h35
        have zl2 := zq_len hV2
        have zd2 := List.length_drop (l := zq (bx (nxS nextc0N nextc1N) (x25, _u25) (bE (nxS nextc0N nextc1N) first k) m) V2) (i := k)
        have zk2 := bx_lt (m := m) he25
        refine W_exit (thn_exit (thn_exit (inB_hit ?_)))
        refine inB_nrm ?_
        refine thn_nrm (_hK_19 _ _ ?_)
        clear _hK_19
        refine W_region ?_
        refine WL_step rfl rfl (r_move rfl) ?_
        refine WL_s rfl rfl ?_
        refine (s_cutO (ys := (((zq (bx (nxS nextc0N nextc1N) (x25, _u25) (bE (nxS nextc0N nextc1N) first k) m) V2).drop k).drop 1)) 1 (((zq (bx (nxS nextc0N nextc1N) (x25, _u25) (bE (nxS nextc0N nextc1N) first k) m) V2).drop k).length) _o1_9 Qs.len el77 sz76 rfl ⟨_, _, rfl, by omega⟩ rfl (by omega) (by omega) (cut_all _ _) fun _v23 _q23 _bb23 _ln23 => ?_)
        obtain ⟨_A23, _C23, _e23⟩ := _q23.val
        subst _e23
        have _l23 := _q23.len
        have hi23 := _q23.lt
        refine WL_step rfl rfl (r_assign rfl) ?_
        refine WL_nil ?_
        have _on_153 : Ol Qs.cs 76 3 _wr_57 (.slice _A23 ((((zq (bx (nxS nextc0N nextc1N) (x25, _u25) (bE (nxS nextc0N nextc1N) first k) m) V2).drop k).drop 1)).length _C23) ((zq (bE (nxS nextc0N nextc1N) first (k + 1)) V2).drop (k + 1)) := by
          have hx := _q23
          rw [bE_succ he25, show 9 = m by omega]; exact hx.eq (by rw [List.drop_drop])
        have _on_154 : Mp kvS _wr_57 _b13 ((bE (nxS nextc0N nextc1N) first (k + 1)).map (·.1)) := by
          have hx := _m1_8
          rw [bE_succ he25, show 9 = m by omega]; exact hx
        exact thn_nrm (Exists.intro ((k + 1), V2, (.slice _A23 ((((zq (bx (nxS nextc0N nextc1N) (x25, _u25) (bE (nxS nextc0N nextc1N) first k) m) V2).drop k).drop 1)).length _C23)) ⟨⟨E, (by omega), (by have _z9 := bx_lt (m := 9) he25; rw [← bE_succ he25] at _z9; omega), (by rw [bE_succ he25, show 9 = m by omega]; exact hV2), (fst_step hf he25 _h30), _on_153, (Lo.down (fun g hg => _lo1_9 g (_bb23 ▸ hg)) (by omega)), _on_154, (by rw [bE_succ he25, show 9 = m by omega]; exact od2.up (Nat.le_refl _) (by omega)), (fun u hu g hg hm => by rw [_bb23] at hm; exact _spl1_9 _ hu _ hg hm)⟩, Sub.cons rfl (Sub.cons rfl (Sub.cons rfl (Sub.cons rfl (Sub.nil _)))), (by first | omega | (dsimp only; omega))⟩)
  · have _kb_18 := _h21
    have _h21 := bf_d _h21
    refine W_exit (thn_exit (thn_exit (inB_hit ?_)))
    refine thn_nrm (_hK_8 _ _ ?_)
    clear _hK_8
    refine W_seq fun _K_155 _hK_155 => ?_
    refine W_region ?_
    refine WL_step rfl rfl (r_assign rfl) ?_
    refine WL_step rfl rfl (r_assign rfl) ?_
    refine WL_nil ?_
    refine thn_nrm (_hK_155 _ _ ?_)
    clear _hK_155
    refine W_ret ?_
    clear _hK_16
    have _o_156 : Ol ics 3 1 _wr_15 (.slice none 0 0) ((difR testc1A nextc0N testc0A nextc1N first true).1) := by
      have hx := (Ol.nil (cs := ics) (e := 3) (k := 1) _wr_15)
      first | (rw [← dif_eq (bres_hit he25 _h30 hf)]; exact hx) | (rw [← dif_eq (bres_none (zq_no hV (by omega)) hf)]; simpa using hx)
    exact ret_intro [_, _] ⟨rfl, ⟨rfl, trivial⟩⟩ ⟨(.slice none 0 0), (congrArg (fun zq => (Value.tuple #[(.slice none 0 0), .bool zq])) (by first | rw [← dif_eq (bres_hit he25 _h30 hf)] | rw [← dif_eq (bres_none (zq_no hV (by omega)) hf)])), _o_156, (Lo.nil _), E⟩

/-- impl.together -/
theorem c_impl_together {w : World} (aS : Int) {LL_aA _B_aA : Nat} {_v_aA : Value} {aA : List Bool} (_h_aA : Ls bcs 1 w LL_aA _B_aA _v_aA aA) {LL_saN _B_saN : Nat} {_v_saN : Value} {saN : List Sv} (_h_saN : Ls Sv.cs 1 w LL_saN _B_saN _v_saN saN) {LR_aN BB_aN : Nat} {aN : List (List Int)} (_rd_aN : Rd ics 1 w LR_aN BB_aN saN aN) (bS : Int) {LL_bA _B_bA : Nat} {_v_bA : Value} {bA : List Bool} (_h_bA : Ls bcs 1 w LL_bA _B_bA _v_bA bA) {LL_sbN _B_sbN : Nat} {_v_sbN : Value} {sbN : List Sv} (_h_sbN : Ls Sv.cs 1 w LL_sbN _B_sbN _v_sbN sbN) {LR_bN BB_bN : Nat} {bN : List (List Int)} (_rd_bN : Rd ics 1 w LR_bN BB_bN sbN bN) :
    Ctr Try.prog 38 #[(.agg #[(.int .i64 aS), _v_aA, _v_saN]), (.agg #[(.int .i64 bS), _v_bA, _v_sbN])] w (fun v w' => ∃ _b0 _b1, v = .func (.func 66) #[] #[.pointer (some ⟨_b0, 0, none⟩), .pointer (some ⟨_b1, 0, none⟩)] ∧ Blk w' _b0 28 [(.int .i64 aS), _v_aA, _v_saN] ∧ w.heap.size ≤ _b0 ∧ Blk w' _b1 28 [(.int .i64 bS), _v_bA, _v_sbN] ∧ w.heap.size ≤ _b1 ∧ Ch [] w w') := by
  obtain ⟨_A_aA, _C_aA, _e1_aA⟩ := _h_aA.val
  subst _e1_aA
  have _l_aA := _h_aA.len
  have _h_aA := _h_aA.here (by decide)
  obtain ⟨_A_saN, _C_saN, _e1_saN⟩ := _h_saN.val
  subst _e1_saN
  have _l_saN := _h_saN.len
  have _h_saN := _h_saN.here (by decide)
  have _rd_aN := _rd_aN.here (by decide)
  have _rl_aN := _rd_aN.1
  obtain ⟨_A_bA, _C_bA, _e1_bA⟩ := _h_bA.val
  subst _e1_bA
  have _l_bA := _h_bA.len
  have _h_bA := _h_bA.here (by decide)
  obtain ⟨_A_sbN, _C_sbN, _e1_sbN⟩ := _h_sbN.val
  subst _e1_sbN
  have _l_sbN := _h_sbN.len
  have _h_sbN := _h_sbN.here (by decide)
  have _rd_bN := _rd_bN.here (by decide)
  have _rl_bN := _rd_bN.1
  have E := Ch.refl [] w
  refine Ctr_of_W (N := 6) (vs0 := [(.agg #[(.int .i64 aS), (.slice _A_aA aA.length _C_aA), (.slice _A_saN saN.length _C_saN)]), (.agg #[(.int .i64 bS), (.slice _A_bA bA.length _C_bA), (.slice _A_sbN sbN.length _C_sbN)])]) Try.func38 rfl rfl rfl ?_
  refine W_seq fun _K_1 _hK_1 => ?_
  refine W_region ?_
  refine WL_s rfl rfl ?_
  refine s_box rfl fun _b2 _w_2 _m2 _cw_2 _e2 => ?_
  have _cw_2z := _cw_2.size
  have E := E.trans _cw_2
  have _z2 := _m2.lt
  replace _m2 : Blk _w_2 _b2 28 [(.int .i64 aS), (.slice _A_aA aA.length _C_aA), (.slice _A_saN saN.length _C_saN)] := _m2
  refine WL_s rfl rfl ?_
  refine s_box rfl fun _b3 _w_3 _m3 _cw_3 _e3 => ?_
  have _cw_3z := _cw_3.size
  have E := E.trans _cw_3
  have _z3 := _m3.lt
  replace _m3 : Blk _w_3 _b3 28 [(.int .i64 bS), (.slice _A_bA bA.length _C_bA), (.slice _A_sbN sbN.length _C_sbN)] := _m3
  refine WL_step rfl rfl (r_assign rfl) ?_
  refine WL_nil ?_
  refine thn_nrm (_hK_1 _ _ ?_)
  clear _hK_1
  refine W_seq fun _K_4 _hK_4 => ?_
  refine W_region ?_
  refine WL_step rfl rfl (r_makeFunc (xs := []) (ys := [.tmp 2, .tmp 3]) rfl rfl) ?_
  refine WL_step rfl rfl (r_assign rfl) ?_
  refine WL_nil ?_
  refine thn_nrm (_hK_4 _ _ ?_)
  clear _hK_4
  refine W_ret ?_
  have _f_5 := (_m2.ch0 _cw_3)
  exact ret_intro [_] ⟨rfl, trivial⟩ ⟨_, _, rfl, _f_5, (by omega), _m3, (by omega), E⟩

/-- impl.MissingWord -/
theorem c_impl_MissingWord {w : World} (aS : Int) {LL_aA _B_aA : Nat} {_v_aA : Value} {aA : List Bool} (_h_aA : Ls bcs 1 w LL_aA _B_aA _v_aA aA) {LL_saN _B_saN : Nat} {_v_saN : Value} {saN : List Sv} (_h_saN : Ls Sv.cs 1 w LL_saN _B_saN _v_saN saN) {LR_aN BB_aN : Nat} {aN : List (List Int)} (_rd_aN : Rd ics 1 w LR_aN BB_aN saN aN) (bS : Int) {LL_bA _B_bA : Nat} {_v_bA : Value} {bA : List Bool} (_h_bA : Ls bcs 1 w LL_bA _B_bA _v_bA bA) {LL_sbN _B_sbN : Nat} {_v_sbN : Value} {sbN : List Sv} (_h_sbN : Ls Sv.cs 1 w LL_sbN _B_sbN _v_sbN sbN) {LR_bN BB_bN : Nat} {bN : List (List Int)} (_rd_bN : Rd ics 1 w LR_bN BB_bN sbN bN) :
    Ctr Try.prog 17 #[(.agg #[(.int .i64 aS), _v_aA, _v_saN]), (.agg #[(.int .i64 bS), _v_bA, _v_sbN])] w (fun v w' => ∃ (_u0 : Value), v = .tuple #[_u0, .bool ((msR aS aA aN bS bA bN).2)] ∧ Ol ics 3 1 w' _u0 ((msR aS aA aN bS bA bN).1) ∧ Lo w.heap.size _u0 ∧ Ch [] w w') := by
  obtain ⟨_A_aA, _C_aA, _e1_aA⟩ := _h_aA.val
  subst _e1_aA
  have _l_aA := _h_aA.len
  have _h_aA := _h_aA.here (by decide)
  obtain ⟨_A_saN, _C_saN, _e1_saN⟩ := _h_saN.val
  subst _e1_saN
  have _l_saN := _h_saN.len
  have _h_saN := _h_saN.here (by decide)
  have _rd_aN := _rd_aN.here (by decide)
  have _rl_aN := _rd_aN.1
  obtain ⟨_A_bA, _C_bA, _e1_bA⟩ := _h_bA.val
  subst _e1_bA
  have _l_bA := _h_bA.len
  have _h_bA := _h_bA.here (by decide)
  obtain ⟨_A_sbN, _C_sbN, _e1_sbN⟩ := _h_sbN.val
  subst _e1_sbN
  have _l_sbN := _h_sbN.len
  have _h_sbN := _h_sbN.here (by decide)
  have _rd_bN := _rd_bN.here (by decide)
  have _rl_bN := _rd_bN.1
  have E := Ch.refl [] w
  refine Ctr_of_W (N := 26) (vs0 := [(.agg #[(.int .i64 aS), (.slice _A_aA aA.length _C_aA), (.slice _A_saN saN.length _C_saN)]), (.agg #[(.int .i64 bS), (.slice _A_bA bA.length _C_bA), (.slice _A_sbN sbN.length _C_sbN)])]) Try.func17 rfl rfl rfl ?_
  refine W_seq fun _K_1 _hK_1 => ?_
  refine W_region ?_
  refine WL_s rfl rfl ?_
  refine s_box rfl fun _b2 _w_2 _m2 _cw_2 _e2 => ?_
  have _cw_2z := _cw_2.size
  have E := E.trans _cw_2
  have _z2 := _m2.lt
  replace _m2 : Blk _w_2 _b2 28 [(.int .i64 aS), (.slice _A_aA aA.length _C_aA), (.slice _A_saN saN.length _C_saN)] := _m2
  refine WL_s rfl rfl ?_
  refine s_box rfl fun _b3 _w_3 _m3 _cw_3 _e3 => ?_
  have _cw_3z := _cw_3.size
  have E := E.trans _cw_3
  have _z3 := _m3.lt
  replace _m3 : Blk _w_3 _b3 28 [(.int .i64 bS), (.slice _A_bA bA.length _C_bA), (.slice _A_sbN sbN.length _C_sbN)] := _m3
  refine WL_step rfl rfl (r_assign rfl) ?_
  refine WL_step rfl rfl (r_assign rfl) ?_
  refine WL_nil ?_
  refine thn_nrm (_hK_1 _ _ ?_)
  clear _hK_1
  refine W_seq fun _K_4 _hK_4 => ?_
  refine W_seq fun _K_5 _hK_5 => ?_
  refine W_region ?_
  have _f_6 := (_m2.ch0 _cw_3)
  refine WL_step rfl rfl (r_loadAtA0 _f_6.at_ agg28 sz28 rfl) ?_
  refine WL_s rfl rfl ?_
  have _f_7 := ((_h_aA.ch0 _cw_2).ch0 _cw_3)
  have _f_8 := ((_rd_aN.ch0 _cw_2).ch0 _cw_3)
  have _f_9 := ((_h_saN.ch0 _cw_2).ch0 _cw_3)
  refine Step.call (r_call (xs := [.tmp 6]) fk33 rfl) (c_impl_IsValidAutomaton _ _f_7 _f_9 _f_8 ) fun _v7 _w_10 _q7 => ?_
  obtain ⟨rfl, _cw_10⟩ := _q7
  have _cw_10z := _cw_10.size
  have E := E.trans _cw_10
  refine WL_step rfl rfl (r_not rfl) ?_
  refine WL_step rfl rfl (r_move rfl) ?_
  refine WL_split (d := 9) rfl (fun _h9 => ?_) (fun _h9 => ?_)
  · have _kb_11 := _h9
    have _h9 := bf_t (bt_n _h9)
    refine WL_skip rfl rfl ?_
    refine WL_skip rfl rfl ?_
    refine WL_skip rfl rfl ?_
    refine WL_step rfl rfl (r_pickT rfl rfl) ?_
    refine WL_nil ?_
    refine thn_nrm (_hK_5 _ _ ?_)
    clear _hK_5
    refine W_condT rfl ?_
    refine W_seq fun _K_12 _hK_12 => ?_
    refine W_region ?_
    refine WL_step rfl rfl (r_assign rfl) ?_
    refine WL_step rfl rfl (r_assign rfl) ?_
    refine WL_nil ?_
    refine thn_nrm (_hK_12 _ _ ?_)
    clear _hK_12
    refine W_ret (thn_ret ?_)
    clear _hK_4
    have _o_13 : Ol ics 3 1 _w_10 (.slice none 0 0) ((msR aS aA aN bS bA bN).1) := by
      have hx := (Ol.nil (cs := ics) (e := 3) (k := 1) _w_10)
      first | (rw [msR_y _h9 _h13]; exact hx) | (rw [msR_n (fun q => _h9 q.1)]; simpa using hx) | (rw [msR_n (fun q => _h13 q.2)]; simpa using hx)
    exact ret_intro [_, _] ⟨rfl, ⟨rfl, trivial⟩⟩ ⟨(.slice none 0 0), (congrArg (fun zq => (Value.tuple #[(.slice none 0 0), .bool zq])) (by first | rw [msR_y _h9 _h13] | rw [msR_n (fun q => _h9 q.1)] | rw [msR_n (fun q => _h13 q.2)])), _o_13, (Lo.nil _), E⟩
  · have _kb_11 := _h9
    have _h9 := bt_t (bf_n _h9)
    have _f_14 := (_m3.ch0 _cw_10)
    refine WL_step rfl rfl (r_loadAtA0 _f_14.at_ agg28 sz28 rfl) ?_
    refine WL_s rfl rfl ?_
    have _f_15 := (((_h_bA.ch0 _cw_2).ch0 _cw_3).ch0 _cw_10)
    have _f_16 := (((_rd_bN.ch0 _cw_2).ch0 _cw_3).ch0 _cw_10)
    have _f_17 := (((_h_sbN.ch0 _cw_2).ch0 _cw_3).ch0 _cw_10)
    refine Step.call (r_call (xs := [.tmp 10]) fk33 rfl) (c_impl_IsValidAutomaton _ _f_15 _f_17 _f_16 ) fun _v11 _w_18 _q11 => ?_
    obtain ⟨rfl, _cw_18⟩ := _q11
    have _cw_18z := _cw_18.size
    have E := E.trans _cw_18
    refine WL_step rfl rfl (r_not rfl) ?_
    refine WL_step rfl rfl (r_pickF rfl rfl) ?_
    refine WL_nil ?_
    refine thn_nrm (_hK_5 _ _ ?_)
    clear _hK_5
    refine W_cond rfl (fun _h13 => ?_) (fun _h13 => ?_)
    · have _kb_19 := _h13
      have _h13 := bf_t (bt_n _h13)
      refine W_seq fun _K_20 _hK_20 => ?_
      refine W_region ?_
      refine WL_step rfl rfl (r_assign rfl) ?_
      refine WL_step rfl rfl (r_assign rfl) ?_
      refine WL_nil ?_
      refine thn_nrm (_hK_20 _ _ ?_)
      clear _hK_20
      refine W_ret (thn_ret ?_)
      clear _hK_4
      have _o_21 : Ol ics 3 1 _w_18 (.slice none 0 0) ((msR aS aA aN bS bA bN).1) := by
        have hx := (Ol.nil (cs := ics) (e := 3) (k := 1) _w_18)
        first | (rw [msR_y _h9 _h13]; exact hx) | (rw [msR_n (fun q => _h9 q.1)]; simpa using hx) | (rw [msR_n (fun q => _h13 q.2)]; simpa using hx)
      exact ret_intro [_, _] ⟨rfl, ⟨rfl, trivial⟩⟩ ⟨(.slice none 0 0), (congrArg (fun zq => (Value.tuple #[(.slice none 0 0), .bool zq])) (by first | rw [msR_y _h9 _h13] | rw [msR_n (fun q => _h9 q.1)] | rw [msR_n (fun q => _h13 q.2)])), _o_21, (Lo.nil _), E⟩
    · have _kb_19 := _h13
      have _h13 := bt_t (bf_n _h13)
      refine W_skip ?_
      refine thn_nrm (_hK_4 _ _ ?_)
      clear _hK_4
      refine W_seq fun _K_22 _hK_22 => ?_
      refine W_drawC [] 14 mixed rfl fun _w_23 _cw_23 => ?_
      have _cw_23z := _cw_23.size
      have E := E.trans _cw_23
      refine DR_s 0 rfl (by kernel_rfl) rfl rfl (t_v (fun _ => (r_fieldAddr fa28_0 rfl)) ?_)
      have _f_24 := (((_f_6.ch0 _cw_10).ch0 _cw_18).ch0 _cw_23)
      refine DR_s 1 rfl (by kernel_rfl) rfl rfl (t_loadAt _f_24.at_ (fun i hi => absurd hi List.not_mem_nil) agg3 rfl rfl ?_)
      refine DR_s 2 rfl (by kernel_rfl) rfl rfl (t_v (fun _ => (r_fieldAddr fa28_0 rfl)) ?_)
      have _f_25 := ((_f_14.ch0 _cw_18).ch0 _cw_23)
      refine DR_s 3 rfl (by kernel_rfl) rfl rfl (t_loadAt _f_25.at_ (fun i hi => absurd hi List.not_mem_nil) agg3 rfl rfl ?_)
      refine DR_s 4 rfl (by kernel_rfl) rfl rfl (t_v (fun _ => (r_build (parts := [(0, .tmp 15), (1, .tmp 17)]) (cells := [(.int .i64 aS), (.int .i64 bS)]) zr51 pl51 rfl rfl)) ?_)
      refine DR_s 5 rfl (by kernel_rfl) rfl rfl (t_loadAtA0 _f_24.at_ (fun i hi => absurd hi List.not_mem_nil) agg28 sz28 rfl ?_)
      refine DR_s 6 rfl (by kernel_rfl) rfl rfl (t_loadAtA0 _f_25.at_ (fun i hi => absurd hi List.not_mem_nil) agg28 sz28 rfl ?_)
      refine DR_s 8 rfl (by kernel_rfl) rfl rfl (t_v (fun _ => (r_makeFunc (xs := []) (ys := [.tmp 3, .tmp 2]) rfl rfl)) ?_)
      refine DR_one 7 (by kernel_rfl) ?_
      refine DO_s rfl rfl rfl ?_
      have _f_26 := (((_f_7.ch0 _cw_10).ch0 _cw_18).ch0 _cw_23)
      have _f_27 := (((_f_8.ch0 _cw_10).ch0 _cw_18).ch0 _cw_23)
      have _f_28 := (((_f_9.ch0 _cw_10).ch0 _cw_18).ch0 _cw_23)
      have _f_29 := ((_f_15.ch0 _cw_18).ch0 _cw_23)
      have _f_30 := ((_f_16.ch0 _cw_18).ch0 _cw_23)
      have _f_31 := ((_f_17.ch0 _cw_18).ch0 _cw_23)
      refine Step.call (r_call (xs := [.tmp 19, .tmp 20]) fk38 rfl) (c_impl_together _ _f_26 _f_28 _f_27 _ _f_29 _f_31 _f_30 ) fun _v21 _w_32 _q21 => ?_
      obtain ⟨b21_0, b21_1, rfl, mb21_0, eb21_0, mb21_1, eb21_1, _cw_32⟩ := _q21
      have _cw_32z := _cw_32.size
      have E := E.trans _cw_32
      have zb21_0 := mb21_0.lt
      replace mb21_0 : Blk _w_32 b21_0 28 [(.int .i64 aS), (.slice _A_aA aA.length _C_aA), (.slice _A_saN saN.length _C_saN)] := mb21_0
      have zb21_1 := mb21_1.lt
      replace mb21_1 : Blk _w_32 b21_1 28 [(.int .i64 bS), (.slice _A_bA bA.length _C_bA), (.slice _A_sbN sbN.length _C_sbN)] := mb21_1
      have _S_33 : Ch [] _w_23 _w_32 := ((Ch.refl _ _).trans _cw_32)
      refine ⟨_S_33, ?_⟩
      refine DR_one 9 (by kernel_rfl) ?_
      refine DO_s rfl rfl rfl ?_
      have _f_34 := (_f_26.ch0 _cw_32)
      have _f_35 := (_f_27.ch0 _cw_32)
      have _f_36 := (_f_28.ch0 _cw_32)
      have _f_37 := (_f_29.ch0 _cw_32)
      have _f_38 := (_f_30.ch0 _cw_32)
      have _f_39 := (_f_31.ch0 _cw_32)
      have _f_40 := (_f_25.ch0 _cw_32)
      have _f_41 := (_f_24.ch0 _cw_32)
      refine Step.call (r_call (xs := [.tmp 18, .tmp 21, .tmp 22]) fk37 rfl) (c_impl_states ⟨aS, bS⟩ _ _f_34 _f_36 _f_35 mb21_0 _ _f_37 _f_39 _f_38 mb21_1 _ _f_37 _f_39 _f_38 _f_40 _ _f_34 _f_36 _f_35 _f_41 _h9 _h13 ⟨inA_start _h9, inA_start _h13⟩ rfl rfl) fun _v23 _w_42 _q23 => ?_
      obtain ⟨u23_0, rfl, _q_u23_0, _lo_u23_0, _cw_42⟩ := _q23
      have _cw_42z := _cw_42.size
      have E := E.trans _cw_42
      obtain ⟨Au23_0, Cu23_0, eu23_0⟩ := _q_u23_0.val
      subst eu23_0
      have lu23_0 := _q_u23_0.len
      have _hiu23_0 := _q_u23_0.lt
      have _S_43 : Ch [] _w_23 _w_42 := (_S_33.trans _cw_42)
      refine ⟨_S_43, ?_⟩
      refine DR_s 10 rfl (by kernel_rfl) rfl rfl (t_v (fun _ => (r_extract rfl rfl)) ?_)
      refine DR_s 11 rfl (by kernel_rfl) rfl rfl (t_v (fun _ => (r_extract rfl rfl)) ?_)
      refine DR_s 12 rfl (by kernel_rfl) rfl rfl (t_v (fun _ => (r_assign rfl)) ?_)
      refine DR_s 13 rfl (by kernel_rfl) rfl rfl (t_v (fun _ => (r_assign rfl)) ?_)
      refine DR_done (by kernel_rfl) ?_
      refine thn_nrm (_hK_22 _ _ ?_)
      clear _hK_22
      refine W_ret ?_
      have _o_44 : Ol ics 3 1 _w_42 (.slice Au23_0 ((difR aA aN bA bN (⟨aS, bS⟩ : St2) true).1).length Cu23_0) ((msR aS aA aN bS bA bN).1) := by
        have hx := _q_u23_0
        first | (rw [msR_y _h9 _h13]; exact hx) | (rw [msR_n (fun q => _h9 q.1)]; simpa using hx) | (rw [msR_n (fun q => _h13 q.2)]; simpa using hx)
      exact ret_intro [_, _] ⟨rfl, ⟨rfl, trivial⟩⟩ ⟨(.slice Au23_0 ((difR aA aN bA bN (⟨aS, bS⟩ : St2) true).1).length Cu23_0), (congrArg (fun zq => (Value.tuple #[(.slice Au23_0 ((difR aA aN bA bN (⟨aS, bS⟩ : St2) true).1).length Cu23_0), .bool zq])) (by first | rw [msR_y _h9 _h13] | rw [msR_n (fun q => _h9 q.1)] | rw [msR_n (fun q => _h13 q.2)])), _o_44, (Lo.down _lo_u23_0 (by omega)), E⟩

/-- laws.eqBoolS -/
theorem c_laws_eqBoolS {w : World} {LL_a _B_a : Nat} {_v_a : Value} {a : List Bool} (_h_a : Ls bcs 1 w LL_a _B_a _v_a a) {LL_b _B_b : Nat} {_v_b : Value} {b : List Bool} (_h_b : Ls bcs 1 w LL_b _B_b _v_b b) :
    Ctr Try.prog 34 #[_v_a, _v_b] w (fun v w' => v = .bool (decide (a = b)) ∧ Ch [] w w') := by
  obtain ⟨_A_a, _C_a, _e1_a⟩ := _h_a.val
  subst _e1_a
  have _l_a := _h_a.len
  have _h_a := _h_a.here (by decide)
  obtain ⟨_A_b, _C_b, _e1_b⟩ := _h_b.val
  subst _e1_b
  have _l_b := _h_b.len
  have _h_b := _h_b.here (by decide)
  have E := Ch.refl [] w
  refine Ctr_of_W (N := 26) (vs0 := [(.slice _A_a a.length _C_a), (.slice _A_b b.length _C_b)]) Try.func34 rfl rfl rfl ?_
  refine W_seq fun _K_1 _hK_1 => ?_
  refine W_region ?_
  refine WL_step rfl rfl (r_assign rfl) ?_
  refine WL_nil ?_
  refine thn_nrm (_hK_1 _ _ ?_)
  clear _hK_1
  refine W_seq fun _K_2 _hK_2 => ?_
  refine W_seq fun _K_3 _hK_3 => ?_
  refine W_region ?_
  refine WL_step rfl rfl (r_move rfl) ?_
  refine WL_step rfl rfl (r_len (by rw [el22]; rfl) rfl) ?_
  refine WL_step rfl rfl (r_move rfl) ?_
  refine WL_step rfl rfl (r_len (by rw [el22]; rfl) rfl) ?_
  refine WL_step rfl rfl (r_neq rfl rfl) ?_
  refine WL_nil ?_
  refine thn_nrm (_hK_3 _ _ ?_)
  clear _hK_3
  refine W_cond rfl (fun _h10 => ?_) (fun _h10 => ?_)
  · have _kb_4 := _h10
    have _h10 := bf_d (bt_n _h10)
    refine W_seq fun _K_5 _hK_5 => ?_
    refine W_region ?_
    refine WL_step rfl rfl (r_assign rfl) ?_
    refine WL_nil ?_
    refine thn_nrm (_hK_5 _ _ ?_)
    clear _hK_5
    refine W_ret (thn_ret ?_)
    clear _hK_2
    exact ret_intro [_] ⟨rfl, trivial⟩ ⟨congrArg Value.bool (decide_eq_false (fun e => _h10 (by rw [e]))).symm, E⟩
  · have _kb_4 := _h10
    have _h10 := bt_d (bf_n _h10)
    refine W_skip ?_
    refine thn_nrm (_hK_2 _ _ ?_)
    clear _hK_2
    refine W_seq fun _K_6 _hK_6 => ?_
    refine W_seq fun _K_7 _hK_7 => ?_
    refine W_region ?_
    refine WL_step rfl rfl (r_assign rfl) ?_
    refine WL_nil ?_
    refine thn_nrm (_hK_7 _ _ ?_)
    clear _hK_7
    refine W_block ?_
    refine W_loop (σ := Nat) (fun (k : Nat) => [(0, (.slice _A_a a.length _C_a)), (1, (.slice _A_b b.length _C_b)), (5, (.int .i64 ((k : Nat) : Int)))]) (fun (k : Nat) wx => Ch [] w wx ∧ w.heap.size ≤ wx.heap.size ∧ (k ≤ a.length) ∧ (a.take k = b.take k)) (fun (k : Nat) => a.length - k) 0 (Sub.cons rfl (Sub.cons rfl (Sub.cons rfl (Sub.nil _)))) ⟨E, (Nat.le_refl _), (by omega), rfl⟩ ?_
    rintro k _wr_8 ⟨E, _zz0, _hk, _ht⟩
    have _E0h := E
    have _E0hz := _E0h.size
    refine W_seq fun _K_9 _hK_9 => ?_
    refine W_seq fun _K_10 _hK_10 => ?_
    refine W_region ?_
    refine WL_step rfl rfl (r_move rfl) ?_
    refine WL_step rfl rfl (r_move rfl) ?_
    refine WL_step rfl rfl (r_len (by rw [el22]; rfl) rfl) ?_
    refine WL_step rfl rfl (r_lss rfl rfl) ?_
    refine WL_nil ?_
    refine thn_nrm (_hK_10 _ _ ?_)
    clear _hK_10
    refine W_cond rfl (fun _h14 => ?_) (fun _h14 => ?_)
    · have _kb_11 := _h14
      have _h14 := bt_d _h14
      refine W_skip ?_
      refine thn_nrm (_hK_9 _ _ ?_)
      clear _hK_9
      refine W_seq fun _K_12 _hK_12 => ?_
      refine W_block ?_
      refine W_seq fun _K_13 _hK_13 => ?_
      refine W_drawC [] 9 mixed rfl fun _w_14 _cw_14 => ?_
      have _cw_14z := _cw_14.size
      have E := E.trans _cw_14
      refine DR_s 0 rfl (by kernel_rfl) rfl rfl (t_v (fun _ => (r_move rfl)) ?_)
      refine DR_s 1 rfl (by kernel_rfl) rfl rfl (t_v (fun _ => (r_move rfl)) ?_)
      have _f_15 := ((_h_a.ch0 _E0h).ch0 _cw_14)
      refine DR_s 2 rfl (by kernel_rfl) rfl rfl (t_index _f_15 bcs_len el22 sz4 rfl rfl rfl (by omega) fun _p19 _y19 _hy19 _a19 => ?_)
      refine DR_s 3 rfl (by kernel_rfl) rfl rfl (t_loadAt0 _a19 (fun i hi => absurd hi List.not_mem_nil) agg4 rfl rfl ?_)
      refine DR_s 4 rfl (by kernel_rfl) rfl rfl (t_v (fun _ => (r_move rfl)) ?_)
      refine DR_s 5 rfl (by kernel_rfl) rfl rfl (t_v (fun _ => (r_move rfl)) ?_)
      have _f_16 := ((_h_b.ch0 _E0h).ch0 _cw_14)
      refine DR_s 6 rfl (by kernel_rfl) rfl rfl (t_index _f_16 bcs_len el22 sz4 rfl rfl rfl (by omega) fun _p23 _y23 _hy23 _a23 => ?_)
      refine DR_s 7 rfl (by kernel_rfl) rfl rfl (t_loadAt0 _a23 (fun i hi => absurd hi List.not_mem_nil) agg4 rfl rfl ?_)
      refine DR_s 8 rfl (by kernel_rfl) rfl rfl (t_v (fun _ => (r_neqB un4 rfl rfl)) ?_)
      refine DR_done (by kernel_rfl) ?_
      refine thn_nrm (_hK_13 _ _ ?_)
      clear _hK_13
      refine W_cond rfl (fun _h25 => ?_) (fun _h25 => ?_)
      · have _kb_17 := _h25
        have _h25 := bf_e (bt_n _h25)
        refine W_seq fun _K_18 _hK_18 => ?_
        refine W_region ?_
        refine WL_step rfl rfl (r_assign rfl) ?_
        refine WL_nil ?_
        refine thn_nrm (_hK_18 _ _ ?_)
        clear _hK_18
        refine W_ret (inB_ret (thn_ret (thn_ret (inB_ret (thn_ret ?_)))))
        clear _hK_6 _hK_12
        exact ret_intro [_] ⟨rfl, trivial⟩ ⟨congrArg Value.bool (decide_eq_false (ne_of_get _hy19 _hy23 _h25)).symm, E⟩
      · have _kb_17 := _h25
        have _h25 := bt_e (bf_n _h25)
        refine W_skip ?_
        refine inB_nrm ?_
        refine thn_nrm (_hK_12 _ _ ?_)
        clear _hK_12
        refine W_region ?_
        refine WL_step rfl rfl (r_move rfl) ?_
        refine WL_step rfl rfl (r_add (by omega) rfl rfl) ?_
        refine WL_step rfl rfl (r_assign rfl) ?_
        refine WL_nil ?_
        exact thn_nrm (Exists.intro (k + 1) ⟨⟨E, (by omega), (by omega), (take_eq_succ _ht _hy19 _hy23 _h25)⟩, Sub.cons rfl (Sub.cons rfl (Sub.cons rfl (Sub.nil _))), (by first | omega | (dsimp only; omega))⟩)
    · have _kb_11 := _h14
      have _h14 := bf_d _h14
      refine W_exit (thn_exit (thn_exit (inB_hit ?_)))
      refine thn_nrm (_hK_6 _ _ ?_)
      clear _hK_6
      refine W_seq fun _K_19 _hK_19 => ?_
      refine W_region ?_
      refine WL_step rfl rfl (r_assign rfl) ?_
      refine WL_nil ?_
      refine thn_nrm (_hK_19 _ _ ?_)
      clear _hK_19
      refine W_ret ?_
      clear _hK_9
      exact ret_intro [_] ⟨rfl, trivial⟩ ⟨congrArg Value.bool (decide_eq_true (eq_of_take _ht (by omega) (by omega))).symm, E⟩

/-- laws.eqIntS -/
theorem c_laws_eqIntS {w : World} {LL_a _B_a : Nat} {_v_a : Value} {a : List Int} (_h_a : Ls ics 1 w LL_a _B_a _v_a a) {LL_b _B_b : Nat} {_v_b : Value} {b : List Int} (_h_b : Ls ics 1 w LL_b _B_b _v_b b) :
    Ctr Try.prog 18 #[_v_a, _v_b] w (fun v w' => v = .bool (decide (a = b)) ∧ Ch [] w w') := by
  obtain ⟨_A_a, _C_a, _e1_a⟩ := _h_a.val
  subst _e1_a
  have _l_a := _h_a.len
  have _h_a := _h_a.here (by decide)
  obtain ⟨_A_b, _C_b, _e1_b⟩ := _h_b.val
  subst _e1_b
  have _l_b := _h_b.len
  have _h_b := _h_b.here (by decide)
  have E := Ch.refl [] w
  refine Ctr_of_W (N := 26) (vs0 := [(.slice _A_a a.length _C_a), (.slice _A_b b.length _C_b)]) Try.func18 rfl rfl rfl ?_
  refine W_seq fun _K_1 _hK_1 => ?_
  refine W_region ?_
  refine WL_step rfl rfl (r_assign rfl) ?_
  refine WL_nil ?_
  refine thn_nrm (_hK_1 _ _ ?_)
  clear _hK_1
  refine W_seq fun _K_2 _hK_2 => ?_
  refine W_seq fun _K_3 _hK_3 => ?_
  refine W_region ?_
  refine WL_step rfl rfl (r_move rfl) ?_
  refine WL_step rfl rfl (r_len (by rw [el31]; rfl) rfl) ?_
  refine WL_step rfl rfl (r_move rfl) ?_
  refine WL_step rfl rfl (r_len (by rw [el31]; rfl) rfl) ?_
  refine WL_step rfl rfl (r_neq rfl rfl) ?_
  refine WL_nil ?_
  refine thn_nrm (_hK_3 _ _ ?_)
  clear _hK_3
  refine W_cond rfl (fun _h10 => ?_) (fun _h10 => ?_)
  · have _kb_4 := _h10
    have _h10 := bf_d (bt_n _h10)
    refine W_seq fun _K_5 _hK_5 => ?_
    refine W_region ?_
    refine WL_step rfl rfl (r_assign rfl) ?_
    refine WL_nil ?_
    refine thn_nrm (_hK_5 _ _ ?_)
    clear _hK_5
    refine W_ret (thn_ret ?_)
    clear _hK_2
    exact ret_intro [_] ⟨rfl, trivial⟩ ⟨congrArg Value.bool (decide_eq_false (fun e => _h10 (by rw [e]))).symm, E⟩
  · have _kb_4 := _h10
    have _h10 := bt_d (bf_n _h10)
    refine W_skip ?_
    refine thn_nrm (_hK_2 _ _ ?_)
    clear _hK_2
    refine W_seq fun _K_6 _hK_6 => ?_
    refine W_seq fun _K_7 _hK_7 => ?_
    refine W_region ?_
    refine WL_step rfl rfl (r_assign rfl) ?_
    refine WL_nil ?_
    refine thn_nrm (_hK_7 _ _ ?_)
    clear _hK_7
    refine W_block ?_
    refine W_loop (σ := Nat) (fun (k : Nat) => [(0, (.slice _A_a a.length _C_a)), (1, (.slice _A_b b.length _C_b)), (5, (.int .i64 ((k : Nat) : Int)))]) (fun (k : Nat) wx => Ch [] w wx ∧ w.heap.size ≤ wx.heap.size ∧ (k ≤ a.length) ∧ (a.take k = b.take k)) (fun (k : Nat) => a.length - k) 0 (Sub.cons rfl (Sub.cons rfl (Sub.cons rfl (Sub.nil _)))) ⟨E, (Nat.le_refl _), (by omega), rfl⟩ ?_
    rintro k _wr_8 ⟨E, _zz0, _hk, _ht⟩
    have _E0h := E
    have _E0hz := _E0h.size
    refine W_seq fun _K_9 _hK_9 => ?_
    refine W_seq fun _K_10 _hK_10 => ?_
    refine W_region ?_
    refine WL_step rfl rfl (r_move rfl) ?_
    refine WL_step rfl rfl (r_move rfl) ?_
    refine WL_step rfl rfl (r_len (by rw [el31]; rfl) rfl) ?_
    refine WL_step rfl rfl (r_lss rfl rfl) ?_
    refine WL_nil ?_
    refine thn_nrm (_hK_10 _ _ ?_)
    clear _hK_10
    refine W_cond rfl (fun _h14 => ?_) (fun _h14 => ?_)
    · have _kb_11 := _h14
      have _h14 := bt_d _h14
      refine W_skip ?_
      refine thn_nrm (_hK_9 _ _ ?_)
      clear _hK_9
      refine W_seq fun _K_12 _hK_12 => ?_
      refine W_block ?_
      refine W_seq fun _K_13 _hK_13 => ?_
      refine W_drawC [] 9 mixed rfl fun _w_14 _cw_14 => ?_
      have _cw_14z := _cw_14.size
      have E := E.trans _cw_14
      refine DR_s 0 rfl (by kernel_rfl) rfl rfl (t_v (fun _ => (r_move rfl)) ?_)
      refine DR_s 1 rfl (by kernel_rfl) rfl rfl (t_v (fun _ => (r_move rfl)) ?_)
      have _f_15 := ((_h_a.ch0 _E0h).ch0 _cw_14)
      refine DR_s 2 rfl (by kernel_rfl) rfl rfl (t_index _f_15 ics_len el31 sz3 rfl rfl rfl (by omega) fun _p19 _y19 _hy19 _a19 => ?_)
      refine DR_s 3 rfl (by kernel_rfl) rfl rfl (t_loadAt0 _a19 (fun i hi => absurd hi List.not_mem_nil) agg3 rfl rfl ?_)
      refine DR_s 4 rfl (by kernel_rfl) rfl rfl (t_v (fun _ => (r_move rfl)) ?_)
      refine DR_s 5 rfl (by kernel_rfl) rfl rfl (t_v (fun _ => (r_move rfl)) ?_)
      have _f_16 := ((_h_b.ch0 _E0h).ch0 _cw_14)
      refine DR_s 6 rfl (by kernel_rfl) rfl rfl (t_index _f_16 ics_len el31 sz3 rfl rfl rfl (by omega) fun _p23 _y23 _hy23 _a23 => ?_)
      refine DR_s 7 rfl (by kernel_rfl) rfl rfl (t_loadAt0 _a23 (fun i hi => absurd hi List.not_mem_nil) agg3 rfl rfl ?_)
      refine DR_s 8 rfl (by kernel_rfl) rfl rfl (t_v (fun _ => (r_neq rfl rfl)) ?_)
      refine DR_done (by kernel_rfl) ?_
      refine thn_nrm (_hK_13 _ _ ?_)
      clear _hK_13
      refine W_cond rfl (fun _h25 => ?_) (fun _h25 => ?_)
      · have _kb_17 := _h25
        have _h25 := bf_d (bt_n _h25)
        refine W_seq fun _K_18 _hK_18 => ?_
        refine W_region ?_
        refine WL_step rfl rfl (r_assign rfl) ?_
        refine WL_nil ?_
        refine thn_nrm (_hK_18 _ _ ?_)
        clear _hK_18
        refine W_ret (inB_ret (thn_ret (thn_ret (inB_ret (thn_ret ?_)))))
        clear _hK_6 _hK_12
        exact ret_intro [_] ⟨rfl, trivial⟩ ⟨congrArg Value.bool (decide_eq_false (ne_of_get _hy19 _hy23 _h25)).symm, E⟩
      · have _kb_17 := _h25
        have _h25 := bt_d (bf_n _h25)
        refine W_skip ?_
        refine inB_nrm ?_
        refine thn_nrm (_hK_12 _ _ ?_)
        clear _hK_12
        refine W_region ?_
        refine WL_step rfl rfl (r_move rfl) ?_
        refine WL_step rfl rfl (r_add (by omega) rfl rfl) ?_
        refine WL_step rfl rfl (r_assign rfl) ?_
        refine WL_nil ?_
        exact thn_nrm (Exists.intro (k + 1) ⟨⟨E, (by omega), (by omega), (take_eq_succ _ht _hy19 _hy23 _h25)⟩, Sub.cons rfl (Sub.cons rfl (Sub.cons rfl (Sub.nil _))), (by first | omega | (dsimp only; omega))⟩)
    · have _kb_11 := _h14
      have _h14 := bf_d _h14
      refine W_exit (thn_exit (thn_exit (inB_hit ?_)))
      refine thn_nrm (_hK_6 _ _ ?_)
      clear _hK_6
      refine W_seq fun _K_19 _hK_19 => ?_
      refine W_region ?_
      refine WL_step rfl rfl (r_assign rfl) ?_
      refine WL_nil ?_
      refine thn_nrm (_hK_19 _ _ ?_)
      clear _hK_19
      refine W_ret ?_
      clear _hK_9
      exact ret_intro [_] ⟨rfl, trivial⟩ ⟨congrArg Value.bool (decide_eq_true (eq_of_take _ht (by omega) (by omega))).symm, E⟩

/-- laws.eqIntSS -/
theorem c_laws_eqIntSS {w : World} {LL_sa _B_sa : Nat} {_v_sa : Value} {sa : List Sv} (_h_sa : Ls Sv.cs 1 w LL_sa _B_sa _v_sa sa) {LR_a BB_a : Nat} {a : List (List Int)} (_rd_a : Rd ics 1 w LR_a BB_a sa a) {LL_sb _B_sb : Nat} {_v_sb : Value} {sb : List Sv} (_h_sb : Ls Sv.cs 1 w LL_sb _B_sb _v_sb sb) {LR_b BB_b : Nat} {b : List (List Int)} (_rd_b : Rd ics 1 w LR_b BB_b sb b) :
    Ctr Try.prog 35 #[_v_sa, _v_sb] w (fun v w' => v = .bool (decide (a = b)) ∧ Ch [] w w') := by
  obtain ⟨_A_sa, _C_sa, _e1_sa⟩ := _h_sa.val
  subst _e1_sa
  have _l_sa := _h_sa.len
  have _h_sa := _h_sa.here (by decide)
  have _rd_a := _rd_a.here (by decide)
  have _rl_a := _rd_a.1
  obtain ⟨_A_sb, _C_sb, _e1_sb⟩ := _h_sb.val
  subst _e1_sb
  have _l_sb := _h_sb.len
  have _h_sb := _h_sb.here (by decide)
  have _rd_b := _rd_b.here (by decide)
  have _rl_b := _rd_b.1
  have E := Ch.refl [] w
  refine Ctr_of_W (N := 27) (vs0 := [(.slice _A_sa sa.length _C_sa), (.slice _A_sb sb.length _C_sb)]) Try.func35 rfl rfl rfl ?_
  refine W_seq fun _K_1 _hK_1 => ?_
  refine W_region ?_
  refine WL_step rfl rfl (r_assign rfl) ?_
  refine WL_nil ?_
  refine thn_nrm (_hK_1 _ _ ?_)
  clear _hK_1
  refine W_seq fun _K_2 _hK_2 => ?_
  refine W_seq fun _K_3 _hK_3 => ?_
  refine W_region ?_
  refine WL_step rfl rfl (r_move rfl) ?_
  refine WL_step rfl rfl (r_len (by rw [el23]; rfl) rfl) ?_
  refine WL_step rfl rfl (r_move rfl) ?_
  refine WL_step rfl rfl (r_len (by rw [el23]; rfl) rfl) ?_
  refine WL_step rfl rfl (r_neq rfl rfl) ?_
  refine WL_nil ?_
  refine thn_nrm (_hK_3 _ _ ?_)
  clear _hK_3
  refine W_cond rfl (fun _h10 => ?_) (fun _h10 => ?_)
  · have _kb_4 := _h10
    have _h10 := bf_d (bt_n _h10)
    refine W_seq fun _K_5 _hK_5 => ?_
    refine W_region ?_
    refine WL_step rfl rfl (r_assign rfl) ?_
    refine WL_nil ?_
    refine thn_nrm (_hK_5 _ _ ?_)
    clear _hK_5
    refine W_ret (thn_ret ?_)
    clear _hK_2
    exact ret_intro [_] ⟨rfl, trivial⟩ ⟨congrArg Value.bool (decide_eq_false (fun e => _h10 (by rw [_rl_a, _rl_b, e]))).symm, E⟩
  · have _kb_4 := _h10
    have _h10 := bt_d (bf_n _h10)
    refine W_skip ?_
    refine thn_nrm (_hK_2 _ _ ?_)
    clear _hK_2
    refine W_seq fun _K_6 _hK_6 => ?_
    refine W_seq fun _K_7 _hK_7 => ?_
    refine W_region ?_
    refine WL_step rfl rfl (r_assign rfl) ?_
    refine WL_nil ?_
    refine thn_nrm (_hK_7 _ _ ?_)
    clear _hK_7
    refine W_block ?_
    refine W_loop (σ := Nat) (fun (k : Nat) => [(0, (.slice _A_sa sa.length _C_sa)), (1, (.slice _A_sb sb.length _C_sb)), (5, (.int .i64 ((k : Nat) : Int)))]) (fun (k : Nat) wx => Ch [] w wx ∧ w.heap.size ≤ wx.heap.size ∧ (k ≤ a.length) ∧ (a.take k = b.take k)) (fun (k : Nat) => a.length - k) 0 (Sub.cons rfl (Sub.cons rfl (Sub.cons rfl (Sub.nil _)))) ⟨E, (Nat.le_refl _), (by omega), rfl⟩ ?_
    rintro k _wr_8 ⟨E, _zz0, _hk, _ht⟩
    have _E0h := E
    have _E0hz := _E0h.size
    refine W_seq fun _K_9 _hK_9 => ?_
    refine W_seq fun _K_10 _hK_10 => ?_
    refine W_region ?_
    refine WL_step rfl rfl (r_move rfl) ?_
    refine WL_step rfl rfl (r_move rfl) ?_
    refine WL_step rfl rfl (r_len (by rw [el23]; rfl) rfl) ?_
    refine WL_step rfl rfl (r_lss rfl rfl) ?_
    refine WL_nil ?_
    refine thn_nrm (_hK_10 _ _ ?_)
    clear _hK_10
    refine W_cond rfl (fun _h14 => ?_) (fun _h14 => ?_)
    · have _kb_11 := _h14
      have _h14 := bt_d _h14
      refine W_skip ?_
      refine thn_nrm (_hK_9 _ _ ?_)
      clear _hK_9
      refine W_seq fun _K_12 _hK_12 => ?_
      refine W_block ?_
      refine W_seq fun _K_13 _hK_13 => ?_
      refine W_drawC [] 10 mixed rfl fun _w_14 _cw_14 => ?_
      have _cw_14z := _cw_14.size
      have E := E.trans _cw_14
      refine DR_s 0 rfl (by kernel_rfl) rfl rfl (t_v (fun _ => (r_move rfl)) ?_)
      refine DR_s 1 rfl (by kernel_rfl) rfl rfl (t_v (fun _ => (r_move rfl)) ?_)
      have _f_15 := ((_h_sa.ch0 _E0h).ch0 _cw_14)
      have _f_16 := ((_rd_a.ch0 _E0h).ch0 _cw_14)
      refine DR_s 2 rfl (by kernel_rfl) rfl rfl (t_index _f_15 Sv.len el23 sz31 rfl rfl rfl (by omega) fun _p19 _y19 _hy19 _a19 => ?_)
      obtain ⟨_ys19, _hys19, _fs19⟩ := _f_16.get _hy19
      obtain ⟨_A19, _n19, _C19⟩ := _y19
      obtain rfl := _fs19.eqn
      have _l19 := _fs19.len
      replace _fs19 : Ls ics 1 _w_14 LR_a w.heap.size (.slice _A19 _ys19.length _C19) _ys19 := _fs19
      replace _a19 : At _w_14 LL_sa w.heap.size _p19 ([(.slice _A19 _ys19.length _C19)]) := _a19
      refine DR_s 3 rfl (by kernel_rfl) rfl rfl (t_loadAt0 _a19 (fun i hi => absurd hi List.not_mem_nil) agg31 rfl rfl ?_)
      refine DR_s 4 rfl (by kernel_rfl) rfl rfl (t_v (fun _ => (r_move rfl)) ?_)
      refine DR_s 5 rfl (by kernel_rfl) rfl rfl (t_v (fun _ => (r_move rfl)) ?_)
      have _f_17 := ((_h_sb.ch0 _E0h).ch0 _cw_14)
      have _f_18 := ((_rd_b.ch0 _E0h).ch0 _cw_14)
      refine DR_s 6 rfl (by kernel_rfl) rfl rfl (t_index _f_17 Sv.len el23 sz31 rfl rfl rfl (by omega) fun _p23 _y23 _hy23 _a23 => ?_)
      obtain ⟨_ys23, _hys23, _fs23⟩ := _f_18.get _hy23
      obtain ⟨_A23, _n23, _C23⟩ := _y23
      obtain rfl := _fs23.eqn
      have _l23 := _fs23.len
      replace _fs23 : Ls ics 1 _w_14 LR_b w.heap.size (.slice _A23 _ys23.length _C23) _ys23 := _fs23
      replace _a23 : At _w_14 LL_sb w.heap.size _p23 ([(.slice _A23 _ys23.length _C23)]) := _a23
      refine DR_s 7 rfl (by kernel_rfl) rfl rfl (t_loadAt0 _a23 (fun i hi => absurd hi List.not_mem_nil) agg31 rfl rfl ?_)
      refine DR_one 8 (by kernel_rfl) ?_
      refine DO_s rfl rfl rfl ?_
      refine Step.call (r_call (xs := [.tmp 20, .tmp 24]) fk18 rfl) (c_laws_eqIntS _fs19 _fs23 ) fun _v25 _w_19 _q25 => ?_
      obtain ⟨rfl, _cw_19⟩ := _q25
      have _cw_19z := _cw_19.size
      have E := E.trans _cw_19
      have _S_20 : Ch [] _w_14 _w_19 := ((Ch.refl _ _).trans _cw_19)
      refine ⟨_S_20, ?_⟩
      refine DR_s 9 rfl (by kernel_rfl) rfl rfl (t_v (fun _ => (r_not rfl)) ?_)
      refine DR_done (by kernel_rfl) ?_
      refine thn_nrm (_hK_13 _ _ ?_)
      clear _hK_13
      refine W_cond rfl (fun _h26 => ?_) (fun _h26 => ?_)
      · have _kb_21 := _h26
        have _h26 := bf_d (bt_n _h26)
        refine W_seq fun _K_22 _hK_22 => ?_
        refine W_region ?_
        refine WL_step rfl rfl (r_assign rfl) ?_
        refine WL_nil ?_
        refine thn_nrm (_hK_22 _ _ ?_)
        clear _hK_22
        refine W_ret (inB_ret (thn_ret (thn_ret (inB_ret (thn_ret ?_)))))
        clear _hK_6 _hK_12
        exact ret_intro [_] ⟨rfl, trivial⟩ ⟨congrArg Value.bool (decide_eq_false (ne_of_get _hys19 _hys23 _h26)).symm, E⟩
      · have _kb_21 := _h26
        have _h26 := bt_d (bf_n _h26)
        refine W_skip ?_
        refine inB_nrm ?_
        refine thn_nrm (_hK_12 _ _ ?_)
        clear _hK_12
        refine W_region ?_
        refine WL_step rfl rfl (r_move rfl) ?_
        refine WL_step rfl rfl (r_add (by omega) rfl rfl) ?_
        refine WL_step rfl rfl (r_assign rfl) ?_
        refine WL_nil ?_
        exact thn_nrm (Exists.intro (k + 1) ⟨⟨E, (by omega), (by omega), (take_eq_succ _ht _hys19 _hys23 _h26)⟩, Sub.cons rfl (Sub.cons rfl (Sub.cons rfl (Sub.nil _))), (by first | omega | (dsimp only; omega))⟩)
    · have _kb_11 := _h14
      have _h14 := bf_d _h14
      refine W_exit (thn_exit (thn_exit (inB_hit ?_)))
      refine thn_nrm (_hK_6 _ _ ?_)
      clear _hK_6
      refine W_seq fun _K_23 _hK_23 => ?_
      refine W_region ?_
      refine WL_step rfl rfl (r_assign rfl) ?_
      refine WL_nil ?_
      refine thn_nrm (_hK_23 _ _ ?_)
      clear _hK_23
      refine W_ret ?_
      clear _hK_9
      exact ret_intro [_] ⟨rfl, trivial⟩ ⟨congrArg Value.bool (decide_eq_true (eq_of_take _ht (by omega) (by omega))).symm, E⟩

/-- laws.eqAutomaton -/
theorem c_laws_eqAutomaton {w : World} (aS : Int) {LL_aA _B_aA : Nat} {_v_aA : Value} {aA : List Bool} (_h_aA : Ls bcs 1 w LL_aA _B_aA _v_aA aA) {LL_saN _B_saN : Nat} {_v_saN : Value} {saN : List Sv} (_h_saN : Ls Sv.cs 1 w LL_saN _B_saN _v_saN saN) {LR_aN BB_aN : Nat} {aN : List (List Int)} (_rd_aN : Rd ics 1 w LR_aN BB_aN saN aN) (bS : Int) {LL_bA _B_bA : Nat} {_v_bA : Value} {bA : List Bool} (_h_bA : Ls bcs 1 w LL_bA _B_bA _v_bA bA) {LL_sbN _B_sbN : Nat} {_v_sbN : Value} {sbN : List Sv} (_h_sbN : Ls Sv.cs 1 w LL_sbN _B_sbN _v_sbN sbN) {LR_bN BB_bN : Nat} {bN : List (List Int)} (_rd_bN : Rd ics 1 w LR_bN BB_bN sbN bN) :
    Ctr Try.prog 13 #[(.agg #[(.int .i64 aS), _v_aA, _v_saN]), (.agg #[(.int .i64 bS), _v_bA, _v_sbN])] w (fun v w' => v = .bool (decide (aS = bS ∧ aA = bA ∧ aN = bN)) ∧ Ch [] w w') := by
  obtain ⟨_A_aA, _C_aA, _e1_aA⟩ := _h_aA.val
  subst _e1_aA
  have _l_aA := _h_aA.len
  have _h_aA := _h_aA.here (by decide)
  obtain ⟨_A_saN, _C_saN, _e1_saN⟩ := _h_saN.val
  subst _e1_saN
  have _l_saN := _h_saN.len
  have _h_saN := _h_saN.here (by decide)
  have _rd_aN := _rd_aN.here (by decide)
  have _rl_aN := _rd_aN.1
  obtain ⟨_A_bA, _C_bA, _e1_bA⟩ := _h_bA.val
  subst _e1_bA
  have _l_bA := _h_bA.len
  have _h_bA := _h_bA.here (by decide)
  obtain ⟨_A_sbN, _C_sbN, _e1_sbN⟩ := _h_sbN.val
  subst _e1_sbN
  have _l_sbN := _h_sbN.len
  have _h_sbN := _h_sbN.here (by decide)
  have _rd_bN := _rd_bN.here (by decide)
  have _rl_bN := _rd_bN.1
  have E := Ch.refl [] w
  refine Ctr_of_W (N := 22) (vs0 := [(.agg #[(.int .i64 aS), (.slice _A_aA aA.length _C_aA), (.slice _A_saN saN.length _C_saN)]), (.agg #[(.int .i64 bS), (.slice _A_bA bA.length _C_bA), (.slice _A_sbN sbN.length _C_sbN)])]) Try.func13 rfl rfl rfl ?_
  refine W_seq fun _K_1 _hK_1 => ?_
  refine W_region ?_
  refine WL_s rfl rfl ?_
  refine s_box rfl fun _b2 _w_2 _m2 _cw_2 _e2 => ?_
  have _cw_2z := _cw_2.size
  have E := E.trans _cw_2
  have _z2 := _m2.lt
  replace _m2 : Blk _w_2 _b2 28 [(.int .i64 aS), (.slice _A_aA aA.length _C_aA), (.slice _A_saN saN.length _C_saN)] := _m2
  refine WL_s rfl rfl ?_
  refine s_box rfl fun _b3 _w_3 _m3 _cw_3 _e3 => ?_
  have _cw_3z := _cw_3.size
  have E := E.trans _cw_3
  have _z3 := _m3.lt
  replace _m3 : Blk _w_3 _b3 28 [(.int .i64 bS), (.slice _A_bA bA.length _C_bA), (.slice _A_sbN sbN.length _C_sbN)] := _m3
  refine WL_step rfl rfl (r_assign rfl) ?_
  refine WL_nil ?_
  refine thn_nrm (_hK_1 _ _ ?_)
  clear _hK_1
  refine W_seq fun _K_4 _hK_4 => ?_
  refine W_seq fun _K_5 _hK_5 => ?_
  refine W_region ?_
  refine WL_step rfl rfl (r_fieldAddr fa28_0 rfl) ?_
  have _f_6 := (_m2.ch0 _cw_3)
  refine WL_step rfl rfl (r_loadAt _f_6.at_ agg3 rfl rfl) ?_
  refine WL_step rfl rfl (r_fieldAddr fa28_0 rfl) ?_
  refine WL_step rfl rfl (r_loadAt _m3.at_ agg3 rfl rfl) ?_
  refine WL_step rfl rfl (r_neq rfl rfl) ?_
  refine WL_nil ?_
  refine thn_nrm (_hK_5 _ _ ?_)
  clear _hK_5
  refine W_cond rfl (fun _h9 => ?_) (fun _h9 => ?_)
  · have _kb_7 := _h9
    have _h9 := bf_d (bt_n _h9)
    refine W_seq fun _K_8 _hK_8 => ?_
    refine W_region ?_
    refine WL_step rfl rfl (r_assign rfl) ?_
    refine WL_nil ?_
    refine thn_nrm (_hK_8 _ _ ?_)
    clear _hK_8
    refine W_ret (thn_ret ?_)
    clear _hK_4
    exact ret_intro [_] ⟨rfl, trivial⟩ ⟨congrArg Value.bool (by simp_all), E⟩
  · have _kb_7 := _h9
    have _h9 := bt_d (bf_n _h9)
    refine W_skip ?_
    refine thn_nrm (_hK_4 _ _ ?_)
    clear _hK_4
    refine W_seq fun _K_9 _hK_9 => ?_
    refine W_seq fun _K_10 _hK_10 => ?_
    refine W_region ?_
    refine WL_step rfl rfl (r_fieldAddr fa28_1 rfl) ?_
    refine WL_step rfl rfl (r_loadAt _f_6.at_ agg22 rfl rfl) ?_
    refine WL_step rfl rfl (r_fieldAddr fa28_1 rfl) ?_
    refine WL_step rfl rfl (r_loadAt _m3.at_ agg22 rfl rfl) ?_
    refine WL_s rfl rfl ?_
    have _f_11 := ((_h_aA.ch0 _cw_2).ch0 _cw_3)
    have _f_12 := ((_h_bA.ch0 _cw_2).ch0 _cw_3)
    refine Step.call (r_call (xs := [.tmp 11, .tmp 13]) fk34 rfl) (c_laws_eqBoolS _f_11 _f_12 ) fun _v14 _w_13 _q14 => ?_
    obtain ⟨rfl, _cw_13⟩ := _q14
    have _cw_13z := _cw_13.size
    have E := E.trans _cw_13
    refine WL_step rfl rfl (r_not rfl) ?_
    refine WL_nil ?_
    refine thn_nrm (_hK_10 _ _ ?_)
    clear _hK_10
    refine W_cond rfl (fun _h15 => ?_) (fun _h15 => ?_)
    · have _kb_14 := _h15
      have _h15 := bf_d (bt_n _h15)
      refine W_seq fun _K_15 _hK_15 => ?_
      refine W_region ?_
      refine WL_step rfl rfl (r_assign rfl) ?_
      refine WL_nil ?_
      refine thn_nrm (_hK_15 _ _ ?_)
      clear _hK_15
      refine W_ret (thn_ret ?_)
      clear _hK_9
      exact ret_intro [_] ⟨rfl, trivial⟩ ⟨congrArg Value.bool (by simp_all), E⟩
    · have _kb_14 := _h15
      have _h15 := bt_d (bf_n _h15)
      refine W_skip ?_
      refine thn_nrm (_hK_9 _ _ ?_)
      clear _hK_9
      refine W_seq fun _K_16 _hK_16 => ?_
      refine W_seq fun _K_17 _hK_17 => ?_
      refine W_region ?_
      refine WL_step rfl rfl (r_fieldAddr fa28_2 rfl) ?_
      have _f_18 := (_f_6.ch0 _cw_13)
      refine WL_step rfl rfl (r_loadAt _f_18.at_ agg23 rfl rfl) ?_
      refine WL_step rfl rfl (r_fieldAddr fa28_2 rfl) ?_
      have _f_19 := (_m3.ch0 _cw_13)
      refine WL_step rfl rfl (r_loadAt _f_19.at_ agg23 rfl rfl) ?_
      refine WL_s rfl rfl ?_
      have _f_20 := (((_rd_aN.ch0 _cw_2).ch0 _cw_3).ch0 _cw_13)
      have _f_21 := (((_h_saN.ch0 _cw_2).ch0 _cw_3).ch0 _cw_13)
      have _f_22 := (((_rd_bN.ch0 _cw_2).ch0 _cw_3).ch0 _cw_13)
      have _f_23 := (((_h_sbN.ch0 _cw_2).ch0 _cw_3).ch0 _cw_13)
      refine Step.call (r_call (xs := [.tmp 17, .tmp 19]) fk35 rfl) (c_laws_eqIntSS _f_21 _f_20 _f_23 _f_22 ) fun _v20 _w_24 _q20 => ?_
      obtain ⟨rfl, _cw_24⟩ := _q20
      have _cw_24z := _cw_24.size
      have E := E.trans _cw_24
      refine WL_step rfl rfl (r_not rfl) ?_
      refine WL_nil ?_
      refine thn_nrm (_hK_17 _ _ ?_)
      clear _hK_17
      refine W_cond rfl (fun _h21 => ?_) (fun _h21 => ?_)
      · have _kb_25 := _h21
        have _h21 := bf_d (bt_n _h21)
        refine W_seq fun _K_26 _hK_26 => ?_
        refine W_region ?_
        refine WL_step rfl rfl (r_assign rfl) ?_
        refine WL_nil ?_
        refine thn_nrm (_hK_26 _ _ ?_)
        clear _hK_26
        refine W_ret (thn_ret ?_)
        clear _hK_16
        exact ret_intro [_] ⟨rfl, trivial⟩ ⟨congrArg Value.bool (by simp_all), E⟩
      · have _kb_25 := _h21
        have _h21 := bt_d (bf_n _h21)
        refine W_skip ?_
        refine thn_nrm (_hK_16 _ _ ?_)
        clear _hK_16
        refine W_seq fun _K_27 _hK_27 => ?_
        refine W_region ?_
        refine WL_step rfl rfl (r_assign rfl) ?_
        refine WL_nil ?_
        refine thn_nrm (_hK_27 _ _ ?_)
        clear _hK_27
        refine W_ret ?_
        exact ret_intro [_] ⟨rfl, trivial⟩ ⟨congrArg Value.bool (by simp_all), E⟩

/-- laws.heldIntS -/
theorem c_laws_heldIntS {w : World} {LL_a _B_a : Nat} {_v_a : Value} {a : List Int} (_h_a : Ls ics 1 w LL_a _B_a _v_a a) (k : Int) (_hk0 : 0 ≤ k) (hkk : k + a.length ≤ 4611686018427387904) :
    Ctr Try.prog 21 #[_v_a, (.int .i64 k)] w (fun v w' => v = .int .i64 (if a = mkInt k a.length then k + a.length else -1) ∧ Ch [] w w') := by
  obtain ⟨_A_a, _C_a, _e1_a⟩ := _h_a.val
  subst _e1_a
  have _l_a := _h_a.len
  have _h_a := _h_a.here (by decide)
  have E := Ch.refl [] w
  refine Ctr_of_W (N := 21) (vs0 := [(.slice _A_a a.length _C_a), (.int .i64 k)]) Try.func21 rfl rfl rfl ?_
  refine W_seq fun _K_1 _hK_1 => ?_
  refine W_region ?_
  refine WL_step rfl rfl (r_assign rfl) ?_
  refine WL_nil ?_
  refine thn_nrm (_hK_1 _ _ ?_)
  clear _hK_1
  refine W_seq fun _K_2 _hK_2 => ?_
  refine W_seq fun _K_3 _hK_3 => ?_
  refine W_region ?_
  refine WL_step rfl rfl (r_assign rfl) ?_
  refine WL_nil ?_
  refine thn_nrm (_hK_3 _ _ ?_)
  clear _hK_3
  refine W_block ?_
  refine W_loop (σ := Nat × Int) (fun ⟨i, kk⟩ => [(0, (.slice _A_a a.length _C_a)), (1, (.int .i64 kk)), (5, (.int .i64 ((i : Nat) : Int)))]) (fun ⟨i, kk⟩ wx => Ch [] w wx ∧ w.heap.size ≤ wx.heap.size ∧ (i ≤ a.length) ∧ (kk = k + i) ∧ (a.take i = mkInt k i)) (fun ⟨i, kk⟩ => a.length - i) (0, k) (Sub.cons rfl (Sub.cons rfl (Sub.cons rfl (Sub.nil _)))) ⟨E, (Nat.le_refl _), (by omega), (by omega), rfl⟩ ?_
  rintro ⟨i, kk⟩ _wr_4 ⟨E, _zz0, hi, hq, _ht⟩
  have _E0h := E
  have _E0hz := _E0h.size
  refine W_seq fun _K_5 _hK_5 => ?_
  refine W_seq fun _K_6 _hK_6 => ?_
  refine W_region ?_
  refine WL_step rfl rfl (r_move rfl) ?_
  refine WL_step rfl rfl (r_move rfl) ?_
  refine WL_step rfl rfl (r_len (by rw [el31]; rfl) rfl) ?_
  refine WL_step rfl rfl (r_lss rfl rfl) ?_
  refine WL_nil ?_
  refine thn_nrm (_hK_6 _ _ ?_)
  clear _hK_6
  refine W_cond rfl (fun _h9 => ?_) (fun _h9 => ?_)
  · have _kb_7 := _h9
    have _h9 := bt_d _h9
    refine W_skip ?_
    refine thn_nrm (_hK_5 _ _ ?_)
    clear _hK_5
    refine W_seq fun _K_8 _hK_8 => ?_
    refine W_block ?_
    refine W_seq fun _K_9 _hK_9 => ?_
    refine W_seq fun _K_10 _hK_10 => ?_
    refine W_region ?_
    refine WL_step rfl rfl (r_move rfl) ?_
    refine WL_step rfl rfl (r_move rfl) ?_
    refine WL_s rfl rfl ?_
    have _f_11 := (_h_a.ch0 _E0h)
    refine (s_index _f_11 ics_len el31 sz3 rfl rfl rfl (by omega) fun _p14 _y14 _hy14 _a14 => ?_)
    refine WL_step rfl rfl (r_loadAt0 _a14 agg3 rfl rfl) ?_
    refine WL_step rfl rfl (r_move rfl) ?_
    refine WL_step rfl rfl (r_neq rfl rfl) ?_
    refine WL_nil ?_
    refine thn_nrm (_hK_10 _ _ ?_)
    clear _hK_10
    refine W_cond rfl (fun _h17 => ?_) (fun _h17 => ?_)
    · have _kb_12 := _h17
      have _h17 := bf_d (bt_n _h17)
      refine W_seq fun _K_13 _hK_13 => ?_
      refine W_region ?_
      refine WL_step rfl rfl (r_assign rfl) ?_
      refine WL_nil ?_
      refine thn_nrm (_hK_13 _ _ ?_)
      clear _hK_13
      refine W_ret (thn_ret (inB_ret (thn_ret (thn_ret (inB_ret (thn_ret ?_))))))
      clear _hK_2 _hK_8 _hK_9
      exact ret_intro [_] ⟨rfl, trivial⟩ ⟨congrArg (Value.int .i64) (if_neg (fun e => _h17 (by have _e2 := (heldInt_get e _hy14); omega))).symm, E⟩
    · have _kb_12 := _h17
      have _h17 := bt_d (bf_n _h17)
      refine W_skip ?_
      refine thn_nrm (_hK_9 _ _ ?_)
      clear _hK_9
      refine W_region ?_
      refine WL_step rfl rfl (r_move rfl) ?_
      refine WL_step rfl rfl (r_add (by omega) rfl rfl) ?_
      refine WL_step rfl rfl (r_assign rfl) ?_
      refine WL_nil ?_
      refine inB_nrm ?_
      refine thn_nrm (_hK_8 _ _ ?_)
      clear _hK_8
      refine W_region ?_
      refine WL_step rfl rfl (r_move rfl) ?_
      refine WL_step rfl rfl (r_add (by omega) rfl rfl) ?_
      refine WL_step rfl rfl (r_assign rfl) ?_
      refine WL_nil ?_
      exact thn_nrm (Exists.intro ((i + 1), (kk + 1)) ⟨⟨E, (by omega), (by omega), (by omega), (heldInt_step _ht hq _hy14 _h17)⟩, Sub.cons rfl (Sub.cons rfl (Sub.cons rfl (Sub.nil _))), (by first | omega | (dsimp only; omega))⟩)
  · have _kb_7 := _h9
    have _h9 := bf_d _h9
    refine W_exit (thn_exit (thn_exit (inB_hit ?_)))
    refine thn_nrm (_hK_2 _ _ ?_)
    clear _hK_2
    refine W_seq fun _K_14 _hK_14 => ?_
    refine W_region ?_
    refine WL_step rfl rfl (r_move rfl) ?_
    refine WL_step rfl rfl (r_assign rfl) ?_
    refine WL_nil ?_
    refine thn_nrm (_hK_14 _ _ ?_)
    clear _hK_14
    refine W_ret ?_
    clear _hK_5
    exact ret_intro [_] ⟨rfl, trivial⟩ ⟨congrArg (Value.int .i64) (by rw [if_pos (heldInt_all _ht (by omega) (by omega))]; omega), E⟩

/-- laws.markBoolS -/
theorem c_laws_markBoolS {w : World} {e_a : Nat} {_v_a : Value} {a : List Bool} (_h_a : Ol bcs e_a 1 w _v_a a) (k : Int) (_hk0 : 0 ≤ k) (hkk : k + a.length ≤ 4611686018427387904) :
    Ctr Try.prog 41 #[_v_a, (.int .i64 k)] w (fun v w' => v = .int .i64 (k + a.length) ∧ Ch (bl _v_a) w w') := by
  obtain ⟨_A_a, _C_a, _e1_a⟩ := _h_a.val
  subst _e1_a
  have _l_a := _h_a.len
  have _lt_a := _h_a.lt
  have E := Ch.refl (bl (.slice _A_a a.length _C_a)) w
  refine Ctr_of_W (N := 21) (vs0 := [(.slice _A_a a.length _C_a), (.int .i64 k)]) Try.func41 rfl rfl rfl ?_
  refine W_seq fun _K_1 _hK_1 => ?_
  refine W_region ?_
  refine WL_step rfl rfl (r_assign rfl) ?_
  refine WL_nil ?_
  refine thn_nrm (_hK_1 _ _ ?_)
  clear _hK_1
  refine W_seq fun _K_2 _hK_2 => ?_
  refine W_seq fun _K_3 _hK_3 => ?_
  refine W_region ?_
  refine WL_step rfl rfl (r_assign rfl) ?_
  refine WL_nil ?_
  refine thn_nrm (_hK_3 _ _ ?_)
  clear _hK_3
  refine W_block ?_
  have _oi_4 : Ol bcs e_a 1 w (.slice _A_a a.length _C_a) (a) := by
    have hx := _h_a
    exact hx
  refine W_loop (σ := Nat × Int × List Bool) (fun ⟨i, kk, zs⟩ => [(0, (.slice _A_a a.length _C_a)), (1, (.int .i64 kk)), (4, (.int .i64 0)), (5, (.int .i64 ((i : Nat) : Int)))]) (fun ⟨i, kk, zs⟩ wx => Ch (bl (.slice _A_a a.length _C_a)) w wx ∧ w.heap.size ≤ wx.heap.size ∧ (i ≤ a.length) ∧ (kk = k + i) ∧ (zs.length = a.length) ∧ Ol bcs e_a 1 wx (.slice _A_a a.length _C_a) zs) (fun ⟨i, kk, zs⟩ => a.length - i) (0, k, a) (Sub.cons rfl (Sub.cons rfl (Sub.cons rfl (Sub.cons rfl (Sub.nil _))))) ⟨E, (Nat.le_refl _), (by omega), (by omega), rfl, _oi_4⟩ ?_
  rintro ⟨i, kk, zs⟩ _wr_5 ⟨E, _zz0, hi, hq, hz, _o0_0⟩
  have _E0h := E
  have _E0hz := _E0h.size
  refine W_seq fun _K_6 _hK_6 => ?_
  refine W_seq fun _K_7 _hK_7 => ?_
  refine W_region ?_
  refine WL_step rfl rfl (r_move rfl) ?_
  refine WL_step rfl rfl (r_move rfl) ?_
  refine WL_step rfl rfl (r_len (by rw [el22]; rfl) rfl) ?_
  refine WL_step rfl rfl (r_lss rfl rfl) ?_
  refine WL_nil ?_
  refine thn_nrm (_hK_7 _ _ ?_)
  clear _hK_7
  refine W_cond rfl (fun _h9 => ?_) (fun _h9 => ?_)
  · have _kb_8 := _h9
    have _h9 := bt_d _h9
    refine W_skip ?_
    refine thn_nrm (_hK_6 _ _ ?_)
    clear _hK_6
    refine W_seq fun _K_9 _hK_9 => ?_
    refine W_block ?_
    refine W_seq fun _K_10 _hK_10 => ?_
    refine W_region ?_
    refine WL_step rfl rfl (r_move rfl) ?_
    refine WL_step rfl rfl (r_move rfl) ?_
    refine WL_step rfl rfl (r_move rfl) ?_
    refine WL_step rfl rfl (r_rem (by omega) rfl rfl) ?_
    refine WL_step rfl rfl (r_eql rfl rfl) ?_
    refine WL_s rfl rfl ?_
    refine s_indexO (j := i) _o0_0 el22 sz4 rfl rfl rfl (by omega) fun _g17 _o17 _cp17 _q17 => ?_
    refine WL_s rfl rfl ?_
    refine s_storeO (j := i) (decide ((kk.tmod 3) = 0)) _o0_0 _q17 bcs_len sz4 rfl rfl rfl rfl (by omega) fun _w_11 _o_12 _cw_11 => ?_
    have _cw_11z := _cw_11.size
    have E := E.trans _cw_11
    refine WL_nil ?_
    refine thn_nrm (_hK_10 _ _ ?_)
    clear _hK_10
    refine W_region ?_
    refine WL_step rfl rfl (r_move rfl) ?_
    refine WL_step rfl rfl (r_add (by omega) rfl rfl) ?_
    refine WL_step rfl rfl (r_assign rfl) ?_
    refine WL_nil ?_
    refine inB_nrm ?_
    refine thn_nrm (_hK_9 _ _ ?_)
    clear _hK_9
    refine W_region ?_
    refine WL_step rfl rfl (r_move rfl) ?_
    refine WL_step rfl rfl (r_add (by omega) rfl rfl) ?_
    refine WL_step rfl rfl (r_assign rfl) ?_
    refine WL_nil ?_
    have _on_13 : Ol bcs e_a 1 _w_11 (.slice _A_a a.length _C_a) ((zs.set i (decide ((kk.tmod 3) = 0)))) := by
      have hx := _o_12
      exact hx
    exact thn_nrm (Exists.intro ((i + 1), (kk + 1), (zs.set i (decide ((kk.tmod 3) = 0)))) ⟨⟨E, (by omega), (by omega), (by omega), (by simpa using hz), _on_13⟩, Sub.cons rfl (Sub.cons rfl (Sub.cons rfl (Sub.cons rfl (Sub.nil _)))), (by first | omega | (dsimp only; omega))⟩)
  · have _kb_8 := _h9
    have _h9 := bf_d _h9
    refine W_exit (thn_exit (thn_exit (inB_hit ?_)))
    refine thn_nrm (_hK_2 _ _ ?_)
    clear _hK_2
    refine W_seq fun _K_14 _hK_14 => ?_
    refine W_region ?_
    refine WL_step rfl rfl (r_move rfl) ?_
    refine WL_step rfl rfl (r_assign rfl) ?_
    refine WL_nil ?_
    refine thn_nrm (_hK_14 _ _ ?_)
    clear _hK_14
    refine W_ret ?_
    clear _hK_6
    exact ret_intro [_] ⟨rfl, trivial⟩ ⟨congrArg (Value.int .i64) (by omega), E⟩

/-- laws.markIntS -/
theorem c_laws_markIntS {w : World} {e_a : Nat} {_v_a : Value} {a : List Int} (_h_a : Ol ics e_a 1 w _v_a a) (k : Int) (_hk0 : 0 ≤ k) (hkk : k + a.length ≤ 4611686018427387904) :
    Ctr Try.prog 20 #[_v_a, (.int .i64 k)] w (fun v w' => v = .int .i64 (k + a.length) ∧ Ol ics e_a 1 w' _v_a (mkInt k a.length) ∧ Ch (bl _v_a) w w') := by
  obtain ⟨_A_a, _C_a, _e1_a⟩ := _h_a.val
  subst _e1_a
  have _l_a := _h_a.len
  have _lt_a := _h_a.lt
  have E := Ch.refl (bl (.slice _A_a a.length _C_a)) w
  refine Ctr_of_W (N := 19) (vs0 := [(.slice _A_a a.length _C_a), (.int .i64 k)]) Try.func20 rfl rfl rfl ?_
  refine W_seq fun _K_1 _hK_1 => ?_
  refine W_region ?_
  refine WL_step rfl rfl (r_assign rfl) ?_
  refine WL_nil ?_
  refine thn_nrm (_hK_1 _ _ ?_)
  clear _hK_1
  refine W_seq fun _K_2 _hK_2 => ?_
  refine W_seq fun _K_3 _hK_3 => ?_
  refine W_region ?_
  refine WL_step rfl rfl (r_assign rfl) ?_
  refine WL_nil ?_
  refine thn_nrm (_hK_3 _ _ ?_)
  clear _hK_3
  refine W_block ?_
  have _oi_4 : Ol ics e_a 1 w (.slice _A_a a.length _C_a) (mkInt k 0 ++ a.drop 0) := by
    have hx := _h_a
    simpa [mkInt] using hx
  refine W_loop (σ := Nat × Int) (fun ⟨i, kk⟩ => [(0, (.slice _A_a a.length _C_a)), (1, (.int .i64 kk)), (4, (.int .i64 0)), (5, (.int .i64 ((i : Nat) : Int)))]) (fun ⟨i, kk⟩ wx => Ch (bl (.slice _A_a a.length _C_a)) w wx ∧ w.heap.size ≤ wx.heap.size ∧ (i ≤ a.length) ∧ (kk = k + i) ∧ Ol ics e_a 1 wx (.slice _A_a a.length _C_a) (mkInt k i ++ a.drop i)) (fun ⟨i, kk⟩ => a.length - i) (0, k) (Sub.cons rfl (Sub.cons rfl (Sub.cons rfl (Sub.cons rfl (Sub.nil _))))) ⟨E, (Nat.le_refl _), (by omega), (by omega), _oi_4⟩ ?_
  rintro ⟨i, kk⟩ _wr_5 ⟨E, _zz0, hi, hq, _o0_0⟩
  have _E0h := E
  have _E0hz := _E0h.size
  refine W_seq fun _K_6 _hK_6 => ?_
  refine W_seq fun _K_7 _hK_7 => ?_
  refine W_region ?_
  refine WL_step rfl rfl (r_move rfl) ?_
  refine WL_step rfl rfl (r_move rfl) ?_
  refine WL_step rfl rfl (r_len (by rw [el31]; rfl) rfl) ?_
  refine WL_step rfl rfl (r_lss rfl rfl) ?_
  refine WL_nil ?_
  refine thn_nrm (_hK_7 _ _ ?_)
  clear _hK_7
  refine W_cond rfl (fun _h9 => ?_) (fun _h9 => ?_)
  · have _kb_8 := _h9
    have _h9 := bt_d _h9
    refine W_skip ?_
    refine thn_nrm (_hK_6 _ _ ?_)
    clear _hK_6
    refine W_seq fun _K_9 _hK_9 => ?_
    refine W_block ?_
    refine W_seq fun _K_10 _hK_10 => ?_
    refine W_region ?_
    refine WL_step rfl rfl (r_move rfl) ?_
    refine WL_step rfl rfl (r_move rfl) ?_
    refine WL_step rfl rfl (r_move rfl) ?_
    refine WL_s rfl rfl ?_
    refine s_indexO (j := i) _o0_0 el31 sz3 rfl rfl rfl (by first | omega | (simp [mkInt] <;> omega)) fun _g15 _o15 _cp15 _q15 => ?_
    refine WL_s rfl rfl ?_
    refine s_storeO (j := i) kk _o0_0 _q15 ics_len sz3 rfl rfl rfl rfl (by first | omega | (simp [mkInt] <;> omega)) fun _w_11 _o_12 _cw_11 => ?_
    have _cw_11z := _cw_11.size
    have E := E.trans _cw_11
    refine WL_nil ?_
    refine thn_nrm (_hK_10 _ _ ?_)
    clear _hK_10
    refine W_region ?_
    refine WL_step rfl rfl (r_move rfl) ?_
    refine WL_step rfl rfl (r_add (by omega) rfl rfl) ?_
    refine WL_step rfl rfl (r_assign rfl) ?_
    refine WL_nil ?_
    refine inB_nrm ?_
    refine thn_nrm (_hK_9 _ _ ?_)
    clear _hK_9
    refine W_region ?_
    refine WL_step rfl rfl (r_move rfl) ?_
    refine WL_step rfl rfl (r_add (by omega) rfl rfl) ?_
    refine WL_step rfl rfl (r_assign rfl) ?_
    refine WL_nil ?_
    have _on_13 : Ol ics e_a 1 _w_11 (.slice _A_a a.length _C_a) (mkInt k (i + 1) ++ a.drop (i + 1)) := by
      have hx := _o_12
      rwa [mkInt_step a (by omega) hq] at hx
    exact thn_nrm (Exists.intro ((i + 1), (kk + 1)) ⟨⟨E, (by omega), (by omega), (by omega), _on_13⟩, Sub.cons rfl (Sub.cons rfl (Sub.cons rfl (Sub.cons rfl (Sub.nil _)))), (by first | omega | (dsimp only; omega))⟩)
  · have _kb_8 := _h9
    have _h9 := bf_d _h9
    refine W_exit (thn_exit (thn_exit (inB_hit ?_)))
    refine thn_nrm (_hK_2 _ _ ?_)
    clear _hK_2
    refine W_seq fun _K_14 _hK_14 => ?_
    refine W_region ?_
    refine WL_step rfl rfl (r_move rfl) ?_
    refine WL_step rfl rfl (r_assign rfl) ?_
    refine WL_nil ?_
    refine thn_nrm (_hK_14 _ _ ?_)
    clear _hK_14
    refine W_ret ?_
    clear _hK_6
    have _o_15 : Ol ics e_a 1 _wr_5 (.slice _A_a a.length _C_a) (mkInt k a.length) := by
      have hx := _o0_0
      have _e1 : i = a.length := (by omega); subst _e1; simpa using hx
    exact ret_intro [_] ⟨rfl, trivial⟩ ⟨congrArg (Value.int .i64) (by omega), _o_15, E⟩

/-- laws.markIntSS -/
theorem c_laws_markIntSS {w : World} {e_sa e_a lo9_a hi9_a : Nat} {_v_sa : Value} {sa : List Sv} {a : List (List Int)} (_h_sa : Ol Sv.cs e_sa 1 w _v_sa sa) (_od_a : Od ics e_a 1 w lo9_a hi9_a sa a) (_ro_a : ∀ g ∈ bl _v_sa, lo9_a ≤ g ∧ g < hi9_a) (_sp_a : Sep _v_sa sa) (_hh_a : hi9_a ≤ w.heap.size) (k : Int) (_hk0 : 0 ≤ k) (hkk : k + a.flatten.length ≤ 4611686018427387904) :
    Ctr Try.prog 42 #[_v_sa, (.int .i64 k)] w (fun v w' => v = .int .i64 (k + a.flatten.length) ∧ Ch (Rg lo9_a hi9_a) w w') := by
  obtain ⟨_A_sa, _C_sa, _e1_sa⟩ := _h_sa.val
  subst _e1_sa
  have _l_sa := _h_sa.len
  have _lo_sa : Lo lo9_a (.slice _A_sa sa.length _C_sa) := fun g hg => (_ro_a g hg).1
  have hi_sa : ∀ g ∈ bl (.slice _A_sa sa.length _C_sa), g < hi9_a := fun g hg => (_ro_a g hg).2
  have _rl_a := _od_a.1
  have E := Ch.refl (Rg lo9_a hi9_a) w
  refine Ctr_of_W (N := 19) (vs0 := [(.slice _A_sa sa.length _C_sa), (.int .i64 k)]) Try.func42 rfl rfl rfl ?_
  refine W_seq fun _K_1 _hK_1 => ?_
  refine W_region ?_
  refine WL_step rfl rfl (r_assign rfl) ?_
  refine WL_nil ?_
  refine thn_nrm (_hK_1 _ _ ?_)
  clear _hK_1
  refine W_seq fun _K_2 _hK_2 => ?_
  refine W_seq fun _K_3 _hK_3 => ?_
  refine W_region ?_
  refine WL_step rfl rfl (r_assign rfl) ?_
  refine WL_nil ?_
  refine thn_nrm (_hK_3 _ _ ?_)
  clear _hK_3
  refine W_block ?_
  refine W_loop (σ := Nat × Int × List (List Int)) (fun ⟨i, kk, zss⟩ => [(0, (.slice _A_sa sa.length _C_sa)), (1, (.int .i64 kk)), (4, (.int .i64 0)), (5, (.int .i64 ((i : Nat) : Int)))]) (fun ⟨i, kk, zss⟩ wx => Ch (Rg lo9_a hi9_a) w wx ∧ w.heap.size ≤ wx.heap.size ∧ (i ≤ a.length) ∧ (kk = k + (a.take i).flatten.length) ∧ (zss.length = a.length ∧ ∀ j x, i ≤ j → zss[j]? = some x → a[j]? = some x) ∧ Ol Sv.cs e_sa 1 wx (.slice _A_sa sa.length _C_sa) sa ∧ Od ics e_a 1 wx lo9_a hi9_a sa zss) (fun ⟨i, kk, zss⟩ => a.length - i) (0, k, a) (Sub.cons rfl (Sub.cons rfl (Sub.cons rfl (Sub.cons rfl (Sub.nil _))))) ⟨E, (Nat.le_refl _), (by omega), (by simp), ⟨rfl, fun _ _ _ h => h⟩, _h_sa, _od_a⟩ ?_
  rintro ⟨i, kk, zss⟩ _wr_4 ⟨E, _zz0, hi, hq, hz, _F0_0, od⟩
  have _E0h := E
  have _E0hz := _E0h.size
  refine W_seq fun _K_5 _hK_5 => ?_
  refine W_seq fun _K_6 _hK_6 => ?_
  refine W_region ?_
  refine WL_step rfl rfl (r_move rfl) ?_
  refine WL_step rfl rfl (r_move rfl) ?_
  refine WL_step rfl rfl (r_len (by rw [el23]; rfl) rfl) ?_
  refine WL_step rfl rfl (r_lss rfl rfl) ?_
  refine WL_nil ?_
  refine thn_nrm (_hK_6 _ _ ?_)
  clear _hK_6
  refine W_cond rfl (fun _h9 => ?_) (fun _h9 => ?_)
  · have _kb_7 := _h9
    have _h9 := bt_d _h9
    refine W_skip ?_
    refine thn_nrm (_hK_5 _ _ ?_)
    clear _hK_5
    refine W_seq fun _K_8 _hK_8 => ?_
    refine W_block ?_
    refine W_region ?_
    refine WL_step rfl rfl (r_move rfl) ?_
    refine WL_step rfl rfl (r_move rfl) ?_
    refine WL_s rfl rfl ?_
    refine (s_index _F0_0.ls Sv.len el23 sz31 rfl rfl rfl (by omega) fun _p14 _y14 _hy14 _a14 => ?_)
    have _sm14 := _sp_a _ (mem_of_get _hy14)
    obtain ⟨_ys14, _hys14, _fs14, _rs14⟩ := od.ownget _hy14
    have _hyo14 := _hy14
    obtain ⟨_A14, _n14, _C14⟩ := _y14
    obtain rfl := _fs14.ls.eqn
    have _l14 := _fs14.len
    have _lo14 : Lo lo9_a (.slice _A14 _ys14.length _C14) := fun g hg => (_rs14 g hg).1
    have hi14 : ∀ g ∈ bl (.slice _A14 _ys14.length _C14), g < hi9_a := fun g hg => (_rs14 g hg).2
    replace _fs14 : Ol ics e_a 1 _wr_4 (.slice _A14 _ys14.length _C14) _ys14 := _fs14
    replace _a14 : At _wr_4 0 _wr_4.heap.size _p14 ([(.slice _A14 _ys14.length _C14)]) := _a14
    have hz9 := hz.2 i _ys14 (Nat.le_refl _) _hys14
    have fl9 := fl_le hz9
    refine WL_step rfl rfl (r_loadAt0 _a14 agg31 rfl rfl) ?_
    refine WL_step rfl rfl (r_move rfl) ?_
    refine WL_s rfl rfl ?_
    refine Step.call (r_call (xs := [.tmp 15, .tmp 16]) fk20 rfl) (c_laws_markIntS _fs14 _ (by omega) (by first | omega | (simp <;> omega))) fun _v17 _w_9 _q17 => ?_
    obtain ⟨rfl, _q17, _cw_9⟩ := _q17
    have _cw_9z := _cw_9.size
    have E := E.step _cw_9 (fun i hm => by have _h1 := _lo14 _ hm; have _h2 := hi14 _ hm; first | (left; omega) | (right; exact rg_mem (by omega)))
    refine WL_step rfl rfl (r_assign rfl) ?_
    refine WL_nil ?_
    refine inB_nrm ?_
    refine thn_nrm (_hK_8 _ _ ?_)
    clear _hK_8
    refine W_region ?_
    refine WL_step rfl rfl (r_move rfl) ?_
    refine WL_step rfl rfl (r_add (by omega) rfl rfl) ?_
    refine WL_step rfl rfl (r_assign rfl) ?_
    refine WL_nil ?_
    have _f_10 := (_F0_0.ch _cw_9 (fun g hg hm => by exact _sm14 _ hm hg))
    exact thn_nrm (Exists.intro ((i + 1), (kk + _ys14.length), (zss.set i (mkInt kk _ys14.length))) ⟨⟨E, (by omega), (by omega), (by have _h9 := fl_add hz9; omega), ⟨by simpa using hz.1, fun j x hj hx => by rw [List.getElem?_set, if_neg (by omega)] at hx; exact hz.2 j x (by omega) hx⟩, _f_10, (Od.set od _hyo14 _hys14 _cw_9 _q17)⟩, Sub.cons rfl (Sub.cons rfl (Sub.cons rfl (Sub.cons rfl (Sub.nil _)))), (by first | omega | (dsimp only; omega))⟩)
  · have _kb_7 := _h9
    have _h9 := bf_d _h9
    refine W_exit (thn_exit (thn_exit (inB_hit ?_)))
    refine thn_nrm (_hK_2 _ _ ?_)
    clear _hK_2
    refine W_seq fun _K_11 _hK_11 => ?_
    refine W_region ?_
    refine WL_step rfl rfl (r_move rfl) ?_
    refine WL_step rfl rfl (r_assign rfl) ?_
    refine WL_nil ?_
    refine thn_nrm (_hK_11 _ _ ?_)
    clear _hK_11
    refine W_ret ?_
    clear _hK_5
    exact ret_intro [_] ⟨rfl, trivial⟩ ⟨congrArg (Value.int .i64) (by have _h9 := fl_take (show a.length ≤ i by omega); omega), E⟩

/-- laws.markAutomaton -/
theorem c_laws_markAutomaton {w : World} (aS : Int) {e_aA : Nat} {_v_aA : Value} {aA : List Bool} (_h_aA : Ol bcs e_aA 1 w _v_aA aA) {e_saN e_aN lo9_aN hi9_aN : Nat} {_v_saN : Value} {saN : List Sv} {aN : List (List Int)} (_h_saN : Ol Sv.cs e_saN 1 w _v_saN saN) (_od_aN : Od ics e_aN 1 w lo9_aN hi9_aN saN aN) (_ro_aN : ∀ g ∈ bl _v_saN, lo9_aN ≤ g ∧ g < hi9_aN) (_sp_aN : Sep _v_saN saN) (_hh_aN : hi9_aN ≤ w.heap.size) (_ra_a : ∀ g ∈ bl _v_aA, lo9_aN ≤ g ∧ g < hi9_aN) (_dj_a : ∀ g ∈ bl _v_aA, g ∉ bl _v_saN) (_sq_a : Sep _v_aA saN) (k : Int) (_hk0 : 0 ≤ k) (hkk : k + aA.length + aN.flatten.length ≤ 4611686018427387904) :
    Ctr Try.prog 19 #[(.agg #[(.int .i64 aS), _v_aA, _v_saN]), (.int .i64 k)] w (fun v w' => v = .int .i64 (k + aA.length + aN.flatten.length) ∧ Ch (Rg lo9_aN hi9_aN) w w') := by
  obtain ⟨_A_aA, _C_aA, _e1_aA⟩ := _h_aA.val
  subst _e1_aA
  have _l_aA := _h_aA.len
  have _lt_aA := _h_aA.lt
  obtain ⟨_A_saN, _C_saN, _e1_saN⟩ := _h_saN.val
  subst _e1_saN
  have _l_saN := _h_saN.len
  have _lo_saN : Lo lo9_aN (.slice _A_saN saN.length _C_saN) := fun g hg => (_ro_aN g hg).1
  have hi_saN : ∀ g ∈ bl (.slice _A_saN saN.length _C_saN), g < hi9_aN := fun g hg => (_ro_aN g hg).2
  have _rl_aN := _od_aN.1
  have _lo_aA : Lo lo9_aN (.slice _A_aA aA.length _C_aA) := fun g hg => (_ra_a g hg).1
  have hi_aA : ∀ g ∈ bl (.slice _A_aA aA.length _C_aA), g < hi9_aN := fun g hg => (_ra_a g hg).2
  have E := Ch.refl (Rg lo9_aN hi9_aN) w
  refine Ctr_of_W (N := 14) (vs0 := [(.agg #[(.int .i64 aS), (.slice _A_aA aA.length _C_aA), (.slice _A_saN saN.length _C_saN)]), (.int .i64 k)]) Try.func19 rfl rfl rfl ?_
  refine W_seq fun _K_1 _hK_1 => ?_
  refine W_region ?_
  refine WL_s rfl rfl ?_
  refine s_box rfl fun _b2 _w_2 _m2 _cw_2 _e2 => ?_
  have _cw_2z := _cw_2.size
  have E := E.trans _cw_2.of_nil
  have _z2 := _m2.lt
  replace _m2 : Blk _w_2 _b2 28 [(.int .i64 aS), (.slice _A_aA aA.length _C_aA), (.slice _A_saN saN.length _C_saN)] := _m2
  refine WL_step rfl rfl (r_assign rfl) ?_
  refine WL_nil ?_
  refine thn_nrm (_hK_1 _ _ ?_)
  clear _hK_1
  refine W_seq fun _K_3 _hK_3 => ?_
  refine W_region ?_
  refine WL_step rfl rfl (r_fieldAddr fa28_1 rfl) ?_
  refine WL_step rfl rfl (r_loadAt _m2.at_ agg22 rfl rfl) ?_
  refine WL_step rfl rfl (r_move rfl) ?_
  refine WL_s rfl rfl ?_
  have _f_4 := (_h_aA.ch0 _cw_2)
  refine Step.call (r_call (xs := [.tmp 6, .tmp 7]) fk41 rfl) (c_laws_markBoolS _f_4 _ (by omega) (by first | omega | (simp <;> omega))) fun _v8 _w_5 _q8 => ?_
  obtain ⟨rfl, _cw_5⟩ := _q8
  have _cw_5z := _cw_5.size
  have E := E.step _cw_5 (fun i hm => by have _h1 := _lo_aA _ hm; have _h2 := hi_aA _ hm; first | (left; omega) | (right; exact rg_mem (by omega)))
  refine WL_step rfl rfl (r_assign rfl) ?_
  refine WL_nil ?_
  refine thn_nrm (_hK_3 _ _ ?_)
  clear _hK_3
  refine W_seq fun _K_6 _hK_6 => ?_
  refine W_region ?_
  refine WL_step rfl rfl (r_fieldAddr fa28_2 rfl) ?_
  have _f_7 := (_m2.ch _cw_5 (fun hm => by have _h1 := _lo_aA _ hm; have _h2 := hi_aA _ hm; omega))
  refine WL_step rfl rfl (r_loadAt _f_7.at_ agg23 rfl rfl) ?_
  refine WL_step rfl rfl (r_move rfl) ?_
  refine WL_s rfl rfl ?_
  have _f_8 := ((_h_saN.ch0 _cw_2).ch _cw_5 (fun g hg hm => by exact _dj_a _ hm hg))
  have _f_9 := ((_od_aN.ch0 _cw_2).chS _cw_5 _sq_a)
  refine Step.call (r_call (xs := [.tmp 10, .tmp 11]) fk42 rfl) (c_laws_markIntSS _f_8 (_f_9.up (lo' := lo9_aN) (hi' := hi9_aN) (by omega) (by omega)) (fun g hm => by have _h1 := _lo_saN _ hm; have _h2 := hi_saN _ hm; omega) _sp_aN (by omega) _ (by omega) (by first | omega | (simp <;> omega))) fun _v12 _w_10 _q12 => ?_
  obtain ⟨rfl, _cw_10⟩ := _q12
  have _cw_10z := _cw_10.size
  have E := E.step _cw_10 (fun i hm => by have _h1 := mem_rg hm; first | (left; omega) | (right; exact rg_mem (by omega)))
  refine WL_step rfl rfl (r_assign rfl) ?_
  refine WL_nil ?_
  refine thn_nrm (_hK_6 _ _ ?_)
  clear _hK_6
  refine W_seq fun _K_11 _hK_11 => ?_
  refine W_region ?_
  refine WL_step rfl rfl (r_move rfl) ?_
  refine WL_step rfl rfl (r_assign rfl) ?_
  refine WL_nil ?_
  refine thn_nrm (_hK_11 _ _ ?_)
  clear _hK_11
  refine W_ret ?_
  exact ret_intro [_] ⟨rfl, trivial⟩ ⟨congrArg (Value.int .i64) rfl, E⟩

/-- laws.szBoolS -/
theorem c_laws_szBoolS {w : World} {LL_a _B_a : Nat} {_v_a : Value} {a : List Bool} (_h_a : Ls bcs 1 w LL_a _B_a _v_a a) (left : Int) (hl : left ≤ 1048576) (_h0 : 0 ≤ left) :
    Ctr Try.prog 28 #[_v_a, (.int .i64 left)] w (fun v w' => v = .int .i64 (if left < a.length then -1 else left - a.length) ∧ Ch [] w w') := by
  obtain ⟨_A_a, _C_a, _e1_a⟩ := _h_a.val
  subst _e1_a
  have _l_a := _h_a.len
  have _h_a := _h_a.here (by decide)
  have E := Ch.refl [] w
  refine Ctr_of_W (N := 12) (vs0 := [(.slice _A_a a.length _C_a), (.int .i64 left)]) Try.func28 rfl rfl rfl ?_
  refine W_seq fun _K_1 _hK_1 => ?_
  refine W_region ?_
  refine WL_step rfl rfl (r_assign rfl) ?_
  refine WL_nil ?_
  refine thn_nrm (_hK_1 _ _ ?_)
  clear _hK_1
  refine W_seq fun _K_2 _hK_2 => ?_
  refine W_region ?_
  refine WL_step rfl rfl (r_move rfl) ?_
  refine WL_step rfl rfl (r_move rfl) ?_
  refine WL_step rfl rfl (r_len (by rw [el22]; rfl) rfl) ?_
  refine WL_step rfl rfl (r_sub (by omega) rfl rfl) ?_
  refine WL_step rfl rfl (r_assign rfl) ?_
  refine WL_nil ?_
  refine thn_nrm (_hK_2 _ _ ?_)
  clear _hK_2
  refine W_seq fun _K_3 _hK_3 => ?_
  refine W_seq fun _K_4 _hK_4 => ?_
  refine W_region ?_
  refine WL_step rfl rfl (r_move rfl) ?_
  refine WL_step rfl rfl (r_lss rfl rfl) ?_
  refine WL_nil ?_
  refine thn_nrm (_hK_4 _ _ ?_)
  clear _hK_4
  refine W_cond rfl (fun _h10 => ?_) (fun _h10 => ?_)
  · have _kb_5 := _h10
    have _h10 := bt_d _h10
    refine W_seq fun _K_6 _hK_6 => ?_
    refine W_region ?_
    refine WL_step rfl rfl (r_assign rfl) ?_
    refine WL_nil ?_
    refine thn_nrm (_hK_6 _ _ ?_)
    clear _hK_6
    refine W_ret (thn_ret ?_)
    clear _hK_3
    exact ret_intro [_] ⟨rfl, trivial⟩ ⟨congrArg (Value.int .i64) (if_pos (by omega)).symm, E⟩
  · have _kb_5 := _h10
    have _h10 := bf_d _h10
    refine W_skip ?_
    refine thn_nrm (_hK_3 _ _ ?_)
    clear _hK_3
    refine W_seq fun _K_7 _hK_7 => ?_
    refine W_region ?_
    refine WL_step rfl rfl (r_move rfl) ?_
    refine WL_step rfl rfl (r_assign rfl) ?_
    refine WL_nil ?_
    refine thn_nrm (_hK_7 _ _ ?_)
    clear _hK_7
    refine W_ret ?_
    exact ret_intro [_] ⟨rfl, trivial⟩ ⟨congrArg (Value.int .i64) (if_neg (by omega)).symm, E⟩

/-- laws.szIntS -/
theorem c_laws_szIntS {w : World} {LL_a _B_a : Nat} {_v_a : Value} {a : List Int} (_h_a : Ls ics 1 w LL_a _B_a _v_a a) (left : Int) (hl : left ≤ 1048576) (_h0 : 0 ≤ left) :
    Ctr Try.prog 58 #[_v_a, (.int .i64 left)] w (fun v w' => v = .int .i64 (if left < a.length then -1 else left - a.length) ∧ Ch [] w w') := by
  obtain ⟨_A_a, _C_a, _e1_a⟩ := _h_a.val
  subst _e1_a
  have _l_a := _h_a.len
  have _h_a := _h_a.here (by decide)
  have E := Ch.refl [] w
  refine Ctr_of_W (N := 12) (vs0 := [(.slice _A_a a.length _C_a), (.int .i64 left)]) Try.func58 rfl rfl rfl ?_
  refine W_seq fun _K_1 _hK_1 => ?_
  refine W_region ?_
  refine WL_step rfl rfl (r_assign rfl) ?_
  refine WL_nil ?_
  refine thn_nrm (_hK_1 _ _ ?_)
  clear _hK_1
  refine W_seq fun _K_2 _hK_2 => ?_
  refine W_region ?_
  refine WL_step rfl rfl (r_move rfl) ?_
  refine WL_step rfl rfl (r_move rfl) ?_
  refine WL_step rfl rfl (r_len (by rw [el31]; rfl) rfl) ?_
  refine WL_step rfl rfl (r_sub (by omega) rfl rfl) ?_
  refine WL_step rfl rfl (r_assign rfl) ?_
  refine WL_nil ?_
  refine thn_nrm (_hK_2 _ _ ?_)
  clear _hK_2
  refine W_seq fun _K_3 _hK_3 => ?_
  refine W_seq fun _K_4 _hK_4 => ?_
  refine W_region ?_
  refine WL_step rfl rfl (r_move rfl) ?_
  refine WL_step rfl rfl (r_lss rfl rfl) ?_
  refine WL_nil ?_
  refine thn_nrm (_hK_4 _ _ ?_)
  clear _hK_4
  refine W_cond rfl (fun _h10 => ?_) (fun _h10 => ?_)
  · have _kb_5 := _h10
    have _h10 := bt_d _h10
    refine W_seq fun _K_6 _hK_6 => ?_
    refine W_region ?_
    refine WL_step rfl rfl (r_assign rfl) ?_
    refine WL_nil ?_
    refine thn_nrm (_hK_6 _ _ ?_)
    clear _hK_6
    refine W_ret (thn_ret ?_)
    clear _hK_3
    exact ret_intro [_] ⟨rfl, trivial⟩ ⟨congrArg (Value.int .i64) (if_pos (by omega)).symm, E⟩
  · have _kb_5 := _h10
    have _h10 := bf_d _h10
    refine W_skip ?_
    refine thn_nrm (_hK_3 _ _ ?_)
    clear _hK_3
    refine W_seq fun _K_7 _hK_7 => ?_
    refine W_region ?_
    refine WL_step rfl rfl (r_move rfl) ?_
    refine WL_step rfl rfl (r_assign rfl) ?_
    refine WL_nil ?_
    refine thn_nrm (_hK_7 _ _ ?_)
    clear _hK_7
    refine W_ret ?_
    exact ret_intro [_] ⟨rfl, trivial⟩ ⟨congrArg (Value.int .i64) (if_neg (by omega)).symm, E⟩

/-- laws.szIntSS -/
theorem c_laws_szIntSS {w : World} {LL_sa _B_sa : Nat} {_v_sa : Value} {sa : List Sv} (_h_sa : Ls Sv.cs 1 w LL_sa _B_sa _v_sa sa) {LR_a BB_a : Nat} {a : List (List Int)} (_rd_a : Rd ics 1 w LR_a BB_a sa a) (left : Int) (hl : left ≤ 1048576) (_h0 : 0 ≤ left) :
    Ctr Try.prog 29 #[_v_sa, (.int .i64 left)] w (fun v w' => v = .int .i64 (if left < a.length + a.flatten.length then -1 else left - a.length - a.flatten.length) ∧ Ch [] w w') := by
  obtain ⟨_A_sa, _C_sa, _e1_sa⟩ := _h_sa.val
  subst _e1_sa
  have _l_sa := _h_sa.len
  have _h_sa := _h_sa.here (by decide)
  have _rd_a := _rd_a.here (by decide)
  have _rl_a := _rd_a.1
  have E := Ch.refl [] w
  refine Ctr_of_W (N := 27) (vs0 := [(.slice _A_sa sa.length _C_sa), (.int .i64 left)]) Try.func29 rfl rfl rfl ?_
  refine W_seq fun _K_1 _hK_1 => ?_
  refine W_region ?_
  refine WL_step rfl rfl (r_assign rfl) ?_
  refine WL_nil ?_
  refine thn_nrm (_hK_1 _ _ ?_)
  clear _hK_1
  refine W_seq fun _K_2 _hK_2 => ?_
  refine W_region ?_
  refine WL_step rfl rfl (r_move rfl) ?_
  refine WL_step rfl rfl (r_move rfl) ?_
  refine WL_step rfl rfl (r_len (by rw [el23]; rfl) rfl) ?_
  refine WL_step rfl rfl (r_sub (by omega) rfl rfl) ?_
  refine WL_step rfl rfl (r_assign rfl) ?_
  refine WL_nil ?_
  refine thn_nrm (_hK_2 _ _ ?_)
  clear _hK_2
  refine W_seq fun _K_3 _hK_3 => ?_
  refine W_seq fun _K_4 _hK_4 => ?_
  refine W_region ?_
  refine WL_step rfl rfl (r_move rfl) ?_
  refine WL_step rfl rfl (r_lss rfl rfl) ?_
  refine WL_nil ?_
  refine thn_nrm (_hK_4 _ _ ?_)
  clear _hK_4
  refine W_cond rfl (fun _h11 => ?_) (fun _h11 => ?_)
  · have _kb_5 := _h11
    have _h11 := bt_d _h11
    refine W_seq fun _K_6 _hK_6 => ?_
    refine W_region ?_
    refine WL_step rfl rfl (r_assign rfl) ?_
    refine WL_nil ?_
    refine thn_nrm (_hK_6 _ _ ?_)
    clear _hK_6
    refine W_ret (thn_ret ?_)
    clear _hK_3
    exact ret_intro [_] ⟨rfl, trivial⟩ ⟨congrArg (Value.int .i64) (if_pos (by omega)).symm, E⟩
  · have _kb_5 := _h11
    have _h11 := bf_d _h11
    refine W_skip ?_
    refine thn_nrm (_hK_3 _ _ ?_)
    clear _hK_3
    refine W_seq fun _K_7 _hK_7 => ?_
    refine W_seq fun _K_8 _hK_8 => ?_
    refine W_region ?_
    refine WL_step rfl rfl (r_assign rfl) ?_
    refine WL_nil ?_
    refine thn_nrm (_hK_8 _ _ ?_)
    clear _hK_8
    refine W_block ?_
    refine W_loop (σ := Nat × Int) (fun ⟨k, m⟩ => [(0, (.slice _A_sa sa.length _C_sa)), (1, (.int .i64 m)), (5, (.int .i64 ((k : Nat) : Int)))]) (fun ⟨k, m⟩ wx => Ch [] w wx ∧ w.heap.size ≤ wx.heap.size ∧ (k ≤ a.length) ∧ (m = left - a.length - (a.take k).flatten.length) ∧ (0 ≤ m)) (fun ⟨k, m⟩ => a.length - k) (0, (left - ((sa.length : Nat) : Int))) (Sub.cons rfl (Sub.cons rfl (Sub.cons rfl (Sub.nil _)))) ⟨E, (Nat.le_refl _), (by omega), (by simp; omega), (by omega)⟩ ?_
    rintro ⟨k, m⟩ _wr_9 ⟨E, _zz0, _hk, hm, hn⟩
    have _E0h := E
    have _E0hz := _E0h.size
    refine W_seq fun _K_10 _hK_10 => ?_
    refine W_seq fun _K_11 _hK_11 => ?_
    refine W_region ?_
    refine WL_step rfl rfl (r_move rfl) ?_
    refine WL_step rfl rfl (r_move rfl) ?_
    refine WL_step rfl rfl (r_len (by rw [el23]; rfl) rfl) ?_
    refine WL_step rfl rfl (r_lss rfl rfl) ?_
    refine WL_nil ?_
    refine thn_nrm (_hK_11 _ _ ?_)
    clear _hK_11
    refine W_cond rfl (fun _h15 => ?_) (fun _h15 => ?_)
    · have _kb_12 := _h15
      have _h15 := bt_d _h15
      refine W_skip ?_
      refine thn_nrm (_hK_10 _ _ ?_)
      clear _hK_10
      refine W_seq fun _K_13 _hK_13 => ?_
      refine W_block ?_
      refine W_seq fun _K_14 _hK_14 => ?_
      refine W_region ?_
      refine WL_step rfl rfl (r_move rfl) ?_
      refine WL_step rfl rfl (r_move rfl) ?_
      refine WL_s rfl rfl ?_
      have _f_15 := (_h_sa.ch0 _E0h)
      refine (s_index _f_15 Sv.len el23 sz31 rfl rfl rfl (by omega) fun _p20 _y20 _hy20 _a20 => ?_)
      have _f_16 := (_rd_a.ch0 _E0h)
      obtain ⟨_ys20, _hys20, _fs20⟩ := _f_16.get _hy20
      obtain ⟨_A20, _n20, _C20⟩ := _y20
      obtain rfl := _fs20.eqn
      have _l20 := _fs20.len
      replace _fs20 : Ls ics 1 _wr_9 LR_a w.heap.size (.slice _A20 _ys20.length _C20) _ys20 := _fs20
      replace _a20 : At _wr_9 LL_sa w.heap.size _p20 ([(.slice _A20 _ys20.length _C20)]) := _a20
      refine WL_step rfl rfl (r_loadAt0 _a20 agg31 rfl rfl) ?_
      refine WL_step rfl rfl (r_move rfl) ?_
      refine WL_s rfl rfl ?_
      refine Step.call (r_call (xs := [.tmp 21, .tmp 22]) fk58 rfl) (c_laws_szIntS _fs20 _ (by omega) (by omega)) fun _v23 _w_17 _q23 => ?_
      obtain ⟨rfl, _cw_17⟩ := _q23
      have _cw_17z := _cw_17.size
      have E := E.trans _cw_17
      refine WL_step rfl rfl (r_assign rfl) ?_
      refine WL_nil ?_
      refine thn_nrm (_hK_14 _ _ ?_)
      clear _hK_14
      refine W_seq fun _K_18 _hK_18 => ?_
      refine W_region ?_
      refine WL_step rfl rfl (r_move rfl) ?_
      refine WL_step rfl rfl (r_lss rfl rfl) ?_
      refine WL_nil ?_
      refine thn_nrm (_hK_18 _ _ ?_)
      clear _hK_18
      refine W_cond rfl (fun _h25 => ?_) (fun _h25 => ?_)
      · have _kb_19 := _h25
        have _h25 := bt_d _h25
        refine W_seq fun _K_20 _hK_20 => ?_
        refine W_region ?_
        refine WL_step rfl rfl (r_assign rfl) ?_
        refine WL_nil ?_
        refine thn_nrm (_hK_20 _ _ ?_)
        clear _hK_20
        refine W_ret (inB_ret (thn_ret (thn_ret (inB_ret (thn_ret ?_)))))
        clear _hK_7 _hK_13
        exact ret_intro [_] ⟨rfl, trivial⟩ ⟨congrArg (Value.int .i64) (if_pos (by have _h9 := fl_le _hys20; omega)).symm, E⟩
      · have _kb_19 := _h25
        have _h25 := bf_d _h25
        refine W_skip ?_
        refine inB_nrm ?_
        refine thn_nrm (_hK_13 _ _ ?_)
        clear _hK_13
        refine W_region ?_
        refine WL_step rfl rfl (r_move rfl) ?_
        refine WL_step rfl rfl (r_add (by omega) rfl rfl) ?_
        refine WL_step rfl rfl (r_assign rfl) ?_
        refine WL_nil ?_
        exact thn_nrm (Exists.intro ((k + 1), if m < _ys20.length then -1 else m - _ys20.length) ⟨⟨E, (by omega), (by omega), (by have _h9 := fl_add _hys20; omega), (by omega)⟩, Sub.cons rfl (Sub.cons rfl (Sub.cons rfl (Sub.nil _))), (by first | omega | (dsimp only; omega))⟩)
    · have _kb_12 := _h15
      have _h15 := bf_d _h15
      refine W_exit (thn_exit (thn_exit (inB_hit ?_)))
      refine thn_nrm (_hK_7 _ _ ?_)
      clear _hK_7
      refine W_seq fun _K_21 _hK_21 => ?_
      refine W_region ?_
      refine WL_step rfl rfl (r_move rfl) ?_
      refine WL_step rfl rfl (r_assign rfl) ?_
      refine WL_nil ?_
      refine thn_nrm (_hK_21 _ _ ?_)
      clear _hK_21
      refine W_ret ?_
      clear _hK_10
      exact ret_intro [_] ⟨rfl, trivial⟩ ⟨congrArg (Value.int .i64) (by have _h9 := fl_take (show a.length ≤ k by omega); omega), E⟩

/-- laws.szAutomaton -/
theorem c_laws_szAutomaton {w : World} (aS : Int) {LL_aA _B_aA : Nat} {_v_aA : Value} {aA : List Bool} (_h_aA : Ls bcs 1 w LL_aA _B_aA _v_aA aA) {LL_saN _B_saN : Nat} {_v_saN : Value} {saN : List Sv} (_h_saN : Ls Sv.cs 1 w LL_saN _B_saN _v_saN saN) {LR_aN BB_aN : Nat} {aN : List (List Int)} (_rd_aN : Rd ics 1 w LR_aN BB_aN saN aN) (left : Int) (hl : left ≤ 1048576) (_h0 : 0 ≤ left) :
    Ctr Try.prog 9 #[(.agg #[(.int .i64 aS), _v_aA, _v_saN]), (.int .i64 left)] w (fun v w' => v = .int .i64 (if left < aA.length + aN.length + aN.flatten.length then -1 else left - aA.length - aN.length - aN.flatten.length) ∧ Ch [] w w') := by
  obtain ⟨_A_aA, _C_aA, _e1_aA⟩ := _h_aA.val
  subst _e1_aA
  have _l_aA := _h_aA.len
  have _h_aA := _h_aA.here (by decide)
  obtain ⟨_A_saN, _C_saN, _e1_saN⟩ := _h_saN.val
  subst _e1_saN
  have _l_saN := _h_saN.len
  have _h_saN := _h_saN.here (by decide)
  have _rd_aN := _rd_aN.here (by decide)
  have _rl_aN := _rd_aN.1
  have E := Ch.refl [] w
  refine Ctr_of_W (N := 18) (vs0 := [(.agg #[(.int .i64 aS), (.slice _A_aA aA.length _C_aA), (.slice _A_saN saN.length _C_saN)]), (.int .i64 left)]) Try.func9 rfl rfl rfl ?_
  refine W_seq fun _K_1 _hK_1 => ?_
  refine W_region ?_
  refine WL_s rfl rfl ?_
  refine s_box rfl fun _b2 _w_2 _m2 _cw_2 _e2 => ?_
  have _cw_2z := _cw_2.size
  have E := E.trans _cw_2
  have _z2 := _m2.lt
  replace _m2 : Blk _w_2 _b2 25 [(.int .i64 aS), (.slice _A_aA aA.length _C_aA), (.slice _A_saN saN.length _C_saN)] := _m2
  refine WL_step rfl rfl (r_assign rfl) ?_
  refine WL_nil ?_
  refine thn_nrm (_hK_1 _ _ ?_)
  clear _hK_1
  refine W_seq fun _K_3 _hK_3 => ?_
  refine W_region ?_
  refine WL_step rfl rfl (r_fieldAddr fa25_1 rfl) ?_
  refine WL_step rfl rfl (r_loadAt _m2.at_ agg22 rfl rfl) ?_
  refine WL_step rfl rfl (r_move rfl) ?_
  refine WL_s rfl rfl ?_
  have _f_4 := (_h_aA.ch0 _cw_2)
  refine Step.call (r_call (xs := [.tmp 6, .tmp 7]) fk28 rfl) (c_laws_szBoolS _f_4 _ (by omega) (by omega)) fun _v8 _w_5 _q8 => ?_
  obtain ⟨rfl, _cw_5⟩ := _q8
  have _cw_5z := _cw_5.size
  have E := E.trans _cw_5
  refine WL_step rfl rfl (r_assign rfl) ?_
  refine WL_nil ?_
  refine thn_nrm (_hK_3 _ _ ?_)
  clear _hK_3
  refine W_seq fun _K_6 _hK_6 => ?_
  refine W_seq fun _K_7 _hK_7 => ?_
  refine W_region ?_
  refine WL_step rfl rfl (r_move rfl) ?_
  refine WL_step rfl rfl (r_lss rfl rfl) ?_
  refine WL_nil ?_
  refine thn_nrm (_hK_7 _ _ ?_)
  clear _hK_7
  refine W_cond rfl (fun _h10 => ?_) (fun _h10 => ?_)
  · have _kb_8 := _h10
    have _h10 := bt_d _h10
    refine W_seq fun _K_9 _hK_9 => ?_
    refine W_region ?_
    refine WL_step rfl rfl (r_assign rfl) ?_
    refine WL_nil ?_
    refine thn_nrm (_hK_9 _ _ ?_)
    clear _hK_9
    refine W_ret (thn_ret ?_)
    clear _hK_6
    exact ret_intro [_] ⟨rfl, trivial⟩ ⟨congrArg (Value.int .i64) (by omega), E⟩
  · have _kb_8 := _h10
    have _h10 := bf_d _h10
    refine W_skip ?_
    refine thn_nrm (_hK_6 _ _ ?_)
    clear _hK_6
    refine W_seq fun _K_10 _hK_10 => ?_
    refine W_region ?_
    refine WL_step rfl rfl (r_fieldAddr fa25_2 rfl) ?_
    have _f_11 := (_m2.ch0 _cw_5)
    refine WL_step rfl rfl (r_loadAt _f_11.at_ agg23 rfl rfl) ?_
    refine WL_step rfl rfl (r_move rfl) ?_
    refine WL_s rfl rfl ?_
    have _f_12 := ((_rd_aN.ch0 _cw_2).ch0 _cw_5)
    have _f_13 := ((_h_saN.ch0 _cw_2).ch0 _cw_5)
    refine Step.call (r_call (xs := [.tmp 12, .tmp 13]) fk29 rfl) (c_laws_szIntSS _f_13 _f_12 _ (by omega) (by omega)) fun _v14 _w_14 _q14 => ?_
    obtain ⟨rfl, _cw_14⟩ := _q14
    have _cw_14z := _cw_14.size
    have E := E.trans _cw_14
    refine WL_step rfl rfl (r_assign rfl) ?_
    refine WL_nil ?_
    refine thn_nrm (_hK_10 _ _ ?_)
    clear _hK_10
    refine W_seq fun _K_15 _hK_15 => ?_
    refine W_seq fun _K_16 _hK_16 => ?_
    refine W_region ?_
    refine WL_step rfl rfl (r_move rfl) ?_
    refine WL_step rfl rfl (r_lss rfl rfl) ?_
    refine WL_nil ?_
    refine thn_nrm (_hK_16 _ _ ?_)
    clear _hK_16
    refine W_cond rfl (fun _h16 => ?_) (fun _h16 => ?_)
    · have _kb_17 := _h16
      have _h16 := bt_d _h16
      refine W_seq fun _K_18 _hK_18 => ?_
      refine W_region ?_
      refine WL_step rfl rfl (r_assign rfl) ?_
      refine WL_nil ?_
      refine thn_nrm (_hK_18 _ _ ?_)
      clear _hK_18
      refine W_ret (thn_ret ?_)
      clear _hK_15
      exact ret_intro [_] ⟨rfl, trivial⟩ ⟨congrArg (Value.int .i64) (by omega), E⟩
    · have _kb_17 := _h16
      have _h16 := bf_d _h16
      refine W_skip ?_
      refine thn_nrm (_hK_15 _ _ ?_)
      clear _hK_15
      refine W_seq fun _K_19 _hK_19 => ?_
      refine W_region ?_
      refine WL_step rfl rfl (r_move rfl) ?_
      refine WL_step rfl rfl (r_assign rfl) ?_
      refine WL_nil ?_
      refine thn_nrm (_hK_19 _ _ ?_)
      clear _hK_19
      refine W_ret ?_
      exact ret_intro [_] ⟨rfl, trivial⟩ ⟨congrArg (Value.int .i64) (by omega), E⟩

/-- laws.toBoolS -/
theorem c_laws_toBoolS {w : World} {LL_a _B_a : Nat} {_v_a : Value} {a : List Bool} (_h_a : Ls bcs 1 w LL_a _B_a _v_a a) (hb : a.length ≤ 1048576) :
    Ctr Try.prog 31 #[_v_a] w (fun v w' => Ol bcs 4 1 w' v (a) ∧ Lo w.heap.size v ∧ Ch [] w w') := by
  obtain ⟨_A_a, _C_a, _e1_a⟩ := _h_a.val
  subst _e1_a
  have _l_a := _h_a.len
  have _h_a := _h_a.here (by decide)
  have E := Ch.refl [] w
  refine Ctr_of_W (N := 22) (vs0 := [(.slice _A_a a.length _C_a)]) Try.func31 rfl rfl rfl ?_
  refine W_seq fun _K_1 _hK_1 => ?_
  refine W_region ?_
  refine WL_step rfl rfl (r_assign rfl) ?_
  refine WL_nil ?_
  refine thn_nrm (_hK_1 _ _ ?_)
  clear _hK_1
  refine W_seq fun _K_2 _hK_2 => ?_
  refine W_region ?_
  refine WL_step rfl rfl (r_move rfl) ?_
  refine WL_step rfl rfl (r_len (by rw [el22]; rfl) rfl) ?_
  refine WL_s rfl rfl ?_
  refine s_make (cs := bcs) false el22 sz4 by4 zr4 bcs_len (by decide) rfl rfl (by omega) (by omega) fun _v7 _w_3 _q7 _lo7 _cw_3 => ?_
  have _cw_3z := _cw_3.size
  have E := E.trans _cw_3
  obtain ⟨_Av7, _Cv7, _ev7⟩ := _q7.val
  subst _ev7
  have _lv7 := _q7.len
  have _hiv7 := _q7.lt
  refine WL_step rfl rfl (r_assign rfl) ?_
  refine WL_nil ?_
  refine thn_nrm (_hK_2 _ _ ?_)
  clear _hK_2
  refine W_seq fun _K_4 _hK_4 => ?_
  refine W_seq fun _K_5 _hK_5 => ?_
  refine W_region ?_
  refine WL_step rfl rfl (r_assign rfl) ?_
  refine WL_nil ?_
  refine thn_nrm (_hK_5 _ _ ?_)
  clear _hK_5
  refine W_block ?_
  have _oi_6 : Ol bcs 4 1 _w_3 (.slice _Av7 ((List.replicate a.length false)).length _Cv7) (a.take 0 ++ List.replicate (a.length - 0) false) := by
    have hx := _q7
    simpa using hx
  refine W_loop (σ := Nat) (fun (k : Nat) => [(0, (.slice _A_a a.length _C_a)), (2, (.slice none 0 0)), (3, (.slice _Av7 ((List.replicate a.length false)).length _Cv7)), (4, (.int .i64 ((k : Nat) : Int)))]) (fun (k : Nat) wx => Ch [] w wx ∧ _w_3.heap.size ≤ wx.heap.size ∧ (k ≤ a.length) ∧ Ol bcs 4 1 wx (.slice _Av7 ((List.replicate a.length false)).length _Cv7) (a.take k ++ List.replicate (a.length - k) false)) (fun (k : Nat) => a.length - k) 0 (Sub.cons rfl (Sub.cons rfl (Sub.cons rfl (Sub.cons rfl (Sub.nil _))))) ⟨E, (Nat.le_refl _), (by omega), _oi_6⟩ ?_
  rintro k _wr_7 ⟨E, _zz0, _hk, _o0_3⟩
  have _E0h := E
  have _E0hz := _E0h.size
  refine W_seq fun _K_8 _hK_8 => ?_
  refine W_seq fun _K_9 _hK_9 => ?_
  refine W_region ?_
  refine WL_step rfl rfl (r_move rfl) ?_
  refine WL_step rfl rfl (r_move rfl) ?_
  refine WL_step rfl rfl (r_len (by rw [el22]; rfl) rfl) ?_
  refine WL_step rfl rfl (r_lss rfl rfl) ?_
  refine WL_nil ?_
  refine thn_nrm (_hK_9 _ _ ?_)
  clear _hK_9
  refine W_cond rfl (fun _h11 => ?_) (fun _h11 => ?_)
  · have _kb_10 := _h11
    have _h11 := bt_d _h11
    refine W_skip ?_
    refine thn_nrm (_hK_8 _ _ ?_)
    clear _hK_8
    refine W_seq fun _K_11 _hK_11 => ?_
    refine W_block ?_
    refine W_region ?_
    refine WL_step rfl rfl (r_move rfl) ?_
    refine WL_step rfl rfl (r_move rfl) ?_
    refine WL_step rfl rfl (r_move rfl) ?_
    refine WL_step rfl rfl (r_move rfl) ?_
    refine WL_s rfl rfl ?_
    have _f_12 := (_h_a.ch0 _E0h)
    refine (s_index _f_12 bcs_len el22 sz4 rfl rfl rfl (by omega) fun _p18 _y18 _hy18 _a18 => ?_)
    refine WL_step rfl rfl (r_loadAt0 _a18 agg4 rfl rfl) ?_
    refine WL_s rfl rfl ?_
    refine s_indexO (j := k) _o0_3 el22 sz4 rfl rfl rfl (by simp; omega) fun _g20 _o20 _cp20 _q20 => ?_
    refine WL_s rfl rfl ?_
    refine s_storeO (j := k) _y18 _o0_3 _q20 bcs_len sz4 rfl rfl rfl rfl (by simp; omega) fun _w_13 _o_14 _cw_13 => ?_
    have _cw_13z := _cw_13.size
    have E := E.step _cw_13 (fun i hi => .inl (by have _h1 := _lo7 _ hi; omega))
    refine WL_nil ?_
    refine inB_nrm ?_
    refine thn_nrm (_hK_11 _ _ ?_)
    clear _hK_11
    refine W_region ?_
    refine WL_step rfl rfl (r_move rfl) ?_
    refine WL_step rfl rfl (r_add (by omega) rfl rfl) ?_
    refine WL_step rfl rfl (r_assign rfl) ?_
    refine WL_nil ?_
    have _on_15 : Ol bcs 4 1 _w_13 (.slice _Av7 ((List.replicate a.length false)).length _Cv7) (a.take (k + 1) ++ List.replicate (a.length - (k + 1)) false) := by
      have hx := _o_14
      rwa [fill_step a false _hy18] at hx
    exact thn_nrm (Exists.intro (k + 1) ⟨⟨E, (by omega), (by omega), _on_15⟩, Sub.cons rfl (Sub.cons rfl (Sub.cons rfl (Sub.cons rfl (Sub.nil _)))), (by first | omega | (dsimp only; omega))⟩)
  · have _kb_10 := _h11
    have _h11 := bf_d _h11
    refine W_exit (thn_exit (thn_exit (inB_hit ?_)))
    refine thn_nrm (_hK_4 _ _ ?_)
    clear _hK_4
    refine W_seq fun _K_16 _hK_16 => ?_
    refine W_region ?_
    refine WL_step rfl rfl (r_move rfl) ?_
    refine WL_step rfl rfl (r_assign rfl) ?_
    refine WL_nil ?_
    refine thn_nrm (_hK_16 _ _ ?_)
    clear _hK_16
    refine W_ret ?_
    clear _hK_8
    have _o_17 : Ol bcs 4 1 _wr_7 (.slice _Av7 ((List.replicate a.length false)).length _Cv7) (a) := by
      have hx := _o0_3
      simpa [List.take_of_length_le (show a.length ≤ k by omega), show a.length - k = 0 by omega] using hx
    exact ret_intro [_] ⟨rfl, trivial⟩ ⟨_o_17, Lo.down _lo7 (by omega), E⟩

/-- laws.toIntS -/
theorem c_laws_toIntS {w : World} {LL_a _B_a : Nat} {_v_a : Value} {a : List Int} (_h_a : Ls ics 1 w LL_a _B_a _v_a a) (hb : a.length ≤ 1048576) :
    Ctr Try.prog 60 #[_v_a] w (fun v w' => Ol ics 3 1 w' v (a) ∧ Lo w.heap.size v ∧ Ch [] w w') := by
  obtain ⟨_A_a, _C_a, _e1_a⟩ := _h_a.val
  subst _e1_a
  have _l_a := _h_a.len
  have _h_a := _h_a.here (by decide)
  have E := Ch.refl [] w
  refine Ctr_of_W (N := 22) (vs0 := [(.slice _A_a a.length _C_a)]) Try.func60 rfl rfl rfl ?_
  refine W_seq fun _K_1 _hK_1 => ?_
  refine W_region ?_
  refine WL_step rfl rfl (r_assign rfl) ?_
  refine WL_nil ?_
  refine thn_nrm (_hK_1 _ _ ?_)
  clear _hK_1
  refine W_seq fun _K_2 _hK_2 => ?_
  refine W_region ?_
  refine WL_step rfl rfl (r_move rfl) ?_
  refine WL_step rfl rfl (r_len (by rw [el31]; rfl) rfl) ?_
  refine WL_s rfl rfl ?_
  refine s_make (cs := ics) (0 : Int) el31 sz3 by3 zr3 ics_len (by decide) rfl rfl (by omega) (by omega) fun _v7 _w_3 _q7 _lo7 _cw_3 => ?_
  have _cw_3z := _cw_3.size
  have E := E.trans _cw_3
  obtain ⟨_Av7, _Cv7, _ev7⟩ := _q7.val
  subst _ev7
  have _lv7 := _q7.len
  have _hiv7 := _q7.lt
  refine WL_step rfl rfl (r_assign rfl) ?_
  refine WL_nil ?_
  refine thn_nrm (_hK_2 _ _ ?_)
  clear _hK_2
  refine W_seq fun _K_4 _hK_4 => ?_
  refine W_seq fun _K_5 _hK_5 => ?_
  refine W_region ?_
  refine WL_step rfl rfl (r_assign rfl) ?_
  refine WL_nil ?_
  refine thn_nrm (_hK_5 _ _ ?_)
  clear _hK_5
  refine W_block ?_
  have _oi_6 : Ol ics 3 1 _w_3 (.slice _Av7 ((List.replicate a.length (0 : Int))).length _Cv7) (a.take 0 ++ List.replicate (a.length - 0) (0 : Int)) := by
    have hx := _q7
    simpa using hx
  refine W_loop (σ := Nat) (fun (k : Nat) => [(0, (.slice _A_a a.length _C_a)), (2, (.slice none 0 0)), (3, (.slice _Av7 ((List.replicate a.length (0 : Int))).length _Cv7)), (4, (.int .i64 ((k : Nat) : Int)))]) (fun (k : Nat) wx => Ch [] w wx ∧ _w_3.heap.size ≤ wx.heap.size ∧ (k ≤ a.length) ∧ Ol ics 3 1 wx (.slice _Av7 ((List.replicate a.length (0 : Int))).length _Cv7) (a.take k ++ List.replicate (a.length - k) (0 : Int))) (fun (k : Nat) => a.length - k) 0 (Sub.cons rfl (Sub.cons rfl (Sub.cons rfl (Sub.cons rfl (Sub.nil _))))) ⟨E, (Nat.le_refl _), (by omega), _oi_6⟩ ?_
  rintro k _wr_7 ⟨E, _zz0, _hk, _o0_3⟩
  have _E0h := E
  have _E0hz := _E0h.size
  refine W_seq fun _K_8 _hK_8 => ?_
  refine W_seq fun _K_9 _hK_9 => ?_
  refine W_region ?_
  refine WL_step rfl rfl (r_move rfl) ?_
  refine WL_step rfl rfl (r_move rfl) ?_
  refine WL_step rfl rfl (r_len (by rw [el31]; rfl) rfl) ?_
  refine WL_step rfl rfl (r_lss rfl rfl) ?_
  refine WL_nil ?_
  refine thn_nrm (_hK_9 _ _ ?_)
  clear _hK_9
  refine W_cond rfl (fun _h11 => ?_) (fun _h11 => ?_)
  · have _kb_10 := _h11
    have _h11 := bt_d _h11
    refine W_skip ?_
    refine thn_nrm (_hK_8 _ _ ?_)
    clear _hK_8
    refine W_seq fun _K_11 _hK_11 => ?_
    refine W_block ?_
    refine W_region ?_
    refine WL_step rfl rfl (r_move rfl) ?_
    refine WL_step rfl rfl (r_move rfl) ?_
    refine WL_step rfl rfl (r_move rfl) ?_
    refine WL_step rfl rfl (r_move rfl) ?_
    refine WL_s rfl rfl ?_
    have _f_12 := (_h_a.ch0 _E0h)
    refine (s_index _f_12 ics_len el31 sz3 rfl rfl rfl (by omega) fun _p18 _y18 _hy18 _a18 => ?_)
    refine WL_step rfl rfl (r_loadAt0 _a18 agg3 rfl rfl) ?_
    refine WL_s rfl rfl ?_
    refine s_indexO (j := k) _o0_3 el31 sz3 rfl rfl rfl (by simp; omega) fun _g20 _o20 _cp20 _q20 => ?_
    refine WL_s rfl rfl ?_
    refine s_storeO (j := k) _y18 _o0_3 _q20 ics_len sz3 rfl rfl rfl rfl (by simp; omega) fun _w_13 _o_14 _cw_13 => ?_
    have _cw_13z := _cw_13.size
    have E := E.step _cw_13 (fun i hi => .inl (by have _h1 := _lo7 _ hi; omega))
    refine WL_nil ?_
    refine inB_nrm ?_
    refine thn_nrm (_hK_11 _ _ ?_)
    clear _hK_11
    refine W_region ?_
    refine WL_step rfl rfl (r_move rfl) ?_
    refine WL_step rfl rfl (r_add (by omega) rfl rfl) ?_
    refine WL_step rfl rfl (r_assign rfl) ?_
    refine WL_nil ?_
    have _on_15 : Ol ics 3 1 _w_13 (.slice _Av7 ((List.replicate a.length (0 : Int))).length _Cv7) (a.take (k + 1) ++ List.replicate (a.length - (k + 1)) (0 : Int)) := by
      have hx := _o_14
      rwa [fill_step a (0 : Int) _hy18] at hx
    exact thn_nrm (Exists.intro (k + 1) ⟨⟨E, (by omega), (by omega), _on_15⟩, Sub.cons rfl (Sub.cons rfl (Sub.cons rfl (Sub.cons rfl (Sub.nil _)))), (by first | omega | (dsimp only; omega))⟩)
  · have _kb_10 := _h11
    have _h11 := bf_d _h11
    refine W_exit (thn_exit (thn_exit (inB_hit ?_)))
    refine thn_nrm (_hK_4 _ _ ?_)
    clear _hK_4
    refine W_seq fun _K_16 _hK_16 => ?_
    refine W_region ?_
    refine WL_step rfl rfl (r_move rfl) ?_
    refine WL_step rfl rfl (r_assign rfl) ?_
    refine WL_nil ?_
    refine thn_nrm (_hK_16 _ _ ?_)
    clear _hK_16
    refine W_ret ?_
    clear _hK_8
    have _o_17 : Ol ics 3 1 _wr_7 (.slice _Av7 ((List.replicate a.length (0 : Int))).length _Cv7) (a) := by
      have hx := _o0_3
      simpa [List.take_of_length_le (show a.length ≤ k by omega), show a.length - k = 0 by omega] using hx
    exact ret_intro [_] ⟨rfl, trivial⟩ ⟨_o_17, Lo.down _lo7 (by omega), E⟩

/-- laws.toIntSS -/
theorem c_laws_toIntSS {w : World} {LL_sa _B_sa : Nat} {_v_sa : Value} {sa : List Sv} (_h_sa : Ls Sv.cs 1 w LL_sa _B_sa _v_sa sa) {LR_a BB_a : Nat} {a : List (List Int)} (_rd_a : Rd ics 1 w LR_a BB_a sa a) (hb : a.length + a.flatten.length ≤ 1048576) :
    Ctr Try.prog 32 #[_v_sa] w (fun v w' => ∃ (_u0 : Value) (vs0 : List Sv), v = _u0 ∧ Ol Sv.cs 31 1 w' _u0 vs0 ∧ Lo w.heap.size _u0 ∧ Od ics 3 1 w' w.heap.size w'.heap.size vs0 (a) ∧ Sep _u0 vs0 ∧ Ch [] w w') := by
  obtain ⟨_A_sa, _C_sa, _e1_sa⟩ := _h_sa.val
  subst _e1_sa
  have _l_sa := _h_sa.len
  have _h_sa := _h_sa.here (by decide)
  have _rd_a := _rd_a.here (by decide)
  have _rl_a := _rd_a.1
  have E := Ch.refl [] w
  refine Ctr_of_W (N := 23) (vs0 := [(.slice _A_sa sa.length _C_sa)]) Try.func32 rfl rfl rfl ?_
  refine W_seq fun _K_1 _hK_1 => ?_
  refine W_region ?_
  refine WL_step rfl rfl (r_assign rfl) ?_
  refine WL_nil ?_
  refine thn_nrm (_hK_1 _ _ ?_)
  clear _hK_1
  refine W_seq fun _K_2 _hK_2 => ?_
  refine W_region ?_
  refine WL_step rfl rfl (r_move rfl) ?_
  refine WL_step rfl rfl (r_len (by rw [el23]; rfl) rfl) ?_
  refine WL_s rfl rfl ?_
  refine s_make (cs := Sv.cs) (⟨none, 0, 0⟩ : Sv) el23 sz31 by31 zr31 Sv.len (by decide) rfl rfl (by omega) (by omega) fun _v7 _w_3 _q7 _lo7 _cw_3 => ?_
  have _cw_3z := _cw_3.size
  have E := E.trans _cw_3
  obtain ⟨_Av7, _Cv7, _ev7⟩ := _q7.val
  subst _ev7
  have _lv7 := _q7.len
  have _hiv7 := _q7.lt
  refine WL_step rfl rfl (r_assign rfl) ?_
  refine WL_nil ?_
  refine thn_nrm (_hK_2 _ _ ?_)
  clear _hK_2
  refine W_seq fun _K_4 _hK_4 => ?_
  refine W_seq fun _K_5 _hK_5 => ?_
  refine W_region ?_
  refine WL_step rfl rfl (r_assign rfl) ?_
  refine WL_nil ?_
  refine thn_nrm (_hK_5 _ _ ?_)
  clear _hK_5
  refine W_block ?_
  have _oi_6 : Ol Sv.cs 31 1 _w_3 (.slice _Av7 ((List.replicate sa.length (⟨none, 0, 0⟩ : Sv))).length _Cv7) (([] : List Sv) ++ List.replicate (a.length - 0) (⟨none, 0, 0⟩ : Sv)) := by
    have hx := _q7
    simpa [_rl_a] using hx
  refine W_loop (σ := Nat × List Sv) (fun ⟨k, vs⟩ => [(0, (.slice _A_sa sa.length _C_sa)), (2, (.slice none 0 0)), (3, (.slice _Av7 ((List.replicate sa.length (⟨none, 0, 0⟩ : Sv))).length _Cv7)), (4, (.int .i64 ((k : Nat) : Int)))]) (fun ⟨k, vs⟩ wx => Ch [] w wx ∧ _w_3.heap.size ≤ wx.heap.size ∧ (k ≤ a.length) ∧ (vs.length = k) ∧ Ol Sv.cs 31 1 wx (.slice _Av7 ((List.replicate sa.length (⟨none, 0, 0⟩ : Sv))).length _Cv7) (vs ++ List.replicate (a.length - k) (⟨none, 0, 0⟩ : Sv)) ∧ Od ics 3 1 wx _w_3.heap.size wx.heap.size vs (a.take k)) (fun ⟨k, vs⟩ => a.length - k) (0, ([] : List Sv)) (Sub.cons rfl (Sub.cons rfl (Sub.cons rfl (Sub.cons rfl (Sub.nil _))))) ⟨E, (Nat.le_refl _), (by omega), rfl, _oi_6, Od.nil⟩ ?_
  rintro ⟨k, vs⟩ _wr_7 ⟨E, _zz0, _hk, hv, _o0_3, od⟩
  have _E0h := E
  have _E0hz := _E0h.size
  refine W_seq fun _K_8 _hK_8 => ?_
  refine W_seq fun _K_9 _hK_9 => ?_
  refine W_region ?_
  refine WL_step rfl rfl (r_move rfl) ?_
  refine WL_step rfl rfl (r_move rfl) ?_
  refine WL_step rfl rfl (r_len (by rw [el23]; rfl) rfl) ?_
  refine WL_step rfl rfl (r_lss rfl rfl) ?_
  refine WL_nil ?_
  refine thn_nrm (_hK_9 _ _ ?_)
  clear _hK_9
  refine W_cond rfl (fun _h11 => ?_) (fun _h11 => ?_)
  · have _kb_10 := _h11
    have _h11 := bt_d _h11
    refine W_skip ?_
    refine thn_nrm (_hK_8 _ _ ?_)
    clear _hK_8
    refine W_seq fun _K_11 _hK_11 => ?_
    refine W_block ?_
    refine W_region ?_
    refine WL_step rfl rfl (r_move rfl) ?_
    refine WL_step rfl rfl (r_move rfl) ?_
    refine WL_step rfl rfl (r_move rfl) ?_
    refine WL_step rfl rfl (r_move rfl) ?_
    refine WL_s rfl rfl ?_
    have _f_12 := (_h_sa.ch0 _E0h)
    refine (s_index _f_12 Sv.len el23 sz31 rfl rfl rfl (by omega) fun _p18 _y18 _hy18 _a18 => ?_)
    have _f_13 := (_rd_a.ch0 _E0h)
    obtain ⟨_ys18, _hys18, _fs18⟩ := _f_13.get _hy18
    obtain ⟨_A18, _n18, _C18⟩ := _y18
    obtain rfl := _fs18.eqn
    have _l18 := _fs18.len
    replace _fs18 : Ls ics 1 _wr_7 LR_a w.heap.size (.slice _A18 _ys18.length _C18) _ys18 := _fs18
    replace _a18 : At _wr_7 LL_sa w.heap.size _p18 ([(.slice _A18 _ys18.length _C18)]) := _a18
    refine WL_step rfl rfl (r_loadAt0 _a18 agg31 rfl rfl) ?_
    refine WL_s rfl rfl ?_
    refine Step.call (r_call (xs := [.tmp 19]) fk60 rfl) (c_laws_toIntS _fs18 (by have _h9 := fl_le _hys18; omega)) fun _v20 _w_14 _q20 => ?_
    obtain ⟨_q20, _lo20, _cw_14⟩ := _q20
    have _cw_14z := _cw_14.size
    have E := E.trans _cw_14
    obtain ⟨_Av20, _Cv20, _ev20⟩ := _q20.val
    subst _ev20
    have _lv20 := _q20.len
    have _hiv20 := _q20.lt
    refine WL_s rfl rfl ?_
    have _f_15 := (_o0_3.ch0 _cw_14)
    refine s_indexO (j := k) _f_15 el23 sz31 rfl rfl rfl (by simp; omega) fun _g21 _o21 _cp21 _q21 => ?_
    refine WL_s rfl rfl ?_
    refine s_storeO (j := k) (⟨_Av20, (_ys18).length, _Cv20⟩ : Sv) _f_15 _q21 Sv.len sz31 rfl rfl rfl rfl (by simp; omega) fun _w_16 _o_17 _cw_16 => ?_
    have _cw_16z := _cw_16.size
    have E := E.step _cw_16 (fun i hi => .inl (by have _h1 := _lo7 _ hi; omega))
    refine WL_nil ?_
    refine inB_nrm ?_
    refine thn_nrm (_hK_11 _ _ ?_)
    clear _hK_11
    refine W_region ?_
    refine WL_step rfl rfl (r_move rfl) ?_
    refine WL_step rfl rfl (r_add (by omega) rfl rfl) ?_
    refine WL_step rfl rfl (r_assign rfl) ?_
    refine WL_nil ?_
    have _on_18 : Ol Sv.cs 31 1 _w_16 (.slice _Av7 ((List.replicate sa.length (⟨none, 0, 0⟩ : Sv))).length _Cv7) ((vs ++ [(⟨_Av20, (_ys18).length, _Cv20⟩ : Sv)]) ++ List.replicate (a.length - (k + 1)) (⟨none, 0, 0⟩ : Sv)) := by
      have hx := _o_17
      rwa [fill_sv hv (by omega)] at hx
    have _f_19 := ((od.ch0 _cw_14).ch _cw_16 (fun i hm => by have _h1 := _lo7 _ hm; have _h2 := _hiv7 _ hm; omega))
    have _f_20 := (_q20.ch _cw_16 (fun g hg hm => by have _h1 := _lo7 _ hm; have _h2 := _hiv7 _ hm; have _h3 := _lo20 _ hg; have _h4 := _hiv20 _ hg; omega))
    exact thn_nrm (Exists.intro ((k + 1), (vs ++ [(⟨_Av20, (_ys18).length, _Cv20⟩ : Sv)])) ⟨⟨E, (by omega), (by omega), (by simp [hv]), _on_18, (by rw [take_snoc _hys18]; exact Od.snoc _f_19 _f_20 (Lo.down _lo20 (by omega)) (fun g hg => by have _h1 := _hiv20 g hg; omega) (by omega) (by omega))⟩, Sub.cons rfl (Sub.cons rfl (Sub.cons rfl (Sub.cons rfl (Sub.nil _)))), (by first | omega | (dsimp only; omega))⟩)
  · have _kb_10 := _h11
    have _h11 := bf_d _h11
    refine W_exit (thn_exit (thn_exit (inB_hit ?_)))
    refine thn_nrm (_hK_4 _ _ ?_)
    clear _hK_4
    refine W_seq fun _K_21 _hK_21 => ?_
    refine W_region ?_
    refine WL_step rfl rfl (r_move rfl) ?_
    refine WL_step rfl rfl (r_assign rfl) ?_
    refine WL_nil ?_
    refine thn_nrm (_hK_21 _ _ ?_)
    clear _hK_21
    refine W_ret ?_
    clear _hK_8
    have _o_22 : Ol Sv.cs 31 1 _wr_7 (.slice _Av7 ((List.replicate sa.length (⟨none, 0, 0⟩ : Sv))).length _Cv7) vs := by
      have hx := _o0_3
      simpa [show a.length - k = 0 by omega, show sa.length - k = 0 by omega] using hx
    have _o_23 : Od ics 3 1 _wr_7 w.heap.size _wr_7.heap.size vs (a) := by
      have hx := od.up (lo' := w.heap.size) (hi' := _wr_7.heap.size) (by omega) (by omega)
      rwa [List.take_of_length_le (by omega)] at hx
    exact ret_intro [_] ⟨rfl, trivial⟩ ⟨(.slice _Av7 ((List.replicate sa.length (⟨none, 0, 0⟩ : Sv))).length _Cv7), vs, rfl, _o_22, (Lo.down _lo7 (by omega)), _o_23, (Od.sepO od (fun g hm => by have _h1 := _lo7 _ hm; have _h2 := _hiv7 _ hm; omega)), E⟩

/-- laws.toAutomaton -/
theorem c_laws_toAutomaton {w : World} (aS : Int) {LL_aA _B_aA : Nat} {_v_aA : Value} {aA : List Bool} (_h_aA : Ls bcs 1 w LL_aA _B_aA _v_aA aA) {LL_saN _B_saN : Nat} {_v_saN : Value} {saN : List Sv} (_h_saN : Ls Sv.cs 1 w LL_saN _B_saN _v_saN saN) {LR_aN BB_aN : Nat} {aN : List (List Int)} (_rd_aN : Rd ics 1 w LR_aN BB_aN saN aN) (hb : aA.length + aN.length + aN.flatten.length ≤ 1048576) :
    Ctr Try.prog 11 #[(.agg #[(.int .i64 aS), _v_aA, _v_saN])] w (fun v w' => ∃ (u0x1 : Value) (u0x2 : Value) (vs0x2 : List Sv), v = .agg #[.int .i64 aS, u0x1, u0x2] ∧ Ol bcs 4 1 w' u0x1 (aA) ∧ Lo w.heap.size u0x1 ∧ Ol Sv.cs 31 1 w' u0x2 vs0x2 ∧ Lo w.heap.size u0x2 ∧ Od ics 3 1 w' w.heap.size w'.heap.size vs0x2 (aN) ∧ Sep u0x2 vs0x2 ∧ (∀ g ∈ bl u0x1, g ∉ bl u0x2) ∧ Sep u0x1 vs0x2 ∧ Ch [] w w') := by
  obtain ⟨_A_aA, _C_aA, _e1_aA⟩ := _h_aA.val
  subst _e1_aA
  have _l_aA := _h_aA.len
  have _h_aA := _h_aA.here (by decide)
  obtain ⟨_A_saN, _C_saN, _e1_saN⟩ := _h_saN.val
  subst _e1_saN
  have _l_saN := _h_saN.len
  have _h_saN := _h_saN.here (by decide)
  have _rd_aN := _rd_aN.here (by decide)
  have _rl_aN := _rd_aN.1
  have E := Ch.refl [] w
  refine Ctr_of_W (N := 16) (vs0 := [(.agg #[(.int .i64 aS), (.slice _A_aA aA.length _C_aA), (.slice _A_saN saN.length _C_saN)])]) Try.func11 rfl rfl rfl ?_
  refine W_seq fun _K_1 _hK_1 => ?_
  refine W_region ?_
  refine WL_s rfl rfl ?_
  refine s_box rfl fun _b1 _w_2 _m1 _cw_2 _e1 => ?_
  have _cw_2z := _cw_2.size
  have E := E.trans _cw_2
  have _z1 := _m1.lt
  replace _m1 : Blk _w_2 _b1 25 [(.int .i64 aS), (.slice _A_aA aA.length _C_aA), (.slice _A_saN saN.length _C_saN)] := _m1
  refine WL_s rfl rfl ?_
  refine s_alloc zr28 fun _b2 _w_3 _m2 _cw_3 _e2 => ?_
  have _cw_3z := _cw_3.size
  have E := E.trans _cw_3
  have _z2 := _m2.lt
  replace _m2 : Blk _w_3 _b2 28 [(.int .i64 0), (.slice none 0 0), (.slice none 0 0)] := _m2
  refine WL_nil ?_
  refine thn_nrm (_hK_1 _ _ ?_)
  clear _hK_1
  refine W_seq fun _K_4 _hK_4 => ?_
  refine W_region ?_
  refine WL_s rfl rfl ?_
  refine s_alloc zr28 fun _b3 _w_5 _m3 _cw_5 _e3 => ?_
  have _cw_5z := _cw_5.size
  have E := E.trans _cw_5
  have _z3 := _m3.lt
  replace _m3 : Blk _w_5 _b3 28 [(.int .i64 0), (.slice none 0 0), (.slice none 0 0)] := _m3
  refine WL_nil ?_
  refine thn_nrm (_hK_4 _ _ ?_)
  clear _hK_4
  refine W_seq fun _K_6 _hK_6 => ?_
  refine W_region ?_
  refine WL_step rfl rfl (r_fieldAddr fa25_0 rfl) ?_
  have _f_7 := ((_m1.ch0 _cw_3).ch0 _cw_5)
  refine WL_step rfl rfl (r_loadAt _f_7.at_ agg3 rfl rfl) ?_
  refine WL_step rfl rfl (r_fieldAddr fa28_0 rfl) ?_
  refine WL_s rfl rfl ?_
  refine s_store1 (off := 0) _m3 sz3 rfl rfl rfl rfl fun _w_8 _m_9 _cw_8 => ?_
  have _cw_8z := _cw_8.size
  have E := E.step _cw_8 (fun i hi => .inl (by have _h1 := List.mem_singleton.1 hi; omega))
  replace _m_9 : Blk _w_8 _b3 28 [(.int .i64 aS), (.slice none 0 0), (.slice none 0 0)] := _m_9
  refine WL_nil ?_
  refine thn_nrm (_hK_6 _ _ ?_)
  clear _hK_6
  refine W_seq fun _K_10 _hK_10 => ?_
  refine W_region ?_
  refine WL_step rfl rfl (r_fieldAddr fa25_1 rfl) ?_
  have _f_11 := (_f_7.ch _cw_8 (fun hm => by have _h1 := List.mem_singleton.1 hm; omega))
  refine WL_step rfl rfl (r_loadAt _f_11.at_ agg22 rfl rfl) ?_
  refine WL_s rfl rfl ?_
  have _f_12 := ((((_h_aA.ch0 _cw_2).ch0 _cw_3).ch0 _cw_5).ch _cw_8 (fun i hi => by have _h1 := List.mem_singleton.1 hi; omega))
  refine Step.call (r_call (xs := [.tmp 8]) fk31 rfl) (c_laws_toBoolS _f_12 (by omega)) fun _v9 _w_13 _q9 => ?_
  obtain ⟨_q9, _lo9, _cw_13⟩ := _q9
  have _cw_13z := _cw_13.size
  have E := E.trans _cw_13
  obtain ⟨_Av9, _Cv9, _ev9⟩ := _q9.val
  subst _ev9
  have _lv9 := _q9.len
  have _hiv9 := _q9.lt
  refine WL_step rfl rfl (r_fieldAddr fa28_1 rfl) ?_
  refine WL_s rfl rfl ?_
  have _f_14 := (_m_9.ch0 _cw_13)
  refine s_store1 (off := 1) _f_14 sz22 rfl rfl rfl rfl fun _w_15 _m_16 _cw_15 => ?_
  have _cw_15z := _cw_15.size
  have E := E.step _cw_15 (fun i hi => .inl (by have _h1 := List.mem_singleton.1 hi; omega))
  replace _m_16 : Blk _w_15 _b3 28 [(.int .i64 aS), (.slice _Av9 (aA).length _Cv9), (.slice none 0 0)] := _m_16
  refine WL_nil ?_
  refine thn_nrm (_hK_10 _ _ ?_)
  clear _hK_10
  refine W_seq fun _K_17 _hK_17 => ?_
  refine W_region ?_
  refine WL_step rfl rfl (r_fieldAddr fa25_2 rfl) ?_
  have _f_18 := ((_f_11.ch0 _cw_13).ch _cw_15 (fun hm => by have _h1 := List.mem_singleton.1 hm; omega))
  refine WL_step rfl rfl (r_loadAt _f_18.at_ agg23 rfl rfl) ?_
  refine WL_s rfl rfl ?_
  have _f_19 := ((((((_rd_aN.ch0 _cw_2).ch0 _cw_3).ch0 _cw_5).ch _cw_8 (fun i hi => by have _h1 := List.mem_singleton.1 hi; omega)).ch0 _cw_13).ch _cw_15 (fun i hi => by have _h1 := List.mem_singleton.1 hi; omega))
  have _f_20 := ((((((_h_saN.ch0 _cw_2).ch0 _cw_3).ch0 _cw_5).ch _cw_8 (fun i hi => by have _h1 := List.mem_singleton.1 hi; omega)).ch0 _cw_13).ch _cw_15 (fun i hi => by have _h1 := List.mem_singleton.1 hi; omega))
  refine Step.call (r_call (xs := [.tmp 12]) fk32 rfl) (c_laws_toIntSS _f_20 _f_19 (by omega)) fun _v13 _w_21 _q13 => ?_
  obtain ⟨u13_0, _vs13_0, rfl, _q_u13_0, _lo_u13_0, _od_vs13_0, _sep_vs13_0, _cw_21⟩ := _q13
  have _cw_21z := _cw_21.size
  have E := E.trans _cw_21
  obtain ⟨Au13_0, Cu13_0, eu13_0⟩ := _q_u13_0.val
  subst eu13_0
  have lu13_0 := _q_u13_0.len
  have _hiu13_0 := _q_u13_0.lt
  refine WL_step rfl rfl (r_fieldAddr fa28_2 rfl) ?_
  refine WL_s rfl rfl ?_
  have _f_22 := (_m_16.ch0 _cw_21)
  refine s_store1 (off := 2) _f_22 sz23 rfl rfl rfl rfl fun _w_23 _m_24 _cw_23 => ?_
  have _cw_23z := _cw_23.size
  have E := E.step _cw_23 (fun i hi => .inl (by have _h1 := List.mem_singleton.1 hi; omega))
  replace _m_24 : Blk _w_23 _b3 28 [(.int .i64 aS), (.slice _Av9 (aA).length _Cv9), (.slice Au13_0 (_vs13_0).length Cu13_0)] := _m_24
  refine WL_nil ?_
  refine thn_nrm (_hK_17 _ _ ?_)
  clear _hK_17
  refine W_seq fun _K_25 _hK_25 => ?_
  refine W_region ?_
  refine WL_step rfl rfl (r_loadAtA0 _m_24.at_ agg28 sz28 rfl) ?_
  refine WL_s rfl rfl ?_
  have _f_26 := ((((((_m2.ch0 _cw_5).ch _cw_8 (fun hm => by have _h1 := List.mem_singleton.1 hm; omega)).ch0 _cw_13).ch _cw_15 (fun hm => by have _h1 := List.mem_singleton.1 hm; omega)).ch0 _cw_21).ch _cw_23 (fun hm => by have _h1 := List.mem_singleton.1 hm; omega))
  refine s_storeA (off := 0) 3 _f_26 sz28 rfl (us := [(.int .i64 aS), (.slice _Av9 (aA).length _Cv9), (.slice Au13_0 (_vs13_0).length Cu13_0)]) rfl rfl rfl rfl fun _w_27 _m_28 _cw_27 => ?_
  have _cw_27z := _cw_27.size
  have E := E.step _cw_27 (fun i hi => .inl (by have _h1 := List.mem_singleton.1 hi; omega))
  replace _m_28 : Blk _w_27 _b2 28 [(.int .i64 aS), (.slice _Av9 (aA).length _Cv9), (.slice Au13_0 (_vs13_0).length Cu13_0)] := _m_28
  refine WL_nil ?_
  refine thn_nrm (_hK_25 _ _ ?_)
  clear _hK_25
  refine W_ret ?_
  have _f_29 := ((((_q9.ch _cw_15 (fun g hg hm => by have _h0 := List.mem_singleton.1 hm; have _h2 := _lo9 _ hg; have _h3 := _hiv9 _ hg; omega)).ch0 _cw_21).ch _cw_23 (fun g hg hm => by have _h0 := List.mem_singleton.1 hm; have _h2 := _lo9 _ hg; have _h3 := _hiv9 _ hg; omega)).ch _cw_27 (fun g hg hm => by have _h0 := List.mem_singleton.1 hm; have _h2 := _lo9 _ hg; have _h3 := _hiv9 _ hg; omega))
  have _o_30 : Ol bcs 4 1 _w_27 (.slice _Av9 (aA).length _Cv9) (aA) := by
    have hx := _f_29
    first | exact hx | simpa using hx
  have _f_33 := ((_q_u13_0.ch _cw_23 (fun g hg hm => by have _h0 := List.mem_singleton.1 hm; have _h2 := _lo_u13_0 _ hg; have _h3 := _hiu13_0 _ hg; omega)).ch _cw_27 (fun g hg hm => by have _h0 := List.mem_singleton.1 hm; have _h2 := _lo_u13_0 _ hg; have _h3 := _hiu13_0 _ hg; omega))
  have _f_34 := ((_od_vs13_0.ch _cw_23 (fun i hi => by have _h1 := List.mem_singleton.1 hi; omega)).ch _cw_27 (fun i hi => by have _h1 := List.mem_singleton.1 hi; omega))
  have _o_31 : Ol Sv.cs 31 1 _w_27 (.slice Au13_0 (_vs13_0).length Cu13_0) _vs13_0 := by
    have hx := _f_33
    exact hx
  have _o_32 : Od ics 3 1 _w_27 w.heap.size _w_27.heap.size _vs13_0 (aN) := by
    have hx := _f_34.up (lo' := w.heap.size) (hi' := _w_27.heap.size) (by omega) (by omega)
    exact hx
  exact ret_intro [_] (resOf_loadA _m_28 rfl agg28 sz28 trivial) ⟨(.slice _Av9 (aA).length _Cv9), (.slice Au13_0 (_vs13_0).length Cu13_0), _vs13_0, (congrArg (fun zq => (Value.agg #[.int .i64 zq, (.slice _Av9 (aA).length _Cv9), (.slice Au13_0 (_vs13_0).length Cu13_0)])) (by first | rfl | simp_all)), _o_30, (Lo.down _lo9 (by omega)), _o_31, (Lo.down _lo_u13_0 (by omega)), _o_32, _sep_vs13_0, (fun g hm hg => by have _h1 := _lo9 _ hm; have _h2 := _hiv9 _ hm; have _h3 := _lo_u13_0 _ hg; have _h4 := _hiu13_0 _ hg; omega), (Od.sepO _f_34 (fun g hm => by have _h1 := _lo9 _ hm; have _h2 := _hiv9 _ hm; omega)), E⟩

/-- spec.l1In -/
theorem c_spec_l1In {w : World} (n : Int) (a : Int) (b : Int) :
    Ctr Try.prog 43 #[(.int .i64 n), (.int .i64 a), (.int .i64 b)] w (fun v w' => v = .bool (decide (a ≤ n ∧ n ≤ b)) ∧ Ch [] w w') := by
  have E := Ch.refl [] w
  refine Ctr_of_W (N := 15) (vs0 := [(.int .i64 n), (.int .i64 a), (.int .i64 b)]) Try.func43 rfl rfl rfl ?_
  refine W_seq fun _K_1 _hK_1 => ?_
  refine W_region ?_
  refine WL_step rfl rfl (r_assign rfl) ?_
  refine WL_nil ?_
  refine thn_nrm (_hK_1 _ _ ?_)
  clear _hK_1
  refine W_seq fun _K_2 _hK_2 => ?_
  refine W_region ?_
  refine WL_step rfl rfl (r_move rfl) ?_
  refine WL_step rfl rfl (r_move rfl) ?_
  refine WL_step rfl rfl (r_geq rfl rfl) ?_
  refine WL_step rfl rfl (r_move rfl) ?_
  refine WL_split (d := 10) rfl (fun _h10 => ?_) (fun _h10 => ?_)
  · have _kb_3 := _h10
    have _h10 := bt_d _h10
    refine WL_step rfl rfl (r_move rfl) ?_
    refine WL_step rfl rfl (r_move rfl) ?_
    refine WL_step rfl rfl (r_leq rfl rfl) ?_
    refine WL_step rfl rfl (r_pickT rfl rfl) ?_
    refine WL_step rfl rfl (r_assign rfl) ?_
    refine WL_nil ?_
    refine thn_nrm (_hK_2 _ _ ?_)
    clear _hK_2
    refine W_ret ?_
    exact ret_intro [_] ⟨rfl, trivial⟩ ⟨congrArg Value.bool (by first | rfl | (rw [Bool.eq_iff_iff]; simp <;> omega) | (rw [Bool.eq_iff_iff]; simp_all; done) | simp_all), E⟩
  · have _kb_3 := _h10
    have _h10 := bf_d _h10
    refine WL_skip rfl rfl ?_
    refine WL_skip rfl rfl ?_
    refine WL_skip rfl rfl ?_
    refine WL_step rfl rfl (r_pickF rfl rfl) ?_
    refine WL_step rfl rfl (r_assign rfl) ?_
    refine WL_nil ?_
    refine thn_nrm (_hK_2 _ _ ?_)
    clear _hK_2
    refine W_ret ?_
    exact ret_intro [_] ⟨rfl, trivial⟩ ⟨congrArg Value.bool (by first | rfl | (rw [Bool.eq_iff_iff]; simp <;> omega) | (rw [Bool.eq_iff_iff]; simp_all; done) | simp_all), E⟩

/-- spec.l11Fits -/
theorem c_spec_l11Fits {w : World} (aS : Int) {LL_aA _B_aA : Nat} {_v_aA : Value} {aA : List Bool} (_h_aA : Ls bcs 1 w LL_aA _B_aA _v_aA aA) {LL_saN _B_saN : Nat} {_v_saN : Value} {saN : List Sv} (_h_saN : Ls Sv.cs 1 w LL_saN _B_saN _v_saN saN) {LR_aN BB_aN : Nat} {aN : List (List Int)} (_rd_aN : Rd ics 1 w LR_aN BB_aN saN aN) :
    Ctr Try.prog 59 #[(.agg #[(.int .i64 aS), _v_aA, _v_saN])] w (fun v w' => v = .bool (tt (FitsA aS aA aN)) ∧ Ch [] w w') := by
  obtain ⟨_A_aA, _C_aA, _e1_aA⟩ := _h_aA.val
  subst _e1_aA
  have _l_aA := _h_aA.len
  have _h_aA := _h_aA.here (by decide)
  obtain ⟨_A_saN, _C_saN, _e1_saN⟩ := _h_saN.val
  subst _e1_saN
  have _l_saN := _h_saN.len
  have _h_saN := _h_saN.here (by decide)
  have _rd_aN := _rd_aN.here (by decide)
  have _rl_aN := _rd_aN.1
  have E := Ch.refl [] w
  refine Ctr_of_W (N := 50) (vs0 := [(.agg #[(.int .i64 aS), (.slice _A_aA aA.length _C_aA), (.slice _A_saN saN.length _C_saN)])]) Try.func59 rfl rfl rfl ?_
  refine W_seq fun _K_1 _hK_1 => ?_
  refine W_region ?_
  refine WL_s rfl rfl ?_
  refine s_box rfl fun _b1 _w_2 _m1 _cw_2 _e1 => ?_
  have _cw_2z := _cw_2.size
  have E := E.trans _cw_2
  have _z1 := _m1.lt
  replace _m1 : Blk _w_2 _b1 28 [(.int .i64 aS), (.slice _A_aA aA.length _C_aA), (.slice _A_saN saN.length _C_saN)] := _m1
  refine WL_step rfl rfl (r_assign rfl) ?_
  refine WL_nil ?_
  refine thn_nrm (_hK_1 _ _ ?_)
  clear _hK_1
  refine W_seq fun _K_3 _hK_3 => ?_
  refine W_region ?_
  refine WL_step rfl rfl (r_fieldAddr fa28_1 rfl) ?_
  refine WL_step rfl rfl (r_loadAt _m1.at_ agg22 rfl rfl) ?_
  refine WL_step rfl rfl (r_len (by rw [el22]; rfl) rfl) ?_
  refine WL_step rfl rfl (r_assign rfl) ?_
  refine WL_nil ?_
  refine thn_nrm (_hK_3 _ _ ?_)
  clear _hK_3
  refine W_seq fun _K_4 _hK_4 => ?_
  refine W_seq fun _K_5 _hK_5 => ?_
  refine W_region ?_
  refine WL_step rfl rfl (r_fieldAddr fa28_0 rfl) ?_
  refine WL_step rfl rfl (r_loadAt _m1.at_ agg3 rfl rfl) ?_
  refine WL_step rfl rfl (r_move rfl) ?_
  refine WL_step rfl rfl (r_sub (by omega) rfl rfl) ?_
  refine WL_s rfl rfl ?_
  refine Step.call (r_call (xs := [.tmp 10, .const (Go.Value.int Go.IntKind.i64 0), .tmp 12]) fk43 rfl) (c_spec_l1In _ _ _ ) fun _v13 _w_6 _q13 => ?_
  obtain ⟨rfl, _cw_6⟩ := _q13
  have _cw_6z := _cw_6.size
  have E := E.trans _cw_6
  refine WL_step rfl rfl (r_not rfl) ?_
  refine WL_step rfl rfl (r_move rfl) ?_
  refine WL_split (d := 15) rfl (fun _h15 => ?_) (fun _h15 => ?_)
  · have _kb_7 := _h15
    have _h15 := bf_d (bt_n _h15)
    refine WL_skip rfl rfl ?_
    refine WL_skip rfl rfl ?_
    refine WL_skip rfl rfl ?_
    refine WL_skip rfl rfl ?_
    refine WL_skip rfl rfl ?_
    refine WL_step rfl rfl (r_pickT rfl rfl) ?_
    refine WL_nil ?_
    refine thn_nrm (_hK_5 _ _ ?_)
    clear _hK_5
    refine W_condT rfl ?_
    refine W_seq fun _K_8 _hK_8 => ?_
    refine W_region ?_
    refine WL_step rfl rfl (r_assign rfl) ?_
    refine WL_nil ?_
    refine thn_nrm (_hK_8 _ _ ?_)
    clear _hK_8
    refine W_ret (thn_ret ?_)
    clear _hK_4
    exact ret_intro [_] ⟨rfl, trivial⟩ ⟨congrArg Value.bool (by first | exact tt_true ⟨_h15, by omega, rows_all _ht (by omega)⟩ | exact tt_false (fun e => _h15 e.1) | exact tt_false (fun e => _h21 (by have _h1 := e.2.1; omega)) | exact tt_false (fun e => _h49 (fits_el e _hys41 _hy44)) | exact tt_false (fun e => _h33 (by have _h1 := (fits_row e _hys30).1; omega))), E⟩
  · have _kb_7 := _h15
    have _h15 := bt_d (bf_n _h15)
    refine WL_step rfl rfl (r_fieldAddr fa28_2 rfl) ?_
    have _f_9 := (_m1.ch0 _cw_6)
    refine WL_step rfl rfl (r_loadAt _f_9.at_ agg23 rfl rfl) ?_
    refine WL_step rfl rfl (r_len (by rw [el23]; rfl) rfl) ?_
    refine WL_step rfl rfl (r_move rfl) ?_
    refine WL_step rfl rfl (r_neq rfl rfl) ?_
    refine WL_step rfl rfl (r_pickF rfl rfl) ?_
    refine WL_nil ?_
    refine thn_nrm (_hK_5 _ _ ?_)
    clear _hK_5
    refine W_cond rfl (fun _h21 => ?_) (fun _h21 => ?_)
    · have _kb_10 := _h21
      have _h21 := bf_d (bt_n _h21)
      refine W_seq fun _K_11 _hK_11 => ?_
      refine W_region ?_
      refine WL_step rfl rfl (r_assign rfl) ?_
      refine WL_nil ?_
      refine thn_nrm (_hK_11 _ _ ?_)
      clear _hK_11
      refine W_ret (thn_ret ?_)
      clear _hK_4
      exact ret_intro [_] ⟨rfl, trivial⟩ ⟨congrArg Value.bool (by first | exact tt_true ⟨_h15, by omega, rows_all _ht (by omega)⟩ | exact tt_false (fun e => _h15 e.1) | exact tt_false (fun e => _h21 (by have _h1 := e.2.1; omega)) | exact tt_false (fun e => _h49 (fits_el e _hys41 _hy44)) | exact tt_false (fun e => _h33 (by have _h1 := (fits_row e _hys30).1; omega))), E⟩
    · have _kb_10 := _h21
      have _h21 := bt_d (bf_n _h21)
      refine W_skip ?_
      refine thn_nrm (_hK_4 _ _ ?_)
      clear _hK_4
      refine W_seq fun _K_12 _hK_12 => ?_
      refine W_seq fun _K_13 _hK_13 => ?_
      refine W_region ?_
      refine WL_step rfl rfl (r_assign rfl) ?_
      refine WL_nil ?_
      refine thn_nrm (_hK_13 _ _ ?_)
      clear _hK_13
      refine W_block ?_
      refine W_loop (σ := Nat) (fun (s : Nat) => [(1, (.pointer (some ⟨_b1, 0, none⟩))), (3, (.int .i64 ((aA.length : Nat) : Int))), (4, (.int .i64 ((s : Nat) : Int)))]) (fun (s : Nat) wx => Ch [] w wx ∧ _w_6.heap.size ≤ wx.heap.size ∧ (s ≤ aN.length) ∧ (RowsP aA.length aN s) ∧ Blk wx _b1 28 [(.int .i64 aS), (.slice _A_aA aA.length _C_aA), (.slice _A_saN saN.length _C_saN)]) (fun (s : Nat) => aN.length - s) 0 (Sub.cons rfl (Sub.cons rfl (Sub.cons rfl (Sub.nil _)))) ⟨E, (Nat.le_refl _), (by omega), (rows_zero _ _), _f_9⟩ ?_
      rintro s _wr_14 ⟨E, _zz0, hs, _ht, _F0_0⟩
      have _E0h := E
      have _E0hz := _E0h.size
      have _F0_0z := _F0_0.lt
      refine W_seq fun _K_15 _hK_15 => ?_
      refine W_seq fun _K_16 _hK_16 => ?_
      refine W_region ?_
      refine WL_step rfl rfl (r_move rfl) ?_
      refine WL_step rfl rfl (r_move rfl) ?_
      refine WL_step rfl rfl (r_lss rfl rfl) ?_
      refine WL_nil ?_
      refine thn_nrm (_hK_16 _ _ ?_)
      clear _hK_16
      refine W_cond rfl (fun _h24 => ?_) (fun _h24 => ?_)
      · have _kb_17 := _h24
        have _h24 := bt_d _h24
        refine W_skip ?_
        refine thn_nrm (_hK_15 _ _ ?_)
        clear _hK_15
        refine W_seq fun _K_18 _hK_18 => ?_
        refine W_block ?_
        refine W_seq fun _K_19 _hK_19 => ?_
        refine W_seq fun _K_20 _hK_20 => ?_
        refine W_region ?_
        refine WL_step rfl rfl (r_fieldAddr fa28_2 rfl) ?_
        refine WL_step rfl rfl (r_loadAt _F0_0.at_ agg23 rfl rfl) ?_
        refine WL_step rfl rfl (r_move rfl) ?_
        refine WL_s rfl rfl ?_
        have _f_21 := (_h_saN.ch0 _E0h)
        refine (s_index _f_21 Sv.len el23 sz31 rfl rfl rfl (by omega) fun _p30 _y30 _hy30 _a30 => ?_)
        have _f_22 := (_rd_aN.ch0 _E0h)
        obtain ⟨_ys30, _hys30, _fs30⟩ := _f_22.get _hy30
        obtain ⟨_A30, _n30, _C30⟩ := _y30
        obtain rfl := _fs30.eqn
        have _l30 := _fs30.len
        replace _fs30 : Ls ics 1 _wr_14 LR_aN w.heap.size (.slice _A30 _ys30.length _C30) _ys30 := _fs30
        replace _a30 : At _wr_14 LL_saN w.heap.size _p30 ([(.slice _A30 _ys30.length _C30)]) := _a30
        refine WL_step rfl rfl (r_loadAt0 _a30 agg31 rfl rfl) ?_
        refine WL_step rfl rfl (r_len (by rw [el31]; rfl) rfl) ?_
        refine WL_step rfl rfl (r_neq rfl rfl) ?_
        refine WL_nil ?_
        refine thn_nrm (_hK_20 _ _ ?_)
        clear _hK_20
        refine W_cond rfl (fun _h33 => ?_) (fun _h33 => ?_)
        · have _kb_23 := _h33
          have _h33 := bf_d (bt_n _h33)
          refine W_seq fun _K_24 _hK_24 => ?_
          refine W_region ?_
          refine WL_step rfl rfl (r_assign rfl) ?_
          refine WL_nil ?_
          refine thn_nrm (_hK_24 _ _ ?_)
          clear _hK_24
          refine W_ret (thn_ret (inB_ret (thn_ret (thn_ret (inB_ret (thn_ret ?_))))))
          clear _hK_12 _hK_18 _hK_19
          exact ret_intro [_] ⟨rfl, trivial⟩ ⟨congrArg Value.bool (by first | exact tt_true ⟨_h15, by omega, rows_all _ht (by omega)⟩ | exact tt_false (fun e => _h15 e.1) | exact tt_false (fun e => _h21 (by have _h1 := e.2.1; omega)) | exact tt_false (fun e => _h49 (fits_el e _hys41 _hy44)) | exact tt_false (fun e => _h33 (by have _h1 := (fits_row e _hys30).1; omega))), E⟩
        · have _kb_23 := _h33
          have _h33 := bt_d (bf_n _h33)
          refine W_skip ?_
          refine thn_nrm (_hK_19 _ _ ?_)
          clear _hK_19
          refine W_seq fun _K_25 _hK_25 => ?_
          refine W_region ?_
          refine WL_step rfl rfl (r_assign rfl) ?_
          refine WL_nil ?_
          refine thn_nrm (_hK_25 _ _ ?_)
          clear _hK_25
          refine W_block ?_
          refine W_loop (σ := Nat) (fun (k : Nat) => [(1, (.pointer (some ⟨_b1, 0, none⟩))), (3, (.int .i64 ((aA.length : Nat) : Int))), (4, (.int .i64 ((s : Nat) : Int))), (5, (.int .i64 ((k : Nat) : Int))), (22, (.int .i64 ((s : Nat) : Int))), (23, (.int .i64 ((aA.length : Nat) : Int))), (24, (.bool (decide (((s : Nat) : Int) < ((aA.length : Nat) : Int))))), (27, (.pointer (some (Addr.add ⟨_b1, 0, none⟩ 2)))), (28, (.slice _A_saN saN.length _C_saN)), (29, (.int .i64 ((s : Nat) : Int))), (30, (.pointer (some _p30))), (31, (.slice _A30 _ys30.length _C30)), (32, (.int .i64 ((_ys30.length : Nat) : Int))), (33, (.bool (!decide (((_ys30.length : Nat) : Int) = 9))))]) (fun (k : Nat) wx => Ch [] w wx ∧ _wr_14.heap.size ≤ wx.heap.size ∧ (k ≤ 9) ∧ (RowP aA.length _ys30 k) ∧ Blk wx _b1 28 [(.int .i64 aS), (.slice _A_aA aA.length _C_aA), (.slice _A_saN saN.length _C_saN)] ∧ Ls Sv.cs 1 wx LL_saN w.heap.size (.slice _A_saN saN.length _C_saN) saN ∧ Rd ics 1 wx LR_aN w.heap.size saN aN ∧ At wx LL_saN w.heap.size _p30 ([(.slice _A30 _ys30.length _C30)]) ∧ Ls ics 1 wx LR_aN w.heap.size (.slice _A30 _ys30.length _C30) _ys30) (fun (k : Nat) => 9 - k) 0 (Sub.cons rfl (Sub.cons rfl (Sub.cons rfl (Sub.cons rfl (Sub.cons rfl (Sub.cons rfl (Sub.cons rfl (Sub.cons rfl (Sub.cons rfl (Sub.cons rfl (Sub.cons rfl (Sub.cons rfl (Sub.cons rfl (Sub.cons rfl (Sub.nil _))))))))))))))) ⟨E, (Nat.le_refl _), (by omega), (rowp_zero _ _), _F0_0, _f_21, _f_22, _a30, _fs30⟩ ?_
          rintro k _wr_26 ⟨E, _zz1, _hk, hp, _F1_0, _F1_2, _F1_3, _F1_4, _F1_5⟩
          have _E1h := E
          have _E1hz := _E1h.size
          have _F1_0z := _F1_0.lt
          refine W_seq fun _K_27 _hK_27 => ?_
          refine W_seq fun _K_28 _hK_28 => ?_
          refine W_region ?_
          refine WL_step rfl rfl (r_move rfl) ?_
          refine WL_step rfl rfl (r_lss rfl rfl) ?_
          refine WL_nil ?_
          refine thn_nrm (_hK_28 _ _ ?_)
          clear _hK_28
          refine W_cond rfl (fun _h35 => ?_) (fun _h35 => ?_)
          · have _kb_29 := _h35
            have _h35 := bt_d _h35
            refine W_skip ?_
            refine thn_nrm (_hK_27 _ _ ?_)
            clear _hK_27
            refine W_seq fun _K_30 _hK_30 => ?_
            refine W_block ?_
            refine W_seq fun _K_31 _hK_31 => ?_
            refine W_region ?_
            refine WL_step rfl rfl (r_fieldAddr fa28_2 rfl) ?_
            refine WL_step rfl rfl (r_loadAt _F1_0.at_ agg23 rfl rfl) ?_
            refine WL_step rfl rfl (r_move rfl) ?_
            refine WL_s rfl rfl ?_
            refine (s_index _F1_2 Sv.len el23 sz31 rfl rfl rfl (by omega) fun _p41 _y41 _hy41 _a41 => ?_)
            obtain ⟨_ys41, _hys41, _fs41⟩ := _F1_3.get _hy41
            obtain ⟨_A41, _n41, _C41⟩ := _y41
            obtain rfl := _fs41.eqn
            have _l41 := _fs41.len
            replace _fs41 : Ls ics 1 _wr_26 LR_aN w.heap.size (.slice _A41 _ys41.length _C41) _ys41 := _fs41
            replace _a41 : At _wr_26 LL_saN w.heap.size _p41 ([(.slice _A41 _ys41.length _C41)]) := _a41
            have _e41 := congrArg List.length (get_uniq _hys30 _hys41)
            refine WL_step rfl rfl (r_loadAt0 _a41 agg31 rfl rfl) ?_
            refine WL_step rfl rfl (r_move rfl) ?_
            refine WL_s rfl rfl ?_
            refine (s_index _fs41 ics_len el31 sz3 rfl rfl rfl (by omega) fun _p44 _y44 _hy44 _a44 => ?_)
            refine WL_step rfl rfl (r_loadAt0 _a44 agg3 rfl rfl) ?_
            refine WL_step rfl rfl (r_move rfl) ?_
            refine WL_step rfl rfl (r_sub (by omega) rfl rfl) ?_
            refine WL_s rfl rfl ?_
            refine Step.call (r_call (xs := [.tmp 45, .const (Go.Value.int Go.IntKind.i64 (-1)), .tmp 47]) fk43 rfl) (c_spec_l1In _ _ _ ) fun _v48 _w_32 _q48 => ?_
            obtain ⟨rfl, _cw_32⟩ := _q48
            have _cw_32z := _cw_32.size
            have E := E.trans _cw_32
            refine WL_step rfl rfl (r_not rfl) ?_
            refine WL_nil ?_
            refine thn_nrm (_hK_31 _ _ ?_)
            clear _hK_31
            refine W_cond rfl (fun _h49 => ?_) (fun _h49 => ?_)
            · have _kb_33 := _h49
              have _h49 := bf_d (bt_n _h49)
              refine W_seq fun _K_34 _hK_34 => ?_
              refine W_region ?_
              refine WL_step rfl rfl (r_assign rfl) ?_
              refine WL_nil ?_
              refine thn_nrm (_hK_34 _ _ ?_)
              clear _hK_34
              refine W_ret (inB_ret (thn_ret (thn_ret (inB_ret (inB_ret (thn_ret (thn_ret (inB_ret (thn_ret ?_)))))))))
              clear _hK_12 _hK_18 _hK_30
              exact ret_intro [_] ⟨rfl, trivial⟩ ⟨congrArg Value.bool (by first | exact tt_true ⟨_h15, by omega, rows_all _ht (by omega)⟩ | exact tt_false (fun e => _h15 e.1) | exact tt_false (fun e => _h21 (by have _h1 := e.2.1; omega)) | exact tt_false (fun e => _h49 (fits_el e _hys41 _hy44)) | exact tt_false (fun e => _h33 (by have _h1 := (fits_row e _hys30).1; omega))), E⟩
            · have _kb_33 := _h49
              have _h49 := bt_d (bf_n _h49)
              refine W_skip ?_
              refine inB_nrm ?_
              refine thn_nrm (_hK_30 _ _ ?_)
              clear _hK_30
              refine W_region ?_
              refine WL_step rfl rfl (r_move rfl) ?_
              refine WL_step rfl rfl (r_add (by omega) rfl rfl) ?_
              refine WL_step rfl rfl (r_assign rfl) ?_
              refine WL_nil ?_
              have _f_35 := (_F1_0.ch0 _cw_32)
              have _f_36 := (_F1_2.ch0 _cw_32)
              have _f_37 := (_F1_3.ch0 _cw_32)
              have _f_38 := (_F1_4.ch0 _cw_32)
              have _f_39 := (_F1_5.ch0 _cw_32)
              exact thn_nrm (Exists.intro (k + 1) ⟨⟨E, (by omega), (by omega), (rowp_step hp (get_uniq _hys41 _hys30 ▸ _hy44) _h49), _f_35, _f_36, _f_37, _f_38, _f_39⟩, Sub.cons rfl (Sub.cons rfl (Sub.cons rfl (Sub.cons rfl (Sub.cons rfl (Sub.cons rfl (Sub.cons rfl (Sub.cons rfl (Sub.cons rfl (Sub.cons rfl (Sub.cons rfl (Sub.cons rfl (Sub.cons rfl (Sub.cons rfl (Sub.nil _)))))))))))))), (by first | omega | (dsimp only; omega))⟩)
          · have _kb_29 := _h35
            have _h35 := bf_d _h35
            refine W_exit (thn_exit (thn_exit (inB_hit ?_)))
            refine inB_nrm ?_
            refine thn_nrm (_hK_18 _ _ ?_)
            clear _hK_18
            refine W_region ?_
            refine WL_step rfl rfl (r_move rfl) ?_
            refine WL_step rfl rfl (r_add (by omega) rfl rfl) ?_
            refine WL_step rfl rfl (r_assign rfl) ?_
            refine WL_nil ?_
            exact thn_nrm (Exists.intro (s + 1) ⟨⟨E, (by omega), (by omega), (rows_step _ht _hys30 ⟨by omega, rowp_all hp (by omega)⟩), _F1_0⟩, Sub.cons rfl (Sub.cons rfl (Sub.cons rfl (Sub.nil _))), (by first | omega | (dsimp only; omega))⟩)
      · have _kb_17 := _h24
        have _h24 := bf_d _h24
        refine W_exit (thn_exit (thn_exit (inB_hit ?_)))
        refine thn_nrm (_hK_12 _ _ ?_)
        clear _hK_12
        refine W_seq fun _K_40 _hK_40 => ?_
        refine W_region ?_
        refine WL_step rfl rfl (r_assign rfl) ?_
        refine WL_nil ?_
        refine thn_nrm (_hK_40 _ _ ?_)
        clear _hK_40
        refine W_ret ?_
        clear _hK_15
        exact ret_intro [_] ⟨rfl, trivial⟩ ⟨congrArg Value.bool (by first | exact tt_true ⟨_h15, by omega, rows_all _ht (by omega)⟩ | exact tt_false (fun e => _h15 e.1) | exact tt_false (fun e => _h21 (by have _h1 := e.2.1; omega)) | exact tt_false (fun e => _h49 (fits_el e _hys41 _hy44)) | exact tt_false (fun e => _h33 (by have _h1 := (fits_row e _hys30).1; omega))), E⟩

end Go.Proofs.Ytliecidadhlieaa
