/- Walks of functions that FnExactBuildPositions reaches: what each returns, and that it leaves the memory that was there alone. -/
import Derived.Test.YthcoliemlekojaaKF
import Derived.Test.YthcoliemlekojaaKG
import Derived.Test.YthcoliemlekojaaKH
import Derived.Test.YthcoliemlekojaaKI
import Derived.Test.YthcoliemlekojaaKJ
import Derived.Test.YthcoliemlekojaaKM
import Derived.Test.YthcoliemlekojaaKN
import Derived.Test.YthcoliemlekojaaKO
import Derived.Test.YthcoliemlekojaaKP
import Derived.Test.YthcoliemlekojaaKQ
import Derived.Test.YthcoliemlekojaaKR
import Derived.Test.YthcoliemlekojaaKS
import Derived.Test.YthcoliemlekojaaKT
import Derived.Test.YthcoliemlekojaaKU
import Derived.Test.YthcoliemlekojaaKV
import Derived.Test.YthcoliemlekojaaKX
import Derived.Test.YthcoliemlekojaaKY
import Derived.Test.YthcoliemlekojaaKZ
import Derived.Test.YthcoliemlekojaaJA
import Derived.Test.YthcoliemlekojaaJB
import Derived.Test.YthcoliemlekojaaJC
import Derived.Test.YthcoliemlekojaaJD
import Derived.Test.YthcoliemlekojaaJE
import Derived.Test.YthcoliemlekojaaJF
import Derived.Test.YthcoliemlekojaaJG
import Derived.Test.YthcoliemlekojaaJH
import Derived.Test.YthcoliemlekojaaJI
import Derived.Test.YthcoliemlekojaaJK
import Derived.Test.YthcoliemlekojaaJM
import Derived.Test.YthcoliemlekojaaJN
import Derived.Test.YthcoliemlekojaaJO
import Derived.Test.YthcoliemlekojaaJP
import Derived.Test.YthcoliemlekojaaJQ
import Derived.Test.YthcoliemlekojaaJR
import Derived.Test.YthcoliemlekojaaJS
import Derived.Test.YthcoliemlekojaaJT
import Derived.Test.YthcoliemlekojaaJU
import Derived.Test.YthcoliemlekojaaJV
import Derived.Test.YthcoliemlekojaaProg
namespace Go.Proofs.Ythcoliemlekojaa
open Go.KLib Go.Shelf
set_option maxHeartbeats 1000000
set_option maxRecDepth 20000
set_option linter.unusedVariables false
set_option linter.unusedSimpArgs false
namespace TExactBuildPositions
theorem agg25 : aggB Try.prog 25 = some false := by kernel_rfl
theorem agg28 : aggB Try.prog 28 = some false := by kernel_rfl
theorem agg3 : aggB Try.prog 3 = some false := by kernel_rfl
theorem agg30 : aggB Try.prog 30 = some true := by kernel_rfl
theorem agg49 : aggB Try.prog 49 = some false := by kernel_rfl
theorem agg55 : aggB Try.prog 55 = some true := by kernel_rfl
theorem agg74 : aggB Try.prog 74 = some false := by kernel_rfl
theorem by49 : bytesB Try.prog 49 = some 8 := by kernel_rfl
theorem by55 : bytesB Try.prog 55 = some 32 := by kernel_rfl
theorem el25 : elB Try.prog 25 = some 3 := by kernel_rfl
theorem el28 : elB Try.prog 28 = some 55 := by kernel_rfl
theorem el74 : elB Try.prog 74 = some 49 := by kernel_rfl
theorem fa30_0 : faB Try.prog 30 0 = some 0 := by kernel_rfl
theorem fa37_3 : faB Try.prog 37 3 = some 3 := by kernel_rfl
theorem fa55_0 : faB Try.prog 55 0 = some 0 := by kernel_rfl
theorem fa55_1 : faB Try.prog 55 1 = some 1 := by kernel_rfl
theorem fa55_2 : faB Try.prog 55 2 = some 2 := by kernel_rfl
theorem fa55_3 : faB Try.prog 55 3 = some 3 := by kernel_rfl
theorem fa78_0 : faB Try.prog 78 0 = some 0 := by kernel_rfl
theorem fa78_1 : faB Try.prog 78 1 = some 4 := by kernel_rfl
theorem fk23 : fnB Try.prog 23 = true := by kernel_rfl
theorem fk25 : fnB Try.prog 25 = true := by kernel_rfl
theorem fk42 : fnB Try.prog 42 = true := by kernel_rfl
theorem fk43 : fnB Try.prog 43 = true := by kernel_rfl
theorem fk44 : fnB Try.prog 44 = true := by kernel_rfl
theorem fk45 : fnB Try.prog 45 = true := by kernel_rfl
theorem fk52 : fnB Try.prog 52 = true := by kernel_rfl
theorem fk53 : fnB Try.prog 53 = true := by kernel_rfl
theorem fk54 : fnB Try.prog 54 = true := by kernel_rfl
theorem fk58 : fnB Try.prog 58 = true := by kernel_rfl
theorem fk64 : fnB Try.prog 64 = true := by kernel_rfl
theorem fk65 : fnB Try.prog 65 = true := by kernel_rfl
theorem fk68 : fnB Try.prog 68 = true := by kernel_rfl
theorem ist55 : intStructB Try.prog 55 4 = true := by kernel_rfl
theorem mixed : Try.prog.follows .mixedOrders = true := by kernel_rfl
theorem pl30 : placesB Try.prog 30 = some [(0, 1)] := by kernel_rfl
theorem pl55 : placesB Try.prog 55 = some [(0, 1), (1, 1), (2, 1), (3, 1)] := by kernel_rfl
theorem pl78 : placesB Try.prog 78 = some [(0, 4), (4, 1)] := by kernel_rfl
theorem ptr49 : ptrB Try.prog 49 = true := by kernel_rfl
theorem sz28 : sizeB Try.prog 28 = some 1 := by kernel_rfl
theorem sz3 : sizeB Try.prog 3 = some 1 := by kernel_rfl
theorem sz30 : sizeB Try.prog 30 = some 1 := by kernel_rfl
theorem sz49 : sizeB Try.prog 49 = some 1 := by kernel_rfl
theorem sz55 : sizeB Try.prog 55 = some 4 := by kernel_rfl
theorem sz74 : sizeB Try.prog 74 = some 1 := by kernel_rfl
theorem zr30 : zeroB Try.prog 30 = some (.agg #[.slice none 0 0]) := by kernel_rfl
theorem zr49 : zeroB Try.prog 49 = some (.pointer none) := by kernel_rfl
theorem zr55 : zeroB Try.prog 55 = some (.agg #[.int .i64 0, .int .i64 0, .int .i64 0, .int .i64 0]) := by kernel_rfl
theorem zr78 : zeroB Try.prog 78 = some (.agg #[.int .i64 0, .int .i64 0, .int .i64 0, .int .i64 0, .slice none 0 0]) := by kernel_rfl
end TExactBuildPositions
open TExactBuildPositions

/-- impl.within -/
theorem c_impl_within {w : World} (n : Int) (a : Int) (b : Int) :
    Ctr Try.prog 58 #[(.int .i64 n), (.int .i64 a), (.int .i64 b)] w (fun v w' => v = .bool (decide (a ≤ n ∧ n ≤ b)) ∧ Ch [] w w') := by
  have E := Ch.refl [] w
  refine Ctr_of_W (N := 15) (vs0 := [(.int .i64 n), (.int .i64 a), (.int .i64 b)]) Try.func58 rfl rfl rfl ?_
  refine W_seq fun _K_1 _hK_1 => ?_
  refine W_region ?_
  refine WL_step rfl rfl (r_assign rfl) ?_
  refine WL_nil ?_
  refine thn_nrm (_hK_1 _ _ ?_)
  clear _hK_1
  refine W_seq fun _K_2 _hK_2 => ?_
  refine W_region ?_
  refine WL_step rfl rfl (r_move rfl) ?_
  refine WL_step rfl rfl (r_move rfl) ?_
  refine WL_step rfl rfl (r_geq rfl rfl) ?_
  refine WL_step rfl rfl (r_move rfl) ?_
  refine WL_split (d := 10) rfl (fun _h10 => ?_) (fun _h10 => ?_)
  · have _kb_3 := _h10
    have _h10 := bt_d _h10
    refine WL_step rfl rfl (r_move rfl) ?_
    refine WL_step rfl rfl (r_move rfl) ?_
    refine WL_step rfl rfl (r_leq rfl rfl) ?_
    refine WL_step rfl rfl (r_pickT rfl rfl) ?_
    refine WL_step rfl rfl (r_assign rfl) ?_
    refine WL_nil ?_
    refine thn_nrm (_hK_2 _ _ ?_)
    clear _hK_2
    refine W_ret ?_
    exact ret_intro [_] ⟨rfl, trivial⟩ ⟨congrArg Value.bool (by first | rfl | (rw [Bool.eq_iff_iff]; simp <;> omega) | (rw [Bool.eq_iff_iff]; simp_all; done) | simp_all), E⟩
  · have _kb_3 := _h10
    have _h10 := bf_d _h10
    refine WL_skip rfl rfl ?_
    refine WL_skip rfl rfl ?_
    refine WL_skip rfl rfl ?_
    refine WL_step rfl rfl (r_pickF rfl rfl) ?_
    refine WL_step rfl rfl (r_assign rfl) ?_
    refine WL_nil ?_
    refine thn_nrm (_hK_2 _ _ ?_)
    clear _hK_2
    refine W_ret ?_
    exact ret_intro [_] ⟨rfl, trivial⟩ ⟨congrArg Value.bool (by first | rfl | (rw [Bool.eq_iff_iff]; simp <;> omega) | (rw [Bool.eq_iff_iff]; simp_all; done) | simp_all), E⟩

/-- impl.isLetter -/
theorem c_impl_isLetter {w : World} (n : Int) :
    Ctr Try.prog 43 #[(.int .i64 n)] w (fun v w' => v = .bool (decide (0 ≤ n ∧ n ≤ 8)) ∧ Ch [] w w') := by
  have E := Ch.refl [] w
  refine Ctr_of_W (N := 5) (vs0 := [(.int .i64 n)]) Try.func43 rfl rfl rfl ?_
  refine W_seq fun _K_1 _hK_1 => ?_
  refine W_region ?_
  refine WL_step rfl rfl (r_assign rfl) ?_
  refine WL_nil ?_
  refine thn_nrm (_hK_1 _ _ ?_)
  clear _hK_1
  refine W_seq fun _K_2 _hK_2 => ?_
  refine W_region ?_
  refine WL_step rfl rfl (r_move rfl) ?_
  refine WL_s rfl rfl ?_
  refine Step.call (r_call (xs := [.tmp 3, .const (Go.Value.int Go.IntKind.i64 0), .const (Go.Value.int Go.IntKind.i64 8)]) fk58 rfl) (c_impl_within _ _ _ ) fun _v4 _w_3 _q4 => ?_
  obtain ⟨rfl, _cw_3⟩ := _q4
  have _cw_3z := _cw_3.size
  have E := E.trans _cw_3
  refine WL_step rfl rfl (r_assign rfl) ?_
  refine WL_nil ?_
  refine thn_nrm (_hK_2 _ _ ?_)
  clear _hK_2
  refine W_ret ?_
  exact ret_intro [_] ⟨rfl, trivial⟩ ⟨congrArg Value.bool rfl, E⟩

/-- impl.tokenOk -/
theorem c_impl_tokenOk {w : World} (t : Token) :
    Ctr Try.prog 44 #[(.agg #[(.int .i64 t.kind), (.int .i64 t.letter), (.int .i64 t.low), (.int .i64 t.high)])] w (fun v w' => v = .bool (tokOk t) ∧ Ch [] w w') := by
  have E := Ch.refl [] w
  refine Ctr_of_W (N := 48) (vs0 := [(.agg #[(.int .i64 t.kind), (.int .i64 t.letter), (.int .i64 t.low), (.int .i64 t.high)])]) Try.func44 rfl rfl rfl ?_
  refine W_seq fun _K_1 _hK_1 => ?_
  refine W_region ?_
  refine WL_s rfl rfl ?_
  refine s_box rfl fun _b1 _w_2 _m1 _cw_2 _e1 => ?_
  have _cw_2z := _cw_2.size
  have E := E.trans _cw_2
  have _z1 := _m1.lt
  replace _m1 : Blk _w_2 _b1 55 [(.int .i64 t.kind), (.int .i64 t.letter), (.int .i64 t.low), (.int .i64 t.high)] := _m1
  refine WL_step rfl rfl (r_assign rfl) ?_
  refine WL_nil ?_
  refine thn_nrm (_hK_1 _ _ ?_)
  clear _hK_1
  refine W_seq fun _K_3 _hK_3 => ?_
  refine W_seq fun _K_4 _hK_4 => ?_
  refine W_region ?_
  refine WL_step rfl rfl (r_fieldAddr fa55_0 rfl) ?_
  refine WL_step rfl rfl (r_loadAt _m1.at_ agg3 rfl rfl) ?_
  refine WL_nil ?_
  refine thn_nrm (_hK_4 _ _ ?_)
  clear _hK_4
  refine W_block ?_
  refine W_seq fun _K_5 _hK_5 => ?_
  refine W_region ?_
  refine WL_step rfl rfl (r_eql rfl rfl) ?_
  refine WL_step rfl rfl (r_assign rfl) ?_
  refine WL_nil ?_
  refine thn_nrm (_hK_5 _ _ ?_)
  clear _hK_5
  refine W_cond rfl (fun _h5 => ?_) (fun _h5 => ?_)
  · have _kb_6 := _h5
    have _h5 := bt_d _h5
    refine W_seq fun _K_7 _hK_7 => ?_
    refine W_region ?_
    refine WL_step rfl rfl (r_fieldAddr fa55_1 rfl) ?_
    refine WL_step rfl rfl (r_loadAt _m1.at_ agg3 rfl rfl) ?_
    refine WL_s rfl rfl ?_
    refine Step.call (r_call (xs := [.tmp 8]) fk43 rfl) (c_impl_isLetter _ ) fun _v9 _w_8 _q9 => ?_
    obtain ⟨rfl, _cw_8⟩ := _q9
    have _cw_8z := _cw_8.size
    have E := E.trans _cw_8
    refine WL_step rfl rfl (r_move rfl) ?_
    refine WL_split (d := 10) rfl (fun _h10 => ?_) (fun _h10 => ?_)
    · have _kb_9 := _h10
      have _h10 := bt_d _h10
      refine WL_step rfl rfl (r_fieldAddr fa55_2 rfl) ?_
      have _f_10 := (_m1.ch0 _cw_8)
      refine WL_step rfl rfl (r_loadAt _f_10.at_ agg3 rfl rfl) ?_
      refine WL_step rfl rfl (r_eql rfl rfl) ?_
      refine WL_step rfl rfl (r_pickT rfl rfl) ?_
      refine WL_step rfl rfl (r_move rfl) ?_
      refine WL_split (d := 15) rfl (fun _h15 => ?_) (fun _h15 => ?_)
      · have _kb_11 := _h15
        have _h15 := bt_d _h15
        refine WL_step rfl rfl (r_fieldAddr fa55_3 rfl) ?_
        refine WL_step rfl rfl (r_loadAt _f_10.at_ agg3 rfl rfl) ?_
        refine WL_step rfl rfl (r_eql rfl rfl) ?_
        refine WL_step rfl rfl (r_pickT rfl rfl) ?_
        refine WL_step rfl rfl (r_assign rfl) ?_
        refine WL_nil ?_
        refine thn_nrm (_hK_7 _ _ ?_)
        clear _hK_7
        refine W_ret (inB_ret (thn_ret ?_))
        clear _hK_3
        exact ret_intro [_] ⟨rfl, trivial⟩ ⟨congrArg Value.bool (by rw [Bool.eq_iff_iff]; simp only [tokOk, decide_eq_true_eq, Bool.false_eq_true, false_iff, true_iff, Bool.and_eq_true, List.cons.injEq, and_true, true_and, Int.not_le]; unfold arT; (repeat' split) <;> omega), E⟩
      · have _kb_11 := _h15
        have _h15 := bf_d _h15
        refine WL_skip rfl rfl ?_
        refine WL_skip rfl rfl ?_
        refine WL_skip rfl rfl ?_
        refine WL_step rfl rfl (r_pickF rfl rfl) ?_
        refine WL_step rfl rfl (r_assign rfl) ?_
        refine WL_nil ?_
        refine thn_nrm (_hK_7 _ _ ?_)
        clear _hK_7
        refine W_ret (inB_ret (thn_ret ?_))
        clear _hK_3
        exact ret_intro [_] ⟨rfl, trivial⟩ ⟨congrArg Value.bool (by rw [Bool.eq_iff_iff]; simp only [tokOk, decide_eq_true_eq, Bool.false_eq_true, false_iff, true_iff, Bool.and_eq_true, List.cons.injEq, and_true, true_and, Int.not_le]; unfold arT; (repeat' split) <;> omega), E⟩
    · have _kb_9 := _h10
      have _h10 := bf_d _h10
      refine WL_skip rfl rfl ?_
      refine WL_skip rfl rfl ?_
      refine WL_skip rfl rfl ?_
      refine WL_step rfl rfl (r_pickF rfl rfl) ?_
      refine WL_step rfl rfl (r_move rfl) ?_
      refine WL_skip rfl rfl ?_
      refine WL_skip rfl rfl ?_
      refine WL_skip rfl rfl ?_
      refine WL_step rfl rfl (r_pickF rfl rfl) ?_
      refine WL_step rfl rfl (r_assign rfl) ?_
      refine WL_nil ?_
      refine thn_nrm (_hK_7 _ _ ?_)
      clear _hK_7
      refine W_ret (inB_ret (thn_ret ?_))
      clear _hK_3
      exact ret_intro [_] ⟨rfl, trivial⟩ ⟨congrArg Value.bool (by rw [Bool.eq_iff_iff]; simp only [tokOk, decide_eq_true_eq, Bool.false_eq_true, false_iff, true_iff, Bool.and_eq_true, List.cons.injEq, and_true, true_and, Int.not_le]; unfold arT; (repeat' split) <;> omega), E⟩
  · have _kb_6 := _h5
    have _h5 := bf_d _h5
    refine W_seq fun _K_12 _hK_12 => ?_
    refine W_region ?_
    refine WL_step rfl rfl (r_eql rfl rfl) ?_
    refine WL_step rfl rfl (r_assign rfl) ?_
    refine WL_nil ?_
    refine thn_nrm (_hK_12 _ _ ?_)
    clear _hK_12
    refine W_cond rfl (fun _h20 => ?_) (fun _h20 => ?_)
    · have _kb_13 := _h20
      have _h20 := bt_d _h20
      refine W_seq fun _K_14 _hK_14 => ?_
      refine W_region ?_
      refine WL_step rfl rfl (r_fieldAddr fa55_1 rfl) ?_
      refine WL_step rfl rfl (r_loadAt _m1.at_ agg3 rfl rfl) ?_
      refine WL_step rfl rfl (r_eql rfl rfl) ?_
      refine WL_step rfl rfl (r_move rfl) ?_
      refine WL_split (d := 25) rfl (fun _h25 => ?_) (fun _h25 => ?_)
      · have _kb_15 := _h25
        have _h25 := bt_d _h25
        refine WL_step rfl rfl (r_fieldAddr fa55_2 rfl) ?_
        refine WL_step rfl rfl (r_loadAt _m1.at_ agg3 rfl rfl) ?_
        refine WL_step rfl rfl (r_fieldAddr fa55_3 rfl) ?_
        refine WL_step rfl rfl (r_loadAt _m1.at_ agg3 rfl rfl) ?_
        refine WL_s rfl rfl ?_
        refine Step.call (r_call (xs := [.tmp 27, .const (Go.Value.int Go.IntKind.i64 0), .tmp 29]) fk58 rfl) (c_impl_within _ _ _ ) fun _v30 _w_16 _q30 => ?_
        obtain ⟨rfl, _cw_16⟩ := _q30
        have _cw_16z := _cw_16.size
        have E := E.trans _cw_16
        refine WL_step rfl rfl (r_pickT rfl rfl) ?_
        refine WL_step rfl rfl (r_move rfl) ?_
        refine WL_split (d := 32) rfl (fun _h32 => ?_) (fun _h32 => ?_)
        · have _kb_17 := _h32
          have _h32 := bt_d _h32
          refine WL_step rfl rfl (r_fieldAddr fa55_3 rfl) ?_
          have _f_18 := (_m1.ch0 _cw_16)
          refine WL_step rfl rfl (r_loadAt _f_18.at_ agg3 rfl rfl) ?_
          refine WL_s rfl rfl ?_
          refine Step.call (r_call (xs := [.tmp 34, .const (Go.Value.int Go.IntKind.i64 1), .const (Go.Value.int Go.IntKind.i64 3)]) fk58 rfl) (c_impl_within _ _ _ ) fun _v35 _w_19 _q35 => ?_
          obtain ⟨rfl, _cw_19⟩ := _q35
          have _cw_19z := _cw_19.size
          have E := E.trans _cw_19
          refine WL_step rfl rfl (r_pickT rfl rfl) ?_
          refine WL_step rfl rfl (r_assign rfl) ?_
          refine WL_nil ?_
          refine thn_nrm (_hK_14 _ _ ?_)
          clear _hK_14
          refine W_ret (inB_ret (thn_ret ?_))
          clear _hK_3
          exact ret_intro [_] ⟨rfl, trivial⟩ ⟨congrArg Value.bool (by rw [Bool.eq_iff_iff]; simp only [tokOk, decide_eq_true_eq, Bool.false_eq_true, false_iff, true_iff, Bool.and_eq_true, List.cons.injEq, and_true, true_and, Int.not_le]; unfold arT; (repeat' split) <;> omega), E⟩
        · have _kb_17 := _h32
          have _h32 := bf_d _h32
          refine WL_skip rfl rfl ?_
          refine WL_skip rfl rfl ?_
          refine WL_skip rfl rfl ?_
          refine WL_step rfl rfl (r_pickF rfl rfl) ?_
          refine WL_step rfl rfl (r_assign rfl) ?_
          refine WL_nil ?_
          refine thn_nrm (_hK_14 _ _ ?_)
          clear _hK_14
          refine W_ret (inB_ret (thn_ret ?_))
          clear _hK_3
          exact ret_intro [_] ⟨rfl, trivial⟩ ⟨congrArg Value.bool (by rw [Bool.eq_iff_iff]; simp only [tokOk, decide_eq_true_eq, Bool.false_eq_true, false_iff, true_iff, Bool.and_eq_true, List.cons.injEq, and_true, true_and, Int.not_le]; unfold arT; (repeat' split) <;> omega), E⟩
      · have _kb_15 := _h25
        have _h25 := bf_d _h25
        refine WL_skip rfl rfl ?_
        refine WL_skip rfl rfl ?_
        refine WL_skip rfl rfl ?_
        refine WL_skip rfl rfl ?_
        refine WL_skip rfl rfl ?_
        refine WL_step rfl rfl (r_pickF rfl rfl) ?_
        refine WL_step rfl rfl (r_move rfl) ?_
        refine WL_skip rfl rfl ?_
        refine WL_skip rfl rfl ?_
        refine WL_skip rfl rfl ?_
        refine WL_step rfl rfl (r_pickF rfl rfl) ?_
        refine WL_step rfl rfl (r_assign rfl) ?_
        refine WL_nil ?_
        refine thn_nrm (_hK_14 _ _ ?_)
        clear _hK_14
        refine W_ret (inB_ret (thn_ret ?_))
        clear _hK_3
        exact ret_intro [_] ⟨rfl, trivial⟩ ⟨congrArg Value.bool (by rw [Bool.eq_iff_iff]; simp only [tokOk, decide_eq_true_eq, Bool.false_eq_true, false_iff, true_iff, Bool.and_eq_true, List.cons.injEq, and_true, true_and, Int.not_le]; unfold arT; (repeat' split) <;> omega), E⟩
    · have _kb_13 := _h20
      have _h20 := bf_d _h20
      refine W_seq fun _K_20 _hK_20 => ?_
      refine W_seq fun _K_21 _hK_21 => ?_
      refine W_region ?_
      refine WL_step rfl rfl (r_eql rfl rfl) ?_
      refine WL_step rfl rfl (r_assign rfl) ?_
      refine WL_nil ?_
      refine thn_nrm (_hK_21 _ _ ?_)
      clear _hK_21
      refine W_cond rfl (fun _h37 => ?_) (fun _h37 => ?_)
      · have _kb_22 := _h37
        have _h37 := bt_d _h37
        refine W_skip ?_
        refine thn_nrm (_hK_20 _ _ ?_)
        clear _hK_20
        refine W_condTk rfl _kb_22 ?_
        refine W_seq fun _K_23 _hK_23 => ?_
        refine W_region ?_
        refine WL_step rfl rfl (r_loadAtA0 _m1.at_ agg55 sz55 rfl) ?_
        refine WL_step rfl rfl (r_fieldAddr fa55_0 rfl) ?_
        refine WL_step rfl rfl (r_loadAt _m1.at_ agg3 rfl rfl) ?_
        refine WL_step rfl rfl (r_build (parts := [(0, .tmp 45)]) (cells := [(.int .i64 t.kind), (.int .i64 0), (.int .i64 0), (.int .i64 0)]) zr55 pl55 rfl rfl) ?_
        refine WL_step rfl rfl (r_eqlI [t.kind, t.letter, t.low, t.high] [t.kind, 0, 0, 0] ist55 rfl rfl rfl) ?_
        refine WL_step rfl rfl (r_assign rfl) ?_
        refine WL_nil ?_
        refine thn_nrm (_hK_23 _ _ ?_)
        clear _hK_23
        refine W_ret (inB_ret (thn_ret ?_))
        clear _hK_3
        exact ret_intro [_] ⟨rfl, trivial⟩ ⟨congrArg Value.bool (by rw [Bool.eq_iff_iff]; simp only [tokOk, decide_eq_true_eq, Bool.false_eq_true, false_iff, true_iff, Bool.and_eq_true, List.cons.injEq, and_true, true_and, Int.not_le]; unfold arT; (repeat' split) <;> omega), E⟩
      · have _kb_22 := _h37
        have _h37 := bf_d _h37
        refine W_seq fun _K_24 _hK_24 => ?_
        refine W_region ?_
        refine WL_step rfl rfl (r_eql rfl rfl) ?_
        refine WL_step rfl rfl (r_assign rfl) ?_
        refine WL_nil ?_
        refine thn_nrm (_hK_24 _ _ ?_)
        clear _hK_24
        refine W_cond rfl (fun _h37 => ?_) (fun _h37 => ?_)
        · have _kb_25 := _h37
          have _h37 := bt_d _h37
          refine W_skip ?_
          refine thn_nrm (_hK_20 _ _ ?_)
          clear _hK_20
          refine W_condTk rfl _kb_25 ?_
          refine W_seq fun _K_26 _hK_26 => ?_
          refine W_region ?_
          refine WL_step rfl rfl (r_loadAtA0 _m1.at_ agg55 sz55 rfl) ?_
          refine WL_step rfl rfl (r_fieldAddr fa55_0 rfl) ?_
          refine WL_step rfl rfl (r_loadAt _m1.at_ agg3 rfl rfl) ?_
          refine WL_step rfl rfl (r_build (parts := [(0, .tmp 45)]) (cells := [(.int .i64 t.kind), (.int .i64 0), (.int .i64 0), (.int .i64 0)]) zr55 pl55 rfl rfl) ?_
          refine WL_step rfl rfl (r_eqlI [t.kind, t.letter, t.low, t.high] [t.kind, 0, 0, 0] ist55 rfl rfl rfl) ?_
          refine WL_step rfl rfl (r_assign rfl) ?_
          refine WL_nil ?_
          refine thn_nrm (_hK_26 _ _ ?_)
          clear _hK_26
          refine W_ret (inB_ret (thn_ret ?_))
          clear _hK_3
          exact ret_intro [_] ⟨rfl, trivial⟩ ⟨congrArg Value.bool (by rw [Bool.eq_iff_iff]; simp only [tokOk, decide_eq_true_eq, Bool.false_eq_true, false_iff, true_iff, Bool.and_eq_true, List.cons.injEq, and_true, true_and, Int.not_le]; unfold arT; (repeat' split) <;> omega), E⟩
        · have _kb_25 := _h37
          have _h37 := bf_d _h37
          refine W_seq fun _K_27 _hK_27 => ?_
          refine W_region ?_
          refine WL_step rfl rfl (r_eql rfl rfl) ?_
          refine WL_step rfl rfl (r_assign rfl) ?_
          refine WL_nil ?_
          refine thn_nrm (_hK_27 _ _ ?_)
          clear _hK_27
          refine W_cond rfl (fun _h37 => ?_) (fun _h37 => ?_)
          · have _kb_28 := _h37
            have _h37 := bt_d _h37
            refine W_skip ?_
            refine thn_nrm (_hK_20 _ _ ?_)
            clear _hK_20
            refine W_condTk rfl _kb_28 ?_
            refine W_seq fun _K_29 _hK_29 => ?_
            refine W_region ?_
            refine WL_step rfl rfl (r_loadAtA0 _m1.at_ agg55 sz55 rfl) ?_
            refine WL_step rfl rfl (r_fieldAddr fa55_0 rfl) ?_
            refine WL_step rfl rfl (r_loadAt _m1.at_ agg3 rfl rfl) ?_
            refine WL_step rfl rfl (r_build (parts := [(0, .tmp 45)]) (cells := [(.int .i64 t.kind), (.int .i64 0), (.int .i64 0), (.int .i64 0)]) zr55 pl55 rfl rfl) ?_
            refine WL_step rfl rfl (r_eqlI [t.kind, t.letter, t.low, t.high] [t.kind, 0, 0, 0] ist55 rfl rfl rfl) ?_
            refine WL_step rfl rfl (r_assign rfl) ?_
            refine WL_nil ?_
            refine thn_nrm (_hK_29 _ _ ?_)
            clear _hK_29
            refine W_ret (inB_ret (thn_ret ?_))
            clear _hK_3
            exact ret_intro [_] ⟨rfl, trivial⟩ ⟨congrArg Value.bool (by rw [Bool.eq_iff_iff]; simp only [tokOk, decide_eq_true_eq, Bool.false_eq_true, false_iff, true_iff, Bool.and_eq_true, List.cons.injEq, and_true, true_and, Int.not_le]; unfold arT; (repeat' split) <;> omega), E⟩
          · have _kb_28 := _h37
            have _h37 := bf_d _h37
            refine W_seq fun _K_30 _hK_30 => ?_
            refine W_region ?_
            refine WL_step rfl rfl (r_eql rfl rfl) ?_
            refine WL_step rfl rfl (r_assign rfl) ?_
            refine WL_nil ?_
            refine thn_nrm (_hK_30 _ _ ?_)
            clear _hK_30
            refine W_cond rfl (fun _h37 => ?_) (fun _h37 => ?_)
            · have _kb_31 := _h37
              have _h37 := bt_d _h37
              refine W_skip ?_
              refine thn_nrm (_hK_20 _ _ ?_)
              clear _hK_20
              refine W_condTk rfl _kb_31 ?_
              refine W_seq fun _K_32 _hK_32 => ?_
              refine W_region ?_
              refine WL_step rfl rfl (r_loadAtA0 _m1.at_ agg55 sz55 rfl) ?_
              refine WL_step rfl rfl (r_fieldAddr fa55_0 rfl) ?_
              refine WL_step rfl rfl (r_loadAt _m1.at_ agg3 rfl rfl) ?_
              refine WL_step rfl rfl (r_build (parts := [(0, .tmp 45)]) (cells := [(.int .i64 t.kind), (.int .i64 0), (.int .i64 0), (.int .i64 0)]) zr55 pl55 rfl rfl) ?_
              refine WL_step rfl rfl (r_eqlI [t.kind, t.letter, t.low, t.high] [t.kind, 0, 0, 0] ist55 rfl rfl rfl) ?_
              refine WL_step rfl rfl (r_assign rfl) ?_
              refine WL_nil ?_
              refine thn_nrm (_hK_32 _ _ ?_)
              clear _hK_32
              refine W_ret (inB_ret (thn_ret ?_))
              clear _hK_3
              exact ret_intro [_] ⟨rfl, trivial⟩ ⟨congrArg Value.bool (by rw [Bool.eq_iff_iff]; simp only [tokOk, decide_eq_true_eq, Bool.false_eq_true, false_iff, true_iff, Bool.and_eq_true, List.cons.injEq, and_true, true_and, Int.not_le]; unfold arT; (repeat' split) <;> omega), E⟩
            · have _kb_31 := _h37
              have _h37 := bf_d _h37
              refine W_region ?_
              refine WL_step rfl rfl (r_eql rfl rfl) ?_
              refine WL_step rfl rfl (r_assign rfl) ?_
              refine WL_nil ?_
              refine thn_nrm (_hK_20 _ _ ?_)
              clear _hK_20
              refine W_cond rfl (fun _h37 => ?_) (fun _h37 => ?_)
              · have _kb_33 := _h37
                have _h37 := bt_d _h37
                refine W_seq fun _K_34 _hK_34 => ?_
                refine W_region ?_
                refine WL_step rfl rfl (r_loadAtA0 _m1.at_ agg55 sz55 rfl) ?_
                refine WL_step rfl rfl (r_fieldAddr fa55_0 rfl) ?_
                refine WL_step rfl rfl (r_loadAt _m1.at_ agg3 rfl rfl) ?_
                refine WL_step rfl rfl (r_build (parts := [(0, .tmp 45)]) (cells := [(.int .i64 t.kind), (.int .i64 0), (.int .i64 0), (.int .i64 0)]) zr55 pl55 rfl rfl) ?_
                refine WL_step rfl rfl (r_eqlI [t.kind, t.letter, t.low, t.high] [t.kind, 0, 0, 0] ist55 rfl rfl rfl) ?_
                refine WL_step rfl rfl (r_assign rfl) ?_
                refine WL_nil ?_
                refine thn_nrm (_hK_34 _ _ ?_)
                clear _hK_34
                refine W_ret (inB_ret (thn_ret ?_))
                clear _hK_3
                exact ret_intro [_] ⟨rfl, trivial⟩ ⟨congrArg Value.bool (by rw [Bool.eq_iff_iff]; simp only [tokOk, decide_eq_true_eq, Bool.false_eq_true, false_iff, true_iff, Bool.and_eq_true, List.cons.injEq, and_true, true_and, Int.not_le]; unfold arT; (repeat' split) <;> omega), E⟩
              · have _kb_33 := _h37
                have _h37 := bf_d _h37
                refine W_skip ?_
                refine inB_nrm ?_
                refine thn_nrm (_hK_3 _ _ ?_)
                clear _hK_3
                refine W_seq fun _K_35 _hK_35 => ?_
                refine W_region ?_
                refine WL_step rfl rfl (r_assign rfl) ?_
                refine WL_nil ?_
                refine thn_nrm (_hK_35 _ _ ?_)
                clear _hK_35
                refine W_ret ?_
                exact ret_intro [_] ⟨rfl, trivial⟩ ⟨congrArg Value.bool (by rw [Bool.eq_iff_iff]; simp only [tokOk, decide_eq_true_eq, Bool.false_eq_true, false_iff, true_iff, Bool.and_eq_true, List.cons.injEq, and_true, true_and, Int.not_le]; unfold arT; (repeat' split) <;> omega), E⟩

/-- slices.Clone[[]*impl.tree,*impl.tree] -/
theorem c_slices_Clone_impl_tree_impl_tree {w : World} {LL_s _B_s : Nat} {_v_s : Value} {s : List Addr} (_h_s : Ls acs 1 w LL_s _B_s _v_s s) (hb : s.length ≤ 1048576) :
    Ctr Try.prog 45 #[_v_s] w (fun v w' => Ol acs 49 1 w' v (s) ∧ Lo w.heap.size v ∧ Ch [] w w') := by
  obtain ⟨_A_s, _C_s, _e1_s⟩ := _h_s.val
  subst _e1_s
  have _l_s := _h_s.len
  have _h_s := _h_s.here (by decide)
  have E := Ch.refl [] w
  refine Ctr_of_W (N := 8) (vs0 := [(.slice _A_s s.length _C_s)]) Try.func45 rfl rfl rfl ?_
  refine W_seq fun _K_1 _hK_1 => ?_
  refine W_region ?_
  refine WL_step rfl rfl (r_assign rfl) ?_
  refine WL_nil ?_
  refine thn_nrm (_hK_1 _ _ ?_)
  clear _hK_1
  refine W_seq fun _K_2 _hK_2 => ?_
  refine W_seq fun _K_3 _hK_3 => ?_
  refine W_region ?_
  refine WL_step rfl rfl (r_move rfl) ?_
  refine WL_step rfl rfl (r_eqNil (by rw [el74]; rfl) rfl rfl) ?_
  refine WL_nil ?_
  refine thn_nrm (_hK_3 _ _ ?_)
  clear _hK_3
  refine W_cond rfl (fun _h4 => ?_) (fun _h4 => ?_)
  · have _kb_4 := _h4
    refine W_seq fun _K_5 _hK_5 => ?_
    refine W_region ?_
    refine WL_step rfl rfl (r_assign rfl) ?_
    refine WL_nil ?_
    refine thn_nrm (_hK_5 _ _ ?_)
    clear _hK_5
    refine W_ret (thn_ret ?_)
    clear _hK_2
    have _o_6 : Ol acs 49 1 w (.slice none 0 0) (s) := by
      have hx := (Ol.nil (cs := acs) (e := 49) (k := 1) w)
      first | (have hn := Ls.none _h_s _h4; subst hn; exact hx) | exact hx
    exact ret_intro [_] ⟨rfl, trivial⟩ ⟨_o_6, Lo.nil _, E⟩
  · have _kb_4 := _h4
    refine W_skip ?_
    refine thn_nrm (_hK_2 _ _ ?_)
    clear _hK_2
    refine W_seq fun _K_7 _hK_7 => ?_
    refine W_region ?_
    refine WL_s rfl rfl ?_
    refine s_buildSlice0 (k := 1) acs el74 sz49 fun _v5 _w_8 _q5 _lo5 _cw_8 => ?_
    have _cw_8z := _cw_8.size
    have E := E.trans _cw_8
    obtain ⟨_Av5, _Cv5, _ev5⟩ := _q5.val
    subst _ev5
    have _lv5 := _q5.len
    have _hiv5 := _q5.lt
    refine WL_step rfl rfl (r_move rfl) ?_
    refine WL_s rfl rfl ?_
    have _f_10 := (_h_s.ch0 _cw_8)
    refine s_append (cs := acs) el74 sz49 by49 zr49 rfl (by decide) acs_one _q5 _f_10 rfl rfl (by first | omega | (simp only [List.length_append, List.length_nil, List.length_cons, List.length_replicate, List.length_set, List.length_reverse, List.length_map] at *; omega) | (simp at *; omega)) (by first | omega | (simp only [List.length_append, List.length_nil, List.length_cons, List.length_replicate, List.length_set, List.length_reverse, List.length_map] at *; omega) | (simp at *; omega)) _lo5 (by omega) fun _v7 _w_9 _q7 _lo7 _ap7 _cw_9 => ?_
    have _cw_9z := _cw_9.size
    have E := E.step _cw_9 (fun i hi => .inl (by have _h1 := _lo5 _ hi; omega))
    replace _q7 : Ol acs 49 1 _w_9 _v7 s := _q7
    obtain ⟨_Av7, _Cv7, _ev7⟩ := _q7.val
    subst _ev7
    have _lv7 := _q7.len
    have _hiv7 := _q7.lt
    refine WL_step rfl rfl (r_assign rfl) ?_
    refine WL_nil ?_
    refine thn_nrm (_hK_7 _ _ ?_)
    clear _hK_7
    refine W_ret ?_
    have _o_11 : Ol acs 49 1 _w_9 (.slice _Av7 (s).length _Cv7) (s) := by
      have hx := _q7
      first | (have hn := Ls.none _h_s _h4; subst hn; exact hx) | exact hx
    exact ret_intro [_] ⟨rfl, trivial⟩ ⟨_o_11, Lo.down _lo7 (by omega), E⟩

/-- impl.treeOf -/
theorem c_impl_treeOf {w : World} {LL_e _B_e : Nat} {_v_e : Value} {e : List Token} (_h_e : Ls Token.cs 4 w LL_e _B_e _v_e e) (hb : e.length ≤ 1048576) :
    Ctr Try.prog 25 #[(.agg #[_v_e])] w (fun v w' => ((treeL e) = none ∧ v = .pointer none ∨ ∃ t p, (treeL e) = some t ∧ v = .pointer (some p) ∧ TrAt w' w.heap.size w'.heap.size p t) ∧ Ch [] w w') := by
  obtain ⟨_A_e, _C_e, _e1_e⟩ := _h_e.val
  subst _e1_e
  have _l_e := _h_e.len
  have _h_e := _h_e.here (by decide)
  have E := Ch.refl [] w
  refine Ctr_of_W (N := 56) (vs0 := [(.agg #[(.slice _A_e e.length _C_e)])]) Try.func25 rfl rfl rfl ?_
  refine W_seq fun _K_1 _hK_1 => ?_
  refine W_region ?_
  refine WL_s rfl rfl ?_
  refine s_box rfl fun _b1 _w_2 _m1 _cw_2 _e1 => ?_
  have _cw_2z := _cw_2.size
  have E := E.trans _cw_2
  have _z1 := _m1.lt
  replace _m1 : Blk _w_2 _b1 30 [(.slice _A_e e.length _C_e)] := _m1
  refine WL_step rfl rfl (r_assign rfl) ?_
  refine WL_nil ?_
  refine thn_nrm (_hK_1 _ _ ?_)
  clear _hK_1
  refine W_seq fun _K_3 _hK_3 => ?_
  refine W_region ?_
  refine WL_s rfl rfl ?_
  refine s_buildSlice0 (k := 1) acs el74 sz49 fun _v9 _w_4 _q9 _lo9 _cw_4 => ?_
  have _cw_4z := _cw_4.size
  have E := E.trans _cw_4
  obtain ⟨_Av9, _Cv9, _ev9⟩ := _q9.val
  subst _ev9
  have _lv9 := _q9.len
  have _hiv9 := _q9.lt
  refine WL_step rfl rfl (r_assign rfl) ?_
  refine WL_nil ?_
  refine thn_nrm (_hK_3 _ _ ?_)
  clear _hK_3
  refine W_seq fun _K_5 _hK_5 => ?_
  refine W_seq fun _K_6 _hK_6 => ?_
  refine W_region ?_
  refine WL_step rfl rfl (r_fieldAddr fa30_0 rfl) ?_
  have _f_7 := (_m1.ch0 _cw_4)
  refine WL_step rfl rfl (r_loadAt _f_7.at_ agg28 rfl rfl) ?_
  refine WL_step rfl rfl (r_len (by rw [el28]; rfl) rfl) ?_
  refine WL_step rfl rfl (r_move rfl) ?_
  refine WL_nil ?_
  refine thn_nrm (_hK_6 _ _ ?_)
  clear _hK_6
  refine W_block ?_
  have _oi_8 : Ol acs 49 1 _w_4 (.slice _Av9 (([] : List Addr)).length _Cv9) (([] : List Addr)) := by
    have hx := _q9
    exact hx
  refine W_loop (σ := Nat × List Addr × List Tr × Value) (fun ⟨i, ps, st, sv⟩ => [(3, sv), (11, (.slice _A_e e.length _C_e)), (12, (.int .i64 ((e.length : Nat) : Int))), (13, (.int .i64 ((i : Nat) : Int)))]) (fun ⟨i, ps, st, sv⟩ wx => Ch [] w wx ∧ _w_4.heap.size ≤ wx.heap.size ∧ (i ≤ e.length) ∧ (ps.length = st.length) ∧ (st.length ≤ i) ∧ (prs [] (e.take i) = some st) ∧ Ol acs 49 1 wx sv ps ∧ Lo _w_2.heap.size sv ∧ Tks wx w.heap.size sv ps st) (fun ⟨i, ps, st, sv⟩ => e.length - i) (0, ([] : List Addr), ([] : List Tr), (.slice _Av9 (([] : List Addr)).length _Cv9)) (Sub.cons rfl (Sub.cons rfl (Sub.cons rfl (Sub.cons rfl (Sub.nil _))))) ⟨E, (Nat.le_refl _), (by omega), rfl, (Nat.le_refl _), rfl, _oi_8, _lo9, (Tks.nil _ _ _)⟩ ?_
  rintro ⟨i, ps, st, sv⟩ _wr_9 ⟨E, _zz0, hi, hl, hs, hp, _o0_3, _lo0_3, tks⟩
  have _E0h := E
  have _E0hz := _E0h.size
  obtain ⟨Asv, Csv, esv⟩ := _o0_3.val
  subst esv
  have lsv := _o0_3.len
  have hisv := _o0_3.lt
  refine W_seq fun _K_10 _hK_10 => ?_
  refine W_region ?_
  refine WL_step rfl rfl (r_lss rfl rfl) ?_
  refine WL_nil ?_
  refine thn_nrm (_hK_10 _ _ ?_)
  clear _hK_10
  refine W_seq fun _K_11 _hK_11 => ?_
  refine W_cond rfl (fun _h14 => ?_) (fun _h14 => ?_)
  · have _kb_12 := _h14
    have _h14 := bt_d _h14
    refine W_skip ?_
    refine thn_nrm (_hK_11 _ _ ?_)
    clear _hK_11
    refine W_seq fun _K_13 _hK_13 => ?_
    refine W_block ?_
    refine W_seq fun _K_14 _hK_14 => ?_
    refine W_region ?_
    refine WL_s rfl rfl ?_
    have _f_15 := (_h_e.ch0 _E0h)
    refine (s_index _f_15 Token.len el28 sz55 rfl rfl rfl (by omega) fun _p15 _y15 _hy15 _a15 => ?_)
    have k15 := arK_rng _y15.kind
    refine WL_step rfl rfl (r_loadAtA0 _a15 agg55 sz55 rfl) ?_
    refine WL_s rfl rfl ?_
    refine s_alloc zr55 fun _b5 _w_16 _m5 _cw_16 _e5 => ?_
    have _cw_16z := _cw_16.size
    have E := E.trans _cw_16
    have _z5 := _m5.lt
    replace _m5 : Blk _w_16 _b5 55 [(.int .i64 0), (.int .i64 0), (.int .i64 0), (.int .i64 0)] := _m5
    refine WL_s rfl rfl ?_
    refine s_storeA (off := 0) 4 _m5 sz55 rfl (us := [(.int .i64 _y15.kind), (.int .i64 _y15.letter), (.int .i64 _y15.low), (.int .i64 _y15.high)]) rfl rfl rfl rfl fun _w_17 _m_18 _cw_17 => ?_
    have _cw_17z := _cw_17.size
    have E := E.step _cw_17 (fun i hi => .inl (by have _h1 := List.mem_singleton.1 hi; omega))
    replace _m_18 : Blk _w_17 _b5 55 [(.int .i64 _y15.kind), (.int .i64 _y15.letter), (.int .i64 _y15.low), (.int .i64 _y15.high)] := _m_18
    refine WL_nil ?_
    refine thn_nrm (_hK_14 _ _ ?_)
    clear _hK_14
    refine W_seq fun _K_19 _hK_19 => ?_
    refine W_region ?_
    refine WL_step rfl rfl (r_assign rfl) ?_
    refine WL_nil ?_
    refine thn_nrm (_hK_19 _ _ ?_)
    clear _hK_19
    refine W_seq fun _K_20 _hK_20 => ?_
    have _J_21 : ∀ (lj : KL), Go.KLib.Sub [(3, (.slice Asv (ps).length Csv)), (5, (.pointer (some ⟨_b5, 0, none⟩))), (6, (.int .i64 (arK _y15.kind))), (11, (.slice _A_e e.length _C_e)), (12, (.int .i64 ((e.length : Nat) : Int))), (13, (.int .i64 ((i : Nat) : Int))), (14, (.bool (decide (((i : Nat) : Int) < ((e.length : Nat) : Int))))), (15, (.pointer (some _p15))), (16, (.agg #[(.int .i64 _y15.kind), (.int .i64 _y15.letter), (.int .i64 _y15.low), (.int .i64 _y15.high)]))] lj → _K_20 lj _w_17 := by
      intro lj _jsub
      refine _hK_20 _ _ (W_sub _jsub ?_)
      clear _hK_20
      refine W_seq fun _K_22 _hK_22 => ?_
      refine W_region ?_
      refine WL_step rfl rfl (r_move rfl) ?_
      refine WL_step rfl rfl (r_len (by rw [el74]; rfl) rfl) ?_
      refine WL_step rfl rfl (r_move rfl) ?_
      refine WL_step rfl rfl (r_sub (by omega) rfl rfl) ?_
      refine WL_step rfl rfl (r_assign rfl) ?_
      refine WL_nil ?_
      refine thn_nrm (_hK_22 _ _ ?_)
      clear _hK_22
      refine W_seq fun _K_23 _hK_23 => ?_
      refine W_seq fun _K_24 _hK_24 => ?_
      refine W_region ?_
      refine WL_step rfl rfl (r_loadAtA0 _m_18.at_ agg55 sz55 rfl) ?_
      refine WL_s rfl rfl ?_
      refine Step.call (r_call (xs := [.tmp 29]) fk44 rfl) (c_impl_tokenOk _y15 ) fun _v30 _w_25 _q30 => ?_
      obtain ⟨rfl, _cw_25⟩ := _q30
      have _cw_25z := _cw_25.size
      have E := E.trans _cw_25
      refine WL_step rfl rfl (r_not rfl) ?_
      refine WL_step rfl rfl (r_move rfl) ?_
      refine WL_split (d := 32) rfl (fun _h32 => ?_) (fun _h32 => ?_)
      · have _kb_26 := _h32
        have _h32 := bt_n _h32
        refine WL_skip rfl rfl ?_
        refine WL_skip rfl rfl ?_
        refine WL_step rfl rfl (r_pickT rfl rfl) ?_
        refine WL_nil ?_
        refine thn_nrm (_hK_24 _ _ ?_)
        clear _hK_24
        refine W_condT rfl ?_
        refine W_seq fun _K_27 _hK_27 => ?_
        refine W_region ?_
        refine WL_step rfl rfl (r_assign rfl) ?_
        refine WL_nil ?_
        refine thn_nrm (_hK_27 _ _ ?_)
        clear _hK_27
        refine W_ret (thn_ret (inB_ret (thn_ret (thn_ret (inB_ret (thn_ret ?_))))))
        clear _hK_5 _hK_13 _hK_23
        exact ret_intro [_] ⟨rfl, trivial⟩ ⟨.inl ⟨(by first | exact treeL_none hp (by omega) (by omega) | exact isE_no hp _hy15 (push_bad (by first | exact .inl _h32 | (right; omega)))), rfl⟩, E⟩
      · have _kb_26 := _h32
        have _h32 := bf_n _h32
        refine WL_step rfl rfl (r_move rfl) ?_
        refine WL_step rfl rfl (r_lss rfl rfl) ?_
        refine WL_step rfl rfl (r_pickF rfl rfl) ?_
        refine WL_nil ?_
        refine thn_nrm (_hK_24 _ _ ?_)
        clear _hK_24
        refine W_cond rfl (fun _h35 => ?_) (fun _h35 => ?_)
        · have _kb_28 := _h35
          have _h35 := bt_d _h35
          refine W_seq fun _K_29 _hK_29 => ?_
          refine W_region ?_
          refine WL_step rfl rfl (r_assign rfl) ?_
          refine WL_nil ?_
          refine thn_nrm (_hK_29 _ _ ?_)
          clear _hK_29
          refine W_ret (thn_ret (inB_ret (thn_ret (thn_ret (inB_ret (thn_ret ?_))))))
          clear _hK_5 _hK_13 _hK_23
          exact ret_intro [_] ⟨rfl, trivial⟩ ⟨.inl ⟨(by first | exact treeL_none hp (by omega) (by omega) | exact isE_no hp _hy15 (push_bad (by first | exact .inl _h32 | (right; omega)))), rfl⟩, E⟩
        · have _kb_28 := _h35
          have _h35 := bf_d _h35
          refine W_skip ?_
          refine thn_nrm (_hK_23 _ _ ?_)
          clear _hK_23
          refine W_seq fun _K_30 _hK_30 => ?_
          refine W_drawC [] 8 mixed rfl fun _w_31 _cw_31 => ?_
          have _cw_31z := _cw_31.size
          have E := E.trans _cw_31
          have _f_32 := ((_m_18.ch0 _cw_25).ch0 _cw_31)
          refine DR_s 0 rfl (by kernel_rfl) rfl rfl (t_loadAtA0 _f_32.at_ (fun i hi => absurd hi List.not_mem_nil) agg55 sz55 rfl ?_)
          refine DR_s 1 rfl (by kernel_rfl) rfl rfl (t_v (fun _ => (r_move rfl)) ?_)
          refine DR_s 2 rfl (by kernel_rfl) rfl rfl (t_v (fun _ => (r_move rfl)) ?_)
          have _f_33 := ((((_o0_3.ch0 _cw_16).ch _cw_17 (fun g hg hm => by have _h0 := List.mem_singleton.1 hm; have _h2 := _lo0_3 _ hg; have _h3 := hisv _ hg; omega)).ch0 _cw_25).ch0 _cw_31)
          refine DR_s 3 rfl (by kernel_rfl) rfl rfl (t_cutO (ys := (ps.drop ((((ps.length : Nat) : Int) - (arK _y15.kind)).toNat))) ((((ps.length : Nat) : Int) - (arK _y15.kind)).toNat) ps.length _f_33 acs_len el74 sz49 rfl ⟨_, _, rfl, by omega⟩ rfl (by omega) (by omega) (cut_all _ _) fun _v39 _q39 _bb39 _ln39 => ?_)
          obtain ⟨_A39, _C39, _e39⟩ := _q39.val
          subst _e39
          have _l39 := _q39.len
          have hi39 := _q39.lt
          refine DR_one 4 (by kernel_rfl) ?_
          refine DO_s rfl rfl rfl ?_
          refine Step.call (r_call (xs := [.tmp 39]) fk45 rfl) (c_slices_Clone_impl_tree_impl_tree _q39.ls (by omega)) fun _v40 _w_34 _q40 => ?_
          obtain ⟨_q40, _lo40, _cw_34⟩ := _q40
          have _cw_34z := _cw_34.size
          have E := E.trans _cw_34
          obtain ⟨_Av40, _Cv40, _ev40⟩ := _q40.val
          subst _ev40
          have _lv40 := _q40.len
          have _hiv40 := _q40.lt
          have _S_35 : Ch [] _w_31 _w_34 := ((Ch.refl _ _).trans _cw_34)
          refine ⟨_S_35, ?_⟩
          refine DR_s 5 rfl (by kernel_rfl) rfl rfl (t_v (fun _ => (r_build (parts := [(0, .tmp 36), (1, .tmp 40)]) (cells := [(.int .i64 _y15.kind), (.int .i64 _y15.letter), (.int .i64 _y15.low), (.int .i64 _y15.high), (.slice _Av40 ((ps.drop ((((ps.length : Nat) : Int) - (arK _y15.kind)).toNat))).length _Cv40)]) zr78 pl78 rfl rfl)) ?_)
          refine DR_one 6 (by kernel_rfl) ?_
          refine DO_s rfl rfl rfl ?_
          refine s_box rfl fun _b42 _w_36 _m42 _cw_36 _e42 => ?_
          have _cw_36z := _cw_36.size
          have E := E.trans _cw_36
          have _z42 := _m42.lt
          replace _m42 : Blk _w_36 _b42 78 [(.int .i64 _y15.kind), (.int .i64 _y15.letter), (.int .i64 _y15.low), (.int .i64 _y15.high), (.slice _Av40 ((ps.drop ((((ps.length : Nat) : Int) - (arK _y15.kind)).toNat))).length _Cv40)] := _m42
          have _S_37 : Ch [] _w_31 _w_36 := (_S_35.trans _cw_36)
          refine ⟨_S_37, ?_⟩
          refine DR_s 7 rfl (by kernel_rfl) rfl rfl (t_v (fun _ => (r_assign rfl)) ?_)
          refine DR_done (by kernel_rfl) ?_
          refine thn_nrm (_hK_30 _ _ ?_)
          clear _hK_30
          refine W_region ?_
          refine WL_step rfl rfl (r_move rfl) ?_
          refine WL_step rfl rfl (r_move rfl) ?_
          refine WL_s rfl rfl ?_
          have _f_38 := ((_f_33.ch0 _cw_34).ch0 _cw_36)
          refine (s_cutO (ys := (ps.take ((((ps.length : Nat) : Int) - (arK _y15.kind)).toNat))) 0 ((((ps.length : Nat) : Int) - (arK _y15.kind)).toNat) _f_38 acs_len el74 sz49 rfl rfl ⟨_, _, rfl, by omega⟩ (by omega) (by omega) rfl fun _v45 _q45 _bb45 _ln45 => ?_)
          obtain ⟨_A45, _C45, _e45⟩ := _q45.val
          subst _e45
          have _l45 := _q45.len
          have hi45 := _q45.lt
          refine WL_step rfl rfl (r_move rfl) ?_
          refine WL_s rfl rfl ?_
          refine s_buildSliceP (parts := [(0, .tmp 46)]) [(⟨_b42, 0, none⟩ : Addr)] el74 sz49 zr49 rfl rfl (by decide) (by decide) rfl fun _v47 _w_39 _q47 _lo47 _cw_39 => ?_
          have _cw_39z := _cw_39.size
          have E := E.trans _cw_39
          obtain ⟨_Av47, _Cv47, _ev47⟩ := _q47.val
          subst _ev47
          have _lv47 := _q47.len
          have _hiv47 := _q47.lt
          refine WL_s rfl rfl ?_
          have _f_41 := (_q45.ch0 _cw_39)
          refine s_append (cs := acs) el74 sz49 by49 zr49 rfl (by decide) acs_one _f_41 _q47.ls rfl rfl (by first | omega | (simp only [List.length_append, List.length_nil, List.length_cons, List.length_replicate, List.length_set, List.length_reverse, List.length_map] at *; omega) | (simp at *; omega)) (by first | omega | (simp only [List.length_append, List.length_nil, List.length_cons, List.length_replicate, List.length_set, List.length_reverse, List.length_map] at *; omega) | (simp at *; omega)) (fun g hg => _lo0_3 g (_bb45 ▸ hg)) (by omega) fun _v48 _w_40 _q48 _lo48 _ap48 _cw_40 => ?_
          have _cw_40z := _cw_40.size
          have E := E.step _cw_40 (fun i hi => .inl (by have _h1 := (fun g hg => _lo0_3 g (_bb45 ▸ hg)) _ hi; omega))
          obtain ⟨_Av48, _Cv48, _ev48⟩ := _q48.val
          subst _ev48
          have _lv48 := _q48.len
          have _hiv48 := _q48.lt
          refine WL_step rfl rfl (r_assign rfl) ?_
          refine WL_nil ?_
          refine inB_nrm ?_
          refine thn_nrm (_hK_13 _ _ ?_)
          clear _hK_13
          refine W_region ?_
          refine WL_step rfl rfl (r_add (by omega) rfl rfl) ?_
          refine WL_step rfl rfl (r_move rfl) ?_
          refine WL_nil ?_
          have _f_42 := (_m42.ch0 _cw_39)
          have _f_43 := ((_q40.ch0 _cw_36).ch0 _cw_39)
          obtain ⟨s2, _p2, k2, j2⟩ := Tks.push (tok := _y15) tks (by omega) hisv ((((((((Ch.refl [] _wr_9).trans _cw_16).step _cw_17 (fun i hi => .inl (by have _h1 := List.mem_singleton.1 hi; omega))).trans _cw_25).trans _cw_31).trans _cw_34).trans _cw_36).trans _cw_39) _f_42 (by omega) _f_43 (fun g hg => by have _h1 := _lo40 g hg; omega) _bb45 _cw_40 _ap48 (bt_d _h32) (by omega)
          have _on_44 : Ol acs 49 1 _w_40 (.slice _Av48 (((ps.take ((((ps.length : Nat) : Int) - (arK _y15.kind)).toNat)) ++ [(⟨_b42, 0, none⟩ : Addr)])).length _Cv48) (((ps.take ((((ps.length : Nat) : Int) - (arK _y15.kind)).toNat)) ++ [(⟨_b42, 0, none⟩ : Addr)])) := by
            have hx := _q48
            exact hx
          exact thn_nrm (Exists.intro ((i + 1), ((ps.take ((((ps.length : Nat) : Int) - (arK _y15.kind)).toNat)) ++ [(⟨_b42, 0, none⟩ : Addr)]), s2, (.slice _Av48 (((ps.take ((((ps.length : Nat) : Int) - (arK _y15.kind)).toNat)) ++ [(⟨_b42, 0, none⟩ : Addr)])).length _Cv48)) ⟨⟨E, (by omega), (by omega), (by simp only [List.length_append, List.length_take, List.length_singleton]; omega), (by omega), ((prs_snoc hp _hy15).trans _p2), _on_44, (Lo.down _lo48 (by omega)), k2⟩, Sub.cons rfl (Sub.cons rfl (Sub.cons rfl (Sub.cons rfl (Sub.nil _)))), (by first | omega | (dsimp only; omega))⟩)
    clear _hK_20
    refine W_seq fun _K_45 _hK_45 => ?_
    refine W_region ?_
    refine WL_step rfl rfl (r_fieldAddr fa55_0 rfl) ?_
    refine WL_step rfl rfl (r_loadAt _m_18.at_ agg3 rfl rfl) ?_
    refine WL_nil ?_
    refine thn_nrm (_hK_45 _ _ ?_)
    clear _hK_45
    refine W_block ?_
    refine W_seq fun _K_46 _hK_46 => ?_
    refine W_seq fun _K_47 _hK_47 => ?_
    refine W_region ?_
    refine WL_step rfl rfl (r_eql rfl rfl) ?_
    refine WL_step rfl rfl (r_assign rfl) ?_
    refine WL_nil ?_
    refine thn_nrm (_hK_47 _ _ ?_)
    clear _hK_47
    refine W_cond rfl (fun _h19 => ?_) (fun _h19 => ?_)
    · have _kb_48 := _h19
      have _h19 := bt_d _h19
      refine W_skip ?_
      refine thn_nrm (_hK_46 _ _ ?_)
      clear _hK_46
      refine W_condTk rfl _kb_48 ?_
      refine W_region ?_
      refine WL_step rfl rfl (r_assign rfl) ?_
      refine WL_nil ?_
      refine inB_nrm ?_
      refine thn_nrm ?_
      exact _J_21 _ (Sub.cons rfl (Sub.cons rfl (Sub.cons (by unfold arK; first | rfl | (repeat (first | rw [if_pos (by omega)] | rw [if_neg (by omega)])) <;> rfl) (Sub.cons rfl (Sub.cons rfl (Sub.cons rfl (Sub.cons rfl (Sub.cons rfl (Sub.cons rfl (Sub.nil _))))))))))
    · have _kb_48 := _h19
      have _h19 := bf_d _h19
      refine W_region ?_
      refine WL_step rfl rfl (r_eql rfl rfl) ?_
      refine WL_step rfl rfl (r_assign rfl) ?_
      refine WL_nil ?_
      refine thn_nrm (_hK_46 _ _ ?_)
      clear _hK_46
      refine W_cond rfl (fun _h19 => ?_) (fun _h19 => ?_)
      · have _kb_49 := _h19
        have _h19 := bt_d _h19
        refine W_region ?_
        refine WL_step rfl rfl (r_assign rfl) ?_
        refine WL_nil ?_
        refine inB_nrm ?_
        refine thn_nrm ?_
        exact _J_21 _ (Sub.cons rfl (Sub.cons rfl (Sub.cons (by unfold arK; first | rfl | (repeat (first | rw [if_pos (by omega)] | rw [if_neg (by omega)])) <;> rfl) (Sub.cons rfl (Sub.cons rfl (Sub.cons rfl (Sub.cons rfl (Sub.cons rfl (Sub.cons rfl (Sub.nil _))))))))))
      · have _kb_49 := _h19
        have _h19 := bf_d _h19
        refine W_seq fun _K_50 _hK_50 => ?_
        refine W_seq fun _K_51 _hK_51 => ?_
        refine W_region ?_
        refine WL_step rfl rfl (r_eql rfl rfl) ?_
        refine WL_step rfl rfl (r_assign rfl) ?_
        refine WL_nil ?_
        refine thn_nrm (_hK_51 _ _ ?_)
        clear _hK_51
        refine W_cond rfl (fun _h22 => ?_) (fun _h22 => ?_)
        · have _kb_52 := _h22
          have _h22 := bt_d _h22
          refine W_skip ?_
          refine thn_nrm (_hK_50 _ _ ?_)
          clear _hK_50
          refine W_condTk rfl _kb_52 ?_
          refine W_region ?_
          refine WL_step rfl rfl (r_assign rfl) ?_
          refine WL_nil ?_
          refine inB_nrm ?_
          refine thn_nrm ?_
          exact _J_21 _ (Sub.cons rfl (Sub.cons rfl (Sub.cons (by unfold arK; first | rfl | (repeat (first | rw [if_pos (by omega)] | rw [if_neg (by omega)])) <;> rfl) (Sub.cons rfl (Sub.cons rfl (Sub.cons rfl (Sub.cons rfl (Sub.cons rfl (Sub.cons rfl (Sub.nil _))))))))))
        · have _kb_52 := _h22
          have _h22 := bf_d _h22
          refine W_region ?_
          refine WL_step rfl rfl (r_eql rfl rfl) ?_
          refine WL_step rfl rfl (r_assign rfl) ?_
          refine WL_nil ?_
          refine thn_nrm (_hK_50 _ _ ?_)
          clear _hK_50
          refine W_cond rfl (fun _h22 => ?_) (fun _h22 => ?_)
          · have _kb_53 := _h22
            have _h22 := bt_d _h22
            refine W_region ?_
            refine WL_step rfl rfl (r_assign rfl) ?_
            refine WL_nil ?_
            refine inB_nrm ?_
            refine thn_nrm ?_
            exact _J_21 _ (Sub.cons rfl (Sub.cons rfl (Sub.cons (by unfold arK; first | rfl | (repeat (first | rw [if_pos (by omega)] | rw [if_neg (by omega)])) <;> rfl) (Sub.cons rfl (Sub.cons rfl (Sub.cons rfl (Sub.cons rfl (Sub.cons rfl (Sub.cons rfl (Sub.nil _))))))))))
          · have _kb_53 := _h22
            have _h22 := bf_d _h22
            refine W_skip ?_
            refine inB_nrm ?_
            refine thn_nrm ?_
            exact _J_21 _ (Sub.cons rfl (Sub.cons rfl (Sub.cons (by unfold arK; first | rfl | (repeat (first | rw [if_pos (by omega)] | rw [if_neg (by omega)])) <;> rfl) (Sub.cons rfl (Sub.cons rfl (Sub.cons rfl (Sub.cons rfl (Sub.cons rfl (Sub.cons rfl (Sub.nil _))))))))))
  · have _kb_12 := _h14
    have _h14 := bf_d _h14
    refine W_exit (thn_exit (thn_exit (inB_hit ?_)))
    refine thn_nrm (_hK_5 _ _ ?_)
    clear _hK_5
    refine W_seq fun _K_54 _hK_54 => ?_
    refine W_seq fun _K_55 _hK_55 => ?_
    refine W_region ?_
    refine WL_step rfl rfl (r_move rfl) ?_
    refine WL_step rfl rfl (r_len (by rw [el74]; rfl) rfl) ?_
    refine WL_step rfl rfl (r_neq rfl rfl) ?_
    refine WL_nil ?_
    refine thn_nrm (_hK_55 _ _ ?_)
    clear _hK_55
    refine W_cond rfl (fun _h52 => ?_) (fun _h52 => ?_)
    · have _kb_56 := _h52
      have _h52 := bf_d (bt_n _h52)
      refine W_seq fun _K_57 _hK_57 => ?_
      refine W_region ?_
      refine WL_step rfl rfl (r_assign rfl) ?_
      refine WL_nil ?_
      refine thn_nrm (_hK_57 _ _ ?_)
      clear _hK_57
      refine W_ret (thn_ret ?_)
      clear _hK_11 _hK_54
      exact ret_intro [_] ⟨rfl, trivial⟩ ⟨.inl ⟨(by first | exact treeL_none hp (by omega) (by omega) | exact isE_no hp _hy15 (push_bad (by first | exact .inl _h32 | (right; omega)))), rfl⟩, E⟩
    · have _kb_56 := _h52
      have _h52 := bt_d (bf_n _h52)
      refine W_skip ?_
      refine thn_nrm (_hK_54 _ _ ?_)
      clear _hK_54
      refine W_seq fun _K_58 _hK_58 => ?_
      refine W_region ?_
      refine WL_step rfl rfl (r_move rfl) ?_
      refine WL_s rfl rfl ?_
      refine (s_index (j := 0) _o0_3.ls acs_len el74 sz49 rfl rfl rfl (by omega) fun _p54 _y54 _hy54 _a54 => ?_)
      replace _a54 : At _wr_9 0 _wr_9.heap.size _p54 ([(.pointer (some _y54))]) := _a54
      obtain ⟨_t9, _e9, k9⟩ := tks.one (by omega) _hy54
      subst _e9
      refine WL_step rfl rfl (r_loadAt0 _a54 agg49 rfl rfl) ?_
      refine WL_step rfl rfl (r_assign rfl) ?_
      refine WL_nil ?_
      refine thn_nrm (_hK_58 _ _ ?_)
      clear _hK_58
      refine W_ret ?_
      clear _hK_11
      exact ret_intro [_] ⟨rfl, trivial⟩ ⟨.inr ⟨_, _, (treeL_some hp (by omega)), rfl, k9⟩, E⟩

/-- impl.IsExpr -/
theorem c_impl_IsExpr {w : World} {LL_e _B_e : Nat} {_v_e : Value} {e : List Token} (_h_e : Ls Token.cs 4 w LL_e _B_e _v_e e) (hb : e.length ≤ 1048576) :
    Ctr Try.prog 42 #[(.agg #[_v_e])] w (fun v w' => v = .bool (isE e) ∧ Ch [] w w') := by
  obtain ⟨_A_e, _C_e, _e1_e⟩ := _h_e.val
  subst _e1_e
  have _l_e := _h_e.len
  have _h_e := _h_e.here (by decide)
  have E := Ch.refl [] w
  refine Ctr_of_W (N := 6) (vs0 := [(.agg #[(.slice _A_e e.length _C_e)])]) Try.func42 rfl rfl rfl ?_
  refine W_seq fun _K_1 _hK_1 => ?_
  refine W_region ?_
  refine WL_s rfl rfl ?_
  refine s_box rfl fun _b1 _w_2 _m1 _cw_2 _e1 => ?_
  have _cw_2z := _cw_2.size
  have E := E.trans _cw_2
  have _z1 := _m1.lt
  replace _m1 : Blk _w_2 _b1 30 [(.slice _A_e e.length _C_e)] := _m1
  refine WL_step rfl rfl (r_assign rfl) ?_
  refine WL_nil ?_
  refine thn_nrm (_hK_1 _ _ ?_)
  clear _hK_1
  refine W_seq fun _K_3 _hK_3 => ?_
  refine W_region ?_
  refine WL_step rfl rfl (r_loadAtA0 _m1.at_ agg30 sz30 rfl) ?_
  refine WL_s rfl rfl ?_
  have _f_4 := (_h_e.ch0 _cw_2)
  refine Step.call (r_call (xs := [.tmp 3]) fk25 rfl) (c_impl_treeOf _f_4 (by omega)) fun _v4 _w_5 _q4 => ?_
  obtain ⟨_q4, _cw_5⟩ := _q4
  have _cw_5z := _cw_5.size
  have E := E.trans _cw_5
  rcases _q4 with ⟨_e4, rfl⟩ | ⟨tt4, _p4, _e4, rfl, _tr4⟩
  · refine WL_step rfl rfl (r_nePN ptr49 rfl rfl) ?_
    refine WL_step rfl rfl (r_assign rfl) ?_
    refine WL_nil ?_
    refine thn_nrm (_hK_3 _ _ ?_)
    clear _hK_3
    refine W_ret ?_
    exact ret_intro [_] ⟨rfl, trivial⟩ ⟨congrArg Value.bool (by first | exact isE_some _e4 | exact isE_none _e4), E⟩
  · replace _tr4 : TrAt _w_5 _w_2.heap.size _w_5.heap.size _p4 tt4 := _tr4
    obtain ⟨_A_4, _C_4, _ps_4, _hc_4, _hk_4, _kd_4⟩ := _tr4.open
    have _kl_4 := _kd_4.1
    refine WL_step rfl rfl (r_nePN ptr49 rfl rfl) ?_
    refine WL_step rfl rfl (r_assign rfl) ?_
    refine WL_nil ?_
    refine thn_nrm (_hK_3 _ _ ?_)
    clear _hK_3
    refine W_ret ?_
    exact ret_intro [_] ⟨rfl, trivial⟩ ⟨congrArg Value.bool (by first | exact isE_some _e4 | exact isE_none _e4), E⟩

/-- impl.IsValidExpr -/
theorem c_impl_IsValidExpr {w : World} {LL_e _B_e : Nat} {_v_e : Value} {e : List Token} (_h_e : Ls Token.cs 4 w LL_e _B_e _v_e e) (hb : e.length ≤ 1048576) :
    Ctr Try.prog 23 #[(.agg #[_v_e])] w (fun v w' => v = .bool (ivE e) ∧ Ch [] w w') := by
  obtain ⟨_A_e, _C_e, _e1_e⟩ := _h_e.val
  subst _e1_e
  have _l_e := _h_e.len
  have _h_e := _h_e.here (by decide)
  have E := Ch.refl [] w
  refine Ctr_of_W (N := 11) (vs0 := [(.agg #[(.slice _A_e e.length _C_e)])]) Try.func23 rfl rfl rfl ?_
  refine W_seq fun _K_1 _hK_1 => ?_
  refine W_region ?_
  refine WL_s rfl rfl ?_
  refine s_box rfl fun _b1 _w_2 _m1 _cw_2 _e1 => ?_
  have _cw_2z := _cw_2.size
  have E := E.trans _cw_2
  have _z1 := _m1.lt
  replace _m1 : Blk _w_2 _b1 30 [(.slice _A_e e.length _C_e)] := _m1
  refine WL_step rfl rfl (r_assign rfl) ?_
  refine WL_nil ?_
  refine thn_nrm (_hK_1 _ _ ?_)
  clear _hK_1
  refine W_seq fun _K_3 _hK_3 => ?_
  refine W_region ?_
  refine WL_step rfl rfl (r_fieldAddr fa30_0 rfl) ?_
  refine WL_step rfl rfl (r_loadAt _m1.at_ agg28 rfl rfl) ?_
  refine WL_step rfl rfl (r_len (by rw [el28]; rfl) rfl) ?_
  refine WL_step rfl rfl (r_leq rfl rfl) ?_
  refine WL_step rfl rfl (r_move rfl) ?_
  refine WL_split (d := 7) rfl (fun _h7 => ?_) (fun _h7 => ?_)
  · have _kb_4 := _h7
    have _h7 := bt_d _h7
    refine WL_step rfl rfl (r_loadAtA0 _m1.at_ agg30 sz30 rfl) ?_
    refine WL_s rfl rfl ?_
    have _f_5 := (_h_e.ch0 _cw_2)
    refine Step.call (r_call (xs := [.tmp 8]) fk42 rfl) (c_impl_IsExpr _f_5 (by omega)) fun _v9 _w_6 _q9 => ?_
    obtain ⟨rfl, _cw_6⟩ := _q9
    have _cw_6z := _cw_6.size
    have E := E.trans _cw_6
    refine WL_step rfl rfl (r_pickT rfl rfl) ?_
    refine WL_step rfl rfl (r_assign rfl) ?_
    refine WL_nil ?_
    refine thn_nrm (_hK_3 _ _ ?_)
    clear _hK_3
    refine W_ret ?_
    exact ret_intro [_] ⟨rfl, trivial⟩ ⟨congrArg Value.bool (by unfold ivE; first | (rw [decide_eq_true (by omega)]; rfl) | (rw [decide_eq_false (by omega)]; rfl)), E⟩
  · have _kb_4 := _h7
    have _h7 := bf_d _h7
    refine WL_skip rfl rfl ?_
    refine WL_skip rfl rfl ?_
    refine WL_step rfl rfl (r_pickF rfl rfl) ?_
    refine WL_step rfl rfl (r_assign rfl) ?_
    refine WL_nil ?_
    refine thn_nrm (_hK_3 _ _ ?_)
    clear _hK_3
    refine W_ret ?_
    exact ret_intro [_] ⟨rfl, trivial⟩ ⟨congrArg Value.bool (by unfold ivE; first | (rw [decide_eq_true (by omega)]; rfl) | (rw [decide_eq_false (by omega)]; rfl)), E⟩

/-- impl.tree).bound -/
theorem c_impl_tree_bound_n : ∀ (n : Nat) {w : World} {LT_x _B_x : Nat} {p_x : Addr} {x : Tr} (_h_x : TrAt w LT_x _B_x p_x x) (hok : Okd x) (hsz : x.sz < n),
    Ctr Try.prog 52 #[(.pointer (some p_x))] w (fun v w' => v = .int .i64 (bndT x) ∧ Ch [] w w') := by
  intro n
  induction n with
  | zero => intros; omega
  | succ n ih =>
  intro w LT_x _B_x p_x x _h_x hok hsz
  have _h_x := _h_x.here
  obtain ⟨_A_x, _C_x, _ps_x, _hc_x, _hk_x, _kd_x⟩ := _h_x.open
  have _kl_x := _kd_x.1
  have E := Ch.refl [] w
  have k2 := x.kids_le
  refine Ctr_of_W (N := 39) (vs0 := [(.pointer (some p_x))]) Try.func52 rfl rfl rfl ?_
  refine W_seq fun _K_1 _hK_1 => ?_
  refine W_region ?_
  refine WL_step rfl rfl (r_assign rfl) ?_
  refine WL_nil ?_
  refine thn_nrm (_hK_1 _ _ ?_)
  clear _hK_1
  refine W_seq fun _K_2 _hK_2 => ?_
  refine W_region ?_
  refine WL_step rfl rfl (r_assign rfl) ?_
  refine WL_nil ?_
  refine thn_nrm (_hK_2 _ _ ?_)
  clear _hK_2
  refine W_seq fun _K_3 _hK_3 => ?_
  refine W_seq fun _K_4 _hK_4 => ?_
  refine W_region ?_
  refine WL_step rfl rfl (r_move rfl) ?_
  refine WL_step rfl rfl (r_nilCheck rfl) ?_
  refine WL_step rfl rfl (r_fieldAddr fa78_1 rfl) ?_
  refine WL_step rfl rfl (r_loadAt _hc_x agg74 rfl rfl) ?_
  refine WL_step rfl rfl (r_len (by rw [el74]; rfl) rfl) ?_
  refine WL_step rfl rfl (r_move rfl) ?_
  refine WL_nil ?_
  refine thn_nrm (_hK_4 _ _ ?_)
  clear _hK_4
  refine W_block ?_
  refine W_loop (σ := Nat × Int) (fun ⟨i, n⟩ => [(0, (.pointer (some p_x))), (2, (.int .i64 0)), (3, (.int .i64 n)), (9, (.slice _A_x _ps_x.length _C_x)), (10, (.int .i64 ((_ps_x.length : Nat) : Int))), (11, (.int .i64 ((i : Nat) : Int)))]) (fun ⟨i, n⟩ wx => Ch [] w wx ∧ w.heap.size ≤ wx.heap.size ∧ (i ≤ x.kids.length) ∧ (n = 1 + bndS x i)) (fun ⟨i, n⟩ => x.kids.length - i) (0, 1) (Sub.cons rfl (Sub.cons rfl (Sub.cons rfl (Sub.cons rfl (Sub.cons rfl (Sub.cons rfl (Sub.nil _))))))) ⟨E, (Nat.le_refl _), (by omega), (by simp [bndS])⟩ ?_
  rintro ⟨i, n⟩ _wr_5 ⟨E, _zz0, hi, hn⟩
  have _E0h := E
  have _E0hz := _E0h.size
  have rs := bndS_rng (i := i) hok
  refine W_seq fun _K_6 _hK_6 => ?_
  refine W_region ?_
  refine WL_step rfl rfl (r_lss rfl rfl) ?_
  refine WL_nil ?_
  refine thn_nrm (_hK_6 _ _ ?_)
  clear _hK_6
  refine W_seq fun _K_7 _hK_7 => ?_
  refine W_cond rfl (fun _h12 => ?_) (fun _h12 => ?_)
  · have _kb_8 := _h12
    have _h12 := bt_d _h12
    refine W_skip ?_
    refine thn_nrm (_hK_7 _ _ ?_)
    clear _hK_7
    refine W_seq fun _K_9 _hK_9 => ?_
    refine W_block ?_
    refine W_seq fun _K_10 _hK_10 => ?_
    refine W_region ?_
    refine WL_s rfl rfl ?_
    have _f_11 := (_hk_x.ch0 _E0h)
    refine (s_index _f_11 acs_len el74 sz49 rfl rfl rfl (by omega) fun _p13 _y13 _hy13 _a13 => ?_)
    have _f_12 := (_kd_x.ch0 _E0h)
    obtain ⟨_t13, ht13, _tr13⟩ := _f_12.get _hy13
    obtain ⟨_A_13, _C_13, _ps_13, _hc_13, _hk_13, _kd_13⟩ := _tr13.open
    have _kl_13 := _kd_13.1
    replace _a13 : At _wr_5 LT_x w.heap.size _p13 ([(.pointer (some _y13))]) := _a13
    have rk := bndT_rng (hok.kid ht13)
    refine WL_step rfl rfl (r_loadAt0 _a13 agg49 rfl rfl) ?_
    refine WL_step rfl rfl (r_assign rfl) ?_
    refine WL_nil ?_
    refine thn_nrm (_hK_10 _ _ ?_)
    clear _hK_10
    refine W_seq fun _K_13 _hK_13 => ?_
    refine W_region ?_
    refine WL_step rfl rfl (r_move rfl) ?_
    refine WL_step rfl rfl (r_nilCheck rfl) ?_
    refine WL_step rfl rfl (r_fieldAddr fa78_0 rfl) ?_
    refine WL_step rfl rfl (r_fieldAddrN (n := 0) fa55_0 rfl rfl) ?_
    have _f_14 := (_hc_x.ch0 _E0h)
    refine WL_step rfl rfl (r_loadAt _f_14 agg3 rfl rfl) ?_
    refine WL_step rfl rfl (r_eql rfl rfl) ?_
    refine WL_nil ?_
    refine thn_nrm (_hK_13 _ _ ?_)
    clear _hK_13
    refine W_cond rfl (fun _h20 => ?_) (fun _h20 => ?_)
    · have _kb_15 := _h20
      have _h20 := bt_d _h20
      have r7 := hok.r7 (by omega)
      have _m1 := Int.mul_nonneg (show 0 ≤ bndT _t13 + 3 by omega) (show 0 ≤ x.tok.high by omega)
      have _m2 := Int.mul_le_mul (show bndT _t13 + 3 ≤ 100003 by omega) (show x.tok.high ≤ 3 by omega) (by omega) (by omega)
      refine W_drawC [] 12 mixed rfl fun _w_16 _cw_16 => ?_
      have _cw_16z := _cw_16.size
      have E := E.trans _cw_16
      refine DR_s 0 rfl (by kernel_rfl) rfl rfl (t_v (fun _ => (r_move rfl)) ?_)
      refine DR_s 1 rfl (by kernel_rfl) rfl rfl (t_v (fun _ => (r_move rfl)) ?_)
      refine DR_s 4 rfl (by kernel_rfl) rfl rfl (t_v (fun _ => (r_move rfl)) ?_)
      refine DR_s 5 rfl (by kernel_rfl) rfl rfl (t_v (fun _ => (r_nilCheck rfl)) ?_)
      refine DR_s 6 rfl (by kernel_rfl) rfl rfl (t_v (fun _ => (r_fieldAddr fa78_0 rfl)) ?_)
      refine DR_s 7 rfl (by kernel_rfl) rfl rfl (t_v (fun _ => (r_fieldAddrN (n := 3) fa55_3 rfl rfl)) ?_)
      have _f_17 := (_f_14.ch0 _cw_16)
      refine DR_s 8 rfl (by kernel_rfl) rfl rfl (t_loadAt _f_17 (fun i hi => absurd hi List.not_mem_nil) agg3 rfl rfl ?_)
      refine DR_one 2 (by kernel_rfl) ?_
      refine DO_s rfl rfl rfl ?_
      have _f_18 := (_tr13.ch0 _cw_16)
      refine Step.call (r_call (xs := [.tmp 22]) fk52 rfl) (ih _f_18 (hok.kid ht13) (by have := Tr.kid_sz ht13; omega)) fun _v23 _w_19 _q23 => ?_
      obtain ⟨rfl, _cw_19⟩ := _q23
      have _cw_19z := _cw_19.size
      have E := E.trans _cw_19
      have _S_20 : Ch [] _w_16 _w_19 := ((Ch.refl _ _).trans _cw_19)
      refine ⟨_S_20, ?_⟩
      refine DR_s 3 rfl (by kernel_rfl) rfl rfl (t_v (fun _ => (r_add (by omega) rfl rfl)) ?_)
      refine DR_s 9 rfl (by kernel_rfl) rfl rfl (t_v (fun _ => (r_mul (by omega) rfl rfl)) ?_)
      refine DR_s 10 rfl (by kernel_rfl) rfl rfl (t_v (fun _ => (r_add (by omega) rfl rfl)) ?_)
      refine DR_s 11 rfl (by kernel_rfl) rfl rfl (t_v (fun _ => (r_assign rfl)) ?_)
      refine DR_done (by kernel_rfl) ?_
      refine inB_nrm ?_
      refine thn_nrm (_hK_9 _ _ ?_)
      clear _hK_9
      refine W_region ?_
      refine WL_step rfl rfl (r_add (by omega) rfl rfl) ?_
      refine WL_step rfl rfl (r_move rfl) ?_
      refine WL_nil ?_
      exact thn_nrm (Exists.intro ((i + 1), (n + ((bndT _t13 + 3) * x.tok.high))) ⟨⟨E, (by omega), (by omega), (by rw [bndS_step ht13]; first | (rw [if_pos (by omega)]; omega) | (rw [if_neg (by omega)]; omega))⟩, Sub.cons rfl (Sub.cons rfl (Sub.cons rfl (Sub.cons rfl (Sub.cons rfl (Sub.cons rfl (Sub.nil _)))))), (by first | omega | (dsimp only; omega))⟩)
    · have _kb_15 := _h20
      have _h20 := bf_d _h20
      refine W_region ?_
      refine WL_step rfl rfl (r_move rfl) ?_
      refine WL_step rfl rfl (r_move rfl) ?_
      refine WL_s rfl rfl ?_
      refine Step.call (r_call (xs := [.tmp 33]) fk52 rfl) (ih _tr13 (hok.kid ht13) (by have := Tr.kid_sz ht13; omega)) fun _v34 _w_21 _q34 => ?_
      obtain ⟨rfl, _cw_21⟩ := _q34
      have _cw_21z := _cw_21.size
      have E := E.trans _cw_21
      refine WL_step rfl rfl (r_add (by omega) rfl rfl) ?_
      refine WL_step rfl rfl (r_assign rfl) ?_
      refine WL_nil ?_
      refine inB_nrm ?_
      refine thn_nrm (_hK_9 _ _ ?_)
      clear _hK_9
      refine W_region ?_
      refine WL_step rfl rfl (r_add (by omega) rfl rfl) ?_
      refine WL_step rfl rfl (r_move rfl) ?_
      refine WL_nil ?_
      exact thn_nrm (Exists.intro ((i + 1), (n + bndT _t13)) ⟨⟨E, (by omega), (by omega), (by rw [bndS_step ht13]; first | (rw [if_pos (by omega)]; omega) | (rw [if_neg (by omega)]; omega))⟩, Sub.cons rfl (Sub.cons rfl (Sub.cons rfl (Sub.cons rfl (Sub.cons rfl (Sub.cons rfl (Sub.nil _)))))), (by first | omega | (dsimp only; omega))⟩)
  · have _kb_8 := _h12
    have _h12 := bf_d _h12
    refine W_exit (thn_exit (thn_exit (inB_hit ?_)))
    refine thn_nrm (_hK_3 _ _ ?_)
    clear _hK_3
    refine W_seq fun _K_22 _hK_22 => ?_
    refine W_region ?_
    refine WL_step rfl rfl (r_move rfl) ?_
    refine WL_step rfl rfl (r_min rfl rfl) ?_
    refine WL_step rfl rfl (r_assign rfl) ?_
    refine WL_nil ?_
    refine thn_nrm (_hK_22 _ _ ?_)
    clear _hK_22
    refine W_ret ?_
    clear _hK_7
    exact ret_intro [_] ⟨rfl, trivial⟩ ⟨congrArg (Value.int .i64) (by rw [hn]; exact bndS_end hok (by omega)), E⟩
theorem c_impl_tree_bound {w : World} {LT_x _B_x : Nat} {p_x : Addr} {x : Tr} (_h_x : TrAt w LT_x _B_x p_x x) (hok : Okd x) :
    Ctr Try.prog 52 #[(.pointer (some p_x))] w (fun v w' => v = .int .i64 (bndT x) ∧ Ch [] w w') := c_impl_tree_bound_n _ _h_x hok (Nat.lt_succ_self _)

/-- impl.leaf -/
theorem c_impl_leaf {w : World} (kind : Int) :
    Ctr Try.prog 68 #[(.int .i64 kind)] w (fun v w' => ∃ p, v = .pointer (some p) ∧ TrAt w' w.heap.size w'.heap.size p (.l0 ⟨kind, 0, 0, 0⟩) ∧ Ch [] w w') := by
  have E := Ch.refl [] w
  refine Ctr_of_W (N := 7) (vs0 := [(.int .i64 kind)]) Try.func68 rfl rfl rfl ?_
  refine W_seq fun _K_1 _hK_1 => ?_
  refine W_region ?_
  refine WL_step rfl rfl (r_assign rfl) ?_
  refine WL_nil ?_
  refine thn_nrm (_hK_1 _ _ ?_)
  clear _hK_1
  refine W_seq fun _K_2 _hK_2 => ?_
  refine W_region ?_
  refine WL_step rfl rfl (r_move rfl) ?_
  refine WL_step rfl rfl (r_build (parts := [(0, .tmp 3)]) (cells := [(.int .i64 kind), (.int .i64 0), (.int .i64 0), (.int .i64 0)]) zr55 pl55 rfl rfl) ?_
  refine WL_step rfl rfl (r_build (parts := [(0, .tmp 4)]) (cells := [(.int .i64 kind), (.int .i64 0), (.int .i64 0), (.int .i64 0), (.slice none 0 0)]) zr78 pl78 rfl rfl) ?_
  refine WL_s rfl rfl ?_
  refine s_box rfl fun _b6 _w_3 _m6 _cw_3 _e6 => ?_
  have _cw_3z := _cw_3.size
  have E := E.trans _cw_3
  have _z6 := _m6.lt
  replace _m6 : Blk _w_3 _b6 78 [(.int .i64 kind), (.int .i64 0), (.int .i64 0), (.int .i64 0), (.slice none 0 0)] := _m6
  refine WL_step rfl rfl (r_assign rfl) ?_
  refine WL_nil ?_
  refine thn_nrm (_hK_2 _ _ ?_)
  clear _hK_2
  refine W_ret ?_
  exact ret_intro [_] ⟨rfl, trivial⟩ ⟨_, rfl, (TrAt.mk (k := ⟨kind, 0, 0, 0⟩) (L := w.heap.size) (B := w.heap.size) _m6 (by omega) (Ol.nil (cs := acs) (e := 0) _) (Lo.nil _) Kd.nil (by decide) (by omega)), E⟩

/-- impl.repeated -/
theorem c_impl_repeated_n : ∀ (n : Nat) {w : World} {LT_x _B_x : Nat} {p_x : Addr} {x : Tr} (_h_x : TrAt w LT_x _B_x p_x x) (low : Int) (high : Int) (_h0 : 0 ≤ low) (hh : 0 ≤ high) (_h4 : low ≤ 3) (_h5 : high ≤ 3) (hsz : high.toNat < n),
    Ctr Try.prog 64 #[(.pointer (some p_x)), (.int .i64 low), (.int .i64 high)] w (fun v w' => ∃ p, v = .pointer (some p) ∧ TrAt w' LT_x w'.heap.size p (timT x low (high).toNat) ∧ Ch [] w w') := by
  intro n
  induction n with
  | zero => intros; omega
  | succ n ih =>
  intro w LT_x _B_x p_x x _h_x low high _h0 hh _h4 _h5 hsz
  have _h_x := _h_x.here
  obtain ⟨_A_x, _C_x, _ps_x, _hc_x, _hk_x, _kd_x⟩ := _h_x.open
  have _kl_x := _kd_x.1
  have E := Ch.refl [] w
  have lbx := _h_x.lb
  refine Ctr_of_W (N := 32) (vs0 := [(.pointer (some p_x)), (.int .i64 low), (.int .i64 high)]) Try.func64 rfl rfl rfl ?_
  refine W_seq fun _K_1 _hK_1 => ?_
  refine W_region ?_
  refine WL_step rfl rfl (r_assign rfl) ?_
  refine WL_nil ?_
  refine thn_nrm (_hK_1 _ _ ?_)
  clear _hK_1
  refine W_seq fun _K_2 _hK_2 => ?_
  refine W_seq fun _K_3 _hK_3 => ?_
  refine W_region ?_
  refine WL_step rfl rfl (r_move rfl) ?_
  refine WL_step rfl rfl (r_eql rfl rfl) ?_
  refine WL_nil ?_
  refine thn_nrm (_hK_3 _ _ ?_)
  clear _hK_3
  refine W_cond rfl (fun _h9 => ?_) (fun _h9 => ?_)
  · have _kb_4 := _h9
    have _h9 := bt_d _h9
    refine W_seq fun _K_5 _hK_5 => ?_
    refine W_region ?_
    refine WL_s rfl rfl ?_
    refine Step.call (r_call (xs := [.const (Go.Value.int Go.IntKind.i64 2)]) fk68 rfl) (c_impl_leaf _ ) fun _v10 _w_6 _q10 => ?_
    obtain ⟨_p10, rfl, _tr10, _cw_6⟩ := _q10
    have _cw_6z := _cw_6.size
    have E := E.trans _cw_6
    replace _tr10 : TrAt _w_6 w.heap.size _w_6.heap.size _p10 (.l0 ⟨2, 0, 0, 0⟩) := _tr10
    obtain ⟨_A_10, _C_10, _ps_10, _hc_10, _hk_10, _kd_10⟩ := _tr10.open
    have _kl_10 := _kd_10.1
    refine WL_step rfl rfl (r_assign rfl) ?_
    refine WL_nil ?_
    refine thn_nrm (_hK_5 _ _ ?_)
    clear _hK_5
    refine W_ret (thn_ret ?_)
    clear _hK_2
    exact ret_intro [_] ⟨rfl, trivial⟩ ⟨_, rfl, (tim0 (x := x) (low := low) (high := high) (by omega) ▸ (_tr10.up (by omega) (by omega))), E⟩
  · have _kb_4 := _h9
    have _h9 := bf_d _h9
    refine W_skip ?_
    refine thn_nrm (_hK_2 _ _ ?_)
    clear _hK_2
    refine W_seq fun _K_7 _hK_7 => ?_
    refine W_region ?_
    refine WL_step rfl rfl (r_build (parts := [(0, .const (Go.Value.int Go.IntKind.i64 4))]) (cells := [(.int .i64 4), (.int .i64 0), (.int .i64 0), (.int .i64 0)]) zr55 pl55 rfl rfl) ?_
    refine WL_step rfl rfl (r_move rfl) ?_
    refine WL_step rfl rfl (r_move rfl) ?_
    refine WL_step rfl rfl (r_move rfl) ?_
    refine WL_step rfl rfl (r_sub (by omega) rfl rfl) ?_
    refine WL_step rfl rfl (r_max rfl rfl) ?_
    refine WL_step rfl rfl (r_move rfl) ?_
    refine WL_step rfl rfl (r_sub (by omega) rfl rfl) ?_
    refine WL_s rfl rfl ?_
    refine Step.call (r_call (xs := [.tmp 13, .tmp 16, .tmp 18]) fk64 rfl) (ih _h_x _ _ (by split <;> omega) (by omega) (by split <;> omega) (by omega) (by omega)) fun _v19 _w_8 _q19 => ?_
    obtain ⟨_p19, rfl, _tr19, _cw_8⟩ := _q19
    have _cw_8z := _cw_8.size
    have E := E.trans _cw_8
    replace _tr19 : TrAt _w_8 LT_x _w_8.heap.size _p19 (timT x (if (low - 1) > 0 then (low - 1) else 0) ((high - 1)).toNat) := _tr19
    obtain ⟨_A_19, _C_19, _ps_19, _hc_19, _hk_19, _kd_19⟩ := _tr19.open
    have _kl_19 := _kd_19.1
    refine WL_s rfl rfl ?_
    refine s_buildSliceP (parts := [(0, .tmp 12), (1, .tmp 19)]) [(p_x : Addr), (_p19 : Addr)] el74 sz49 zr49 rfl rfl (by decide) (by decide) rfl fun _v20 _w_9 _q20 _lo20 _cw_9 => ?_
    have _cw_9z := _cw_9.size
    have E := E.trans _cw_9
    obtain ⟨_Av20, _Cv20, _ev20⟩ := _q20.val
    subst _ev20
    have _lv20 := _q20.len
    have _hiv20 := _q20.lt
    refine WL_step rfl rfl (r_build (parts := [(0, .tmp 11), (1, .tmp 20)]) (cells := [(.int .i64 4), (.int .i64 0), (.int .i64 0), (.int .i64 0), (.slice _Av20 ([(p_x : Addr), (_p19 : Addr)]).length _Cv20)]) zr78 pl78 rfl rfl) ?_
    refine WL_s rfl rfl ?_
    refine s_box rfl fun _b22 _w_10 _m22 _cw_10 _e22 => ?_
    have _cw_10z := _cw_10.size
    have E := E.trans _cw_10
    have _z22 := _m22.lt
    replace _m22 : Blk _w_10 _b22 78 [(.int .i64 4), (.int .i64 0), (.int .i64 0), (.int .i64 0), (.slice _Av20 ([(p_x : Addr), (_p19 : Addr)]).length _Cv20)] := _m22
    refine WL_step rfl rfl (r_assign rfl) ?_
    refine WL_nil ?_
    refine thn_nrm (_hK_7 _ _ ?_)
    clear _hK_7
    refine W_seq fun _K_11 _hK_11 => ?_
    refine W_seq fun _K_12 _hK_12 => ?_
    refine W_region ?_
    refine WL_step rfl rfl (r_move rfl) ?_
    refine WL_step rfl rfl (r_gtr rfl rfl) ?_
    refine WL_nil ?_
    refine thn_nrm (_hK_12 _ _ ?_)
    clear _hK_12
    refine W_cond rfl (fun _h24 => ?_) (fun _h24 => ?_)
    · have _kb_13 := _h24
      have _h24 := bt_d _h24
      refine W_seq fun _K_14 _hK_14 => ?_
      refine W_region ?_
      refine WL_step rfl rfl (r_move rfl) ?_
      refine WL_step rfl rfl (r_assign rfl) ?_
      refine WL_nil ?_
      refine thn_nrm (_hK_14 _ _ ?_)
      clear _hK_14
      refine W_ret (thn_ret ?_)
      clear _hK_11
      have _f_15 := (((_h_x.ch0 _cw_8).ch0 _cw_9).ch0 _cw_10)
      have _f_16 := ((_tr19.ch0 _cw_9).ch0 _cw_10)
      have _f_17 := (_q20.ch0 _cw_10)
      exact ret_intro [_] ⟨rfl, trivial⟩ ⟨_, rfl, (timp (x := x) (low := low) (high := high) (by omega) (by omega) (by omega) ▸ (TrAt.mk (k := ⟨4, 0, 0, 0⟩) (L := LT_x) (B := _w_10.heap.size) _m22 (by omega) _f_17 (fun g hg => by have _h1 := _lo20 g hg; omega) (Kd.cons (_f_15.up (by omega) (by omega)) (Kd.cons (_f_16.up (by omega) (by omega)) Kd.nil)) (by simp) (by omega))), E⟩
    · have _kb_13 := _h24
      have _h24 := bf_d _h24
      refine W_skip ?_
      refine thn_nrm (_hK_11 _ _ ?_)
      clear _hK_11
      refine W_seq fun _K_18 _hK_18 => ?_
      refine W_region ?_
      refine WL_step rfl rfl (r_build (parts := [(0, .const (Go.Value.int Go.IntKind.i64 5))]) (cells := [(.int .i64 5), (.int .i64 0), (.int .i64 0), (.int .i64 0)]) zr55 pl55 rfl rfl) ?_
      refine WL_step rfl rfl (r_move rfl) ?_
      refine WL_s rfl rfl ?_
      refine Step.call (r_call (xs := [.const (Go.Value.int Go.IntKind.i64 2)]) fk68 rfl) (c_impl_leaf _ ) fun _v28 _w_19 _q28 => ?_
      obtain ⟨_p28, rfl, _tr28, _cw_19⟩ := _q28
      have _cw_19z := _cw_19.size
      have E := E.trans _cw_19
      replace _tr28 : TrAt _w_19 _w_10.heap.size _w_19.heap.size _p28 (.l0 ⟨2, 0, 0, 0⟩) := _tr28
      obtain ⟨_A_28, _C_28, _ps_28, _hc_28, _hk_28, _kd_28⟩ := _tr28.open
      have _kl_28 := _kd_28.1
      refine WL_s rfl rfl ?_
      refine s_buildSliceP (parts := [(0, .tmp 27), (1, .tmp 28)]) [(⟨_b22, 0, none⟩ : Addr), (_p28 : Addr)] el74 sz49 zr49 rfl rfl (by decide) (by decide) rfl fun _v29 _w_20 _q29 _lo29 _cw_20 => ?_
      have _cw_20z := _cw_20.size
      have E := E.trans _cw_20
      obtain ⟨_Av29, _Cv29, _ev29⟩ := _q29.val
      subst _ev29
      have _lv29 := _q29.len
      have _hiv29 := _q29.lt
      refine WL_step rfl rfl (r_build (parts := [(0, .tmp 26), (1, .tmp 29)]) (cells := [(.int .i64 5), (.int .i64 0), (.int .i64 0), (.int .i64 0), (.slice _Av29 ([(⟨_b22, 0, none⟩ : Addr), (_p28 : Addr)]).length _Cv29)]) zr78 pl78 rfl rfl) ?_
      refine WL_s rfl rfl ?_
      refine s_box rfl fun _b31 _w_21 _m31 _cw_21 _e31 => ?_
      have _cw_21z := _cw_21.size
      have E := E.trans _cw_21
      have _z31 := _m31.lt
      replace _m31 : Blk _w_21 _b31 78 [(.int .i64 5), (.int .i64 0), (.int .i64 0), (.int .i64 0), (.slice _Av29 ([(⟨_b22, 0, none⟩ : Addr), (_p28 : Addr)]).length _Cv29)] := _m31
      refine WL_step rfl rfl (r_assign rfl) ?_
      refine WL_nil ?_
      refine thn_nrm (_hK_18 _ _ ?_)
      clear _hK_18
      refine W_ret ?_
      have _f_22 := ((((((_h_x.ch0 _cw_8).ch0 _cw_9).ch0 _cw_10).ch0 _cw_19).ch0 _cw_20).ch0 _cw_21)
      have _f_23 := (((((_tr19.ch0 _cw_9).ch0 _cw_10).ch0 _cw_19).ch0 _cw_20).ch0 _cw_21)
      have _f_24 := ((_tr28.ch0 _cw_20).ch0 _cw_21)
      have _f_25 := (((_m22.ch0 _cw_19).ch0 _cw_20).ch0 _cw_21)
      have _f_26 := ((((_q20.ch0 _cw_10).ch0 _cw_19).ch0 _cw_20).ch0 _cw_21)
      have _f_27 := (_q29.ch0 _cw_21)
      exact ret_intro [_] ⟨rfl, trivial⟩ ⟨_, rfl, (timn (x := x) (low := low) (high := high) (by omega) (by omega) (by omega) ▸ (TrAt.mk (k := ⟨5, 0, 0, 0⟩) (L := LT_x) (B := _w_21.heap.size) _m31 (by omega) _f_27 (fun g hg => by have _h1 := _lo29 g hg; omega) (Kd.cons (TrAt.mk (k := ⟨4, 0, 0, 0⟩) (L := LT_x) (B := _w_21.heap.size) _f_25 (by omega) _f_26 (fun g hg => by have _h1 := _lo20 g hg; omega) (Kd.cons (_f_22.up (by omega) (by omega)) (Kd.cons (_f_23.up (by omega) (by omega)) Kd.nil)) (by simp) (by omega)) (Kd.cons (_f_24.up (by omega) (by omega)) Kd.nil)) (by simp) (by omega))), E⟩
theorem c_impl_repeated {w : World} {LT_x _B_x : Nat} {p_x : Addr} {x : Tr} (_h_x : TrAt w LT_x _B_x p_x x) (low : Int) (high : Int) (_h0 : 0 ≤ low) (hh : 0 ≤ high) (_h4 : low ≤ 3) (_h5 : high ≤ 3) :
    Ctr Try.prog 64 #[(.pointer (some p_x)), (.int .i64 low), (.int .i64 high)] w (fun v w' => ∃ p, v = .pointer (some p) ∧ TrAt w' LT_x w'.heap.size p (timT x low (high).toNat) ∧ Ch [] w w') := c_impl_repeated_n _ _h_x low high _h0 hh _h4 _h5 (Nat.lt_succ_self _)

/-- impl.tree).expand -/
theorem c_impl_tree_expand_n : ∀ (n : Nat) {w : World} {LT_x _B_x : Nat} {p_x : Addr} {x : Tr} (_h_x : TrAt w LT_x _B_x p_x x) (hok : Okd x) (hsz : x.sz < n),
    Ctr Try.prog 53 #[(.pointer (some p_x))] w (fun v w' => ∃ p, v = .pointer (some p) ∧ TrAt w' w.heap.size w'.heap.size p (expT x) ∧ Ch [] w w') := by
  intro n
  induction n with
  | zero => intros; omega
  | succ n ih =>
  intro w LT_x _B_x p_x x _h_x hok hsz
  have _h_x := _h_x.here
  obtain ⟨_A_x, _C_x, _ps_x, _hc_x, _hk_x, _kd_x⟩ := _h_x.open
  have _kl_x := _kd_x.1
  have E := Ch.refl [] w
  have k2 := x.kids_le; have k3 := hok.len
  refine Ctr_of_W (N := 58) (vs0 := [(.pointer (some p_x))]) Try.func53 rfl rfl rfl ?_
  refine W_seq fun _K_1 _hK_1 => ?_
  refine W_region ?_
  refine WL_step rfl rfl (r_assign rfl) ?_
  refine WL_nil ?_
  refine thn_nrm (_hK_1 _ _ ?_)
  clear _hK_1
  refine W_seq fun _K_2 _hK_2 => ?_
  refine W_seq fun _K_3 _hK_3 => ?_
  refine W_region ?_
  refine WL_step rfl rfl (r_move rfl) ?_
  refine WL_step rfl rfl (r_nilCheck rfl) ?_
  refine WL_step rfl rfl (r_fieldAddr fa78_0 rfl) ?_
  refine WL_step rfl rfl (r_fieldAddrN (n := 0) fa55_0 rfl rfl) ?_
  refine WL_step rfl rfl (r_loadAt _hc_x agg3 rfl rfl) ?_
  refine WL_step rfl rfl (r_eql rfl rfl) ?_
  refine WL_nil ?_
  refine thn_nrm (_hK_3 _ _ ?_)
  clear _hK_3
  refine W_cond rfl (fun _h11 => ?_) (fun _h11 => ?_)
  · have _kb_4 := _h11
    have _h11 := bt_d _h11
    obtain ⟨ta, _hk0, oa, sab, ga⟩ := hok.kk1 (by omega)
    have r7 := hok.r7 (by omega)
    refine W_seq fun _K_5 _hK_5 => ?_
    refine W_drawC [] 19 mixed rfl fun _w_6 _cw_6 => ?_
    have _cw_6z := _cw_6.size
    have E := E.trans _cw_6
    refine DR_s 0 rfl (by kernel_rfl) rfl rfl (t_v (fun _ => (r_move rfl)) ?_)
    refine DR_s 1 rfl (by kernel_rfl) rfl rfl (t_v (fun _ => (r_nilCheck rfl)) ?_)
    refine DR_s 2 rfl (by kernel_rfl) rfl rfl (t_v (fun _ => (r_fieldAddr fa78_1 rfl)) ?_)
    have _f_7 := (_hc_x.ch0 _cw_6)
    refine DR_s 3 rfl (by kernel_rfl) rfl rfl (t_loadAt _f_7 (fun i hi => absurd hi List.not_mem_nil) agg74 rfl rfl ?_)
    have _f_8 := (_hk_x.ch0 _cw_6)
    have _f_9 := (_kd_x.ch0 _cw_6)
    refine DR_s 4 rfl (by kernel_rfl) rfl rfl (t_index (j := 0) _f_8 acs_len el74 sz49 rfl rfl rfl (by omega) fun _p16 _y16 _hy16 _a16 => ?_)
    have ht16 := _hk0
    have _tr16 := _f_9.2 _ _ _ _hy16 _hk0
    obtain ⟨_A_16, _C_16, _ps_16, _hc_16, _hk_16, _kd_16⟩ := _tr16.open
    have _kl_16 := _kd_16.1
    replace _a16 : At _w_6 LT_x w.heap.size _p16 ([(.pointer (some _y16))]) := _a16
    refine DR_s 5 rfl (by kernel_rfl) rfl rfl (t_loadAt0 _a16 (fun i hi => absurd hi List.not_mem_nil) agg49 rfl rfl ?_)
    refine DR_s 7 rfl (by kernel_rfl) rfl rfl (t_v (fun _ => (r_move rfl)) ?_)
    refine DR_s 8 rfl (by kernel_rfl) rfl rfl (t_v (fun _ => (r_nilCheck rfl)) ?_)
    refine DR_s 9 rfl (by kernel_rfl) rfl rfl (t_v (fun _ => (r_fieldAddr fa78_0 rfl)) ?_)
    refine DR_s 10 rfl (by kernel_rfl) rfl rfl (t_v (fun _ => (r_fieldAddrN (n := 2) fa55_2 rfl rfl)) ?_)
    refine DR_s 11 rfl (by kernel_rfl) rfl rfl (t_loadAt _f_7 (fun i hi => absurd hi List.not_mem_nil) agg3 rfl rfl ?_)
    refine DR_s 12 rfl (by kernel_rfl) rfl rfl (t_v (fun _ => (r_move rfl)) ?_)
    refine DR_s 13 rfl (by kernel_rfl) rfl rfl (t_v (fun _ => (r_nilCheck rfl)) ?_)
    refine DR_s 14 rfl (by kernel_rfl) rfl rfl (t_v (fun _ => (r_fieldAddr fa78_0 rfl)) ?_)
    refine DR_s 15 rfl (by kernel_rfl) rfl rfl (t_v (fun _ => (r_fieldAddrN (n := 3) fa55_3 rfl rfl)) ?_)
    refine DR_s 16 rfl (by kernel_rfl) rfl rfl (t_loadAt _f_7 (fun i hi => absurd hi List.not_mem_nil) agg3 rfl rfl ?_)
    refine DR_one 6 (by kernel_rfl) ?_
    refine DO_s rfl rfl rfl ?_
    refine Step.call (r_call (xs := [.tmp 17]) fk53 rfl) (ih _tr16 oa (by omega)) fun _v18 _w_10 _q18 => ?_
    obtain ⟨_p18, rfl, _tr18, _cw_10⟩ := _q18
    have _cw_10z := _cw_10.size
    have E := E.trans _cw_10
    replace _tr18 : TrAt _w_10 _w_6.heap.size _w_10.heap.size _p18 (expT ta) := _tr18
    obtain ⟨_A_18, _C_18, _ps_18, _hc_18, _hk_18, _kd_18⟩ := _tr18.open
    have _kl_18 := _kd_18.1
    have _S_11 : Ch [] _w_6 _w_10 := ((Ch.refl _ _).trans _cw_10)
    refine ⟨_S_11, ?_⟩
    refine DR_one 17 (by kernel_rfl) ?_
    refine DO_s rfl rfl rfl ?_
    refine Step.call (r_call (xs := [.tmp 18, .tmp 23, .tmp 28]) fk64 rfl) (c_impl_repeated _tr18 _ _ (by omega) (by omega) (by omega) (by omega)) fun _v29 _w_12 _q29 => ?_
    obtain ⟨_p29, rfl, _tr29, _cw_12⟩ := _q29
    have _cw_12z := _cw_12.size
    have E := E.trans _cw_12
    replace _tr29 : TrAt _w_12 _w_6.heap.size _w_12.heap.size _p29 (timT (expT ta) x.tok.low (x.tok.high).toNat) := _tr29
    obtain ⟨_A_29, _C_29, _ps_29, _hc_29, _hk_29, _kd_29⟩ := _tr29.open
    have _kl_29 := _kd_29.1
    have _S_13 : Ch [] _w_6 _w_12 := (_S_11.trans _cw_12)
    refine ⟨_S_13, ?_⟩
    refine DR_s 18 rfl (by kernel_rfl) rfl rfl (t_v (fun _ => (r_assign rfl)) ?_)
    refine DR_done (by kernel_rfl) ?_
    refine thn_nrm (_hK_5 _ _ ?_)
    clear _hK_5
    refine W_ret (thn_ret ?_)
    clear _hK_2
    exact ret_intro [_] ⟨rfl, trivial⟩ ⟨_, rfl, (exp7 hok (by omega) _hk0 ▸ (_tr29.up (by omega) (by omega))), E⟩
  · have _kb_4 := _h11
    have _h11 := bf_d _h11
    refine W_skip ?_
    refine thn_nrm (_hK_2 _ _ ?_)
    clear _hK_2
    refine W_seq fun _K_14 _hK_14 => ?_
    refine W_region ?_
    refine WL_step rfl rfl (r_move rfl) ?_
    refine WL_step rfl rfl (r_nilCheck rfl) ?_
    refine WL_step rfl rfl (r_fieldAddr fa78_0 rfl) ?_
    refine WL_step rfl rfl (r_loadAtA 4 _hc_x agg55 sz55 rfl rfl) ?_
    refine WL_step rfl rfl (r_build (parts := [(0, .tmp 33)]) (cells := [(.int .i64 x.tok.kind), (.int .i64 x.tok.letter), (.int .i64 x.tok.low), (.int .i64 x.tok.high), (.slice none 0 0)]) zr78 pl78 rfl rfl) ?_
    refine WL_s rfl rfl ?_
    refine s_box rfl fun _b35 _w_15 _m35 _cw_15 _e35 => ?_
    have _cw_15z := _cw_15.size
    have E := E.trans _cw_15
    have _z35 := _m35.lt
    replace _m35 : Blk _w_15 _b35 78 [(.int .i64 x.tok.kind), (.int .i64 x.tok.letter), (.int .i64 x.tok.low), (.int .i64 x.tok.high), (.slice none 0 0)] := _m35
    refine WL_step rfl rfl (r_assign rfl) ?_
    refine WL_nil ?_
    refine thn_nrm (_hK_14 _ _ ?_)
    clear _hK_14
    refine W_seq fun _K_16 _hK_16 => ?_
    refine W_seq fun _K_17 _hK_17 => ?_
    refine W_region ?_
    refine WL_step rfl rfl (r_move rfl) ?_
    refine WL_step rfl rfl (r_nilCheck rfl) ?_
    refine WL_step rfl rfl (r_fieldAddr fa78_1 rfl) ?_
    have _f_18 := (_hc_x.ch0 _cw_15)
    refine WL_step rfl rfl (r_loadAt _f_18 agg74 rfl rfl) ?_
    refine WL_step rfl rfl (r_len (by rw [el74]; rfl) rfl) ?_
    refine WL_step rfl rfl (r_move rfl) ?_
    refine WL_nil ?_
    refine thn_nrm (_hK_17 _ _ ?_)
    clear _hK_17
    refine W_block ?_
    have _oi_19 : Ol acs 49 1 _w_15 (.slice none 0 0) (([] : List Addr)) := by
      have hx := (Ol.nil (cs := acs) (e := 49) (k := 1) _w_15)
      exact hx
    refine W_loop (σ := Nat × List Addr × Value) (fun ⟨i, ps, sv⟩ => [(2, (.pointer none)), (3, (.pointer (some ⟨_b35, 0, none⟩))), (39, (.slice _A_x _ps_x.length _C_x)), (40, (.int .i64 ((_ps_x.length : Nat) : Int))), (41, (.int .i64 ((i : Nat) : Int)))]) (fun ⟨i, ps, sv⟩ wx => Ch [] w wx ∧ _w_15.heap.size ≤ wx.heap.size ∧ (i ≤ x.kids.length) ∧ Ol acs 49 1 wx sv ps ∧ Lo _w_15.heap.size sv ∧ KdN wx w.heap.size _b35 sv ps ((x.kids.take i).map expT) ∧ Blk wx _b35 78 [(.int .i64 x.tok.kind), (.int .i64 x.tok.letter), (.int .i64 x.tok.low), (.int .i64 x.tok.high), sv] ∧ (_b35 ∉ bl sv)) (fun ⟨i, ps, sv⟩ => x.kids.length - i) (0, ([] : List Addr), (.slice none 0 0)) (Sub.cons rfl (Sub.cons rfl (Sub.cons rfl (Sub.cons rfl (Sub.cons rfl (Sub.nil _)))))) ⟨E, (Nat.le_refl _), (by omega), _oi_19, (Lo.nil _), (by simpa using KdN.nil _ _ _ _), _m35, (fun hm => by cases hm)⟩ ?_
    rintro ⟨i, ps, sv⟩ _wr_20 ⟨E, _zz0, hi, o0_3_4, lo0_3_4, kds, _m0_3, _nb0_3_4⟩
    have _E0h := E
    have _E0hz := _E0h.size
    obtain ⟨Asv, Csv, esv⟩ := o0_3_4.val
    subst esv
    have lsv := o0_3_4.len
    have hisv := o0_3_4.lt
    refine W_seq fun _K_21 _hK_21 => ?_
    refine W_region ?_
    refine WL_step rfl rfl (r_lss rfl rfl) ?_
    refine WL_nil ?_
    refine thn_nrm (_hK_21 _ _ ?_)
    clear _hK_21
    refine W_seq fun _K_22 _hK_22 => ?_
    refine W_cond rfl (fun _h42 => ?_) (fun _h42 => ?_)
    · have _kb_23 := _h42
      have _h42 := bt_d _h42
      refine W_skip ?_
      refine thn_nrm (_hK_22 _ _ ?_)
      clear _hK_22
      refine W_seq fun _K_24 _hK_24 => ?_
      refine W_block ?_
      refine W_seq fun _K_25 _hK_25 => ?_
      refine W_region ?_
      refine WL_s rfl rfl ?_
      have _f_26 := (_hk_x.ch0 _E0h)
      refine (s_index _f_26 acs_len el74 sz49 rfl rfl rfl (by omega) fun _p43 _y43 _hy43 _a43 => ?_)
      have _f_27 := (_kd_x.ch0 _E0h)
      obtain ⟨_t43, ht43, _tr43⟩ := _f_27.get _hy43
      obtain ⟨_A_43, _C_43, _ps_43, _hc_43, _hk_43, _kd_43⟩ := _tr43.open
      have _kl_43 := _kd_43.1
      replace _a43 : At _wr_20 LT_x w.heap.size _p43 ([(.pointer (some _y43))]) := _a43
      refine WL_step rfl rfl (r_loadAt0 _a43 agg49 rfl rfl) ?_
      refine WL_step rfl rfl (r_assign rfl) ?_
      refine WL_nil ?_
      refine thn_nrm (_hK_25 _ _ ?_)
      clear _hK_25
      refine W_drawC ((bl (.slice Asv (ps).length Csv)) ++ [_b35]) 12 mixed rfl fun _w_28 _cw_28 => ?_
      have _cw_28z := _cw_28.size
      have E := E.trans _cw_28
      refine DR_s 0 rfl (by kernel_rfl) rfl rfl (t_v (fun _ => (r_move rfl)) ?_)
      refine DR_s 1 rfl (by kernel_rfl) rfl rfl (t_v (fun _ => (r_move rfl)) ?_)
      refine DR_s 2 rfl (by kernel_rfl) rfl rfl (t_v (fun _ => (r_nilCheck rfl)) ?_)
      refine DR_s 3 rfl (by kernel_rfl) rfl rfl (t_v (fun _ => (r_fieldAddr fa78_1 rfl)) ?_)
      refine DR_s 5 rfl (by kernel_rfl) rfl rfl (t_v (fun _ => (r_move rfl)) ?_)
      refine DR_two 4 6 (by kernel_rfl) ?_ ?_
      · refine DO_s rfl rfl rfl ?_
        have _f_29 := (_m0_3.ch0 _cw_28)
        refine s_v (r_loadAt _f_29.at_ agg74 rfl rfl) ?_
        refine ⟨(Ch.refl _ _), ?_⟩
        refine DR_one 6 (by kernel_rfl) ?_
        refine DO_s rfl rfl rfl ?_
        have _f_30 := (_tr43.ch0 _cw_28)
        refine Step.call (r_call (xs := [.tmp 50]) fk53 rfl) (ih _f_30 (hok.kid ht43) (by have := Tr.kid_sz ht43; omega)) fun _v51 _w_31 _q51 => ?_
        obtain ⟨_p51, rfl, _tr51, _cw_31⟩ := _q51
        have _cw_31z := _cw_31.size
        have E := E.trans _cw_31
        replace _tr51 : TrAt _w_31 _w_28.heap.size _w_31.heap.size _p51 (expT _t43) := _tr51
        obtain ⟨_A_51, _C_51, _ps_51, _hc_51, _hk_51, _kd_51⟩ := _tr51.open
        have _kl_51 := _kd_51.1
        have _S_32 : Ch ((bl (.slice Asv (ps).length Csv)) ++ [_b35]) _w_28 _w_31 := ((Ch.refl _ _).trans _cw_31.of_nil)
        refine ⟨_S_32, ?_⟩
        refine DR_one 7 (by kernel_rfl) ?_
        refine DO_s rfl rfl rfl ?_
        refine s_buildSliceP (parts := [(0, .tmp 51)]) [(_p51 : Addr)] el74 sz49 zr49 rfl rfl (by decide) (by decide) rfl fun _v52 _w_33 _q52 _lo52 _cw_33 => ?_
        have _cw_33z := _cw_33.size
        have E := E.trans _cw_33
        obtain ⟨_Av52, _Cv52, _ev52⟩ := _q52.val
        subst _ev52
        have _lv52 := _q52.len
        have _hiv52 := _q52.lt
        have _S_34 : Ch ((bl (.slice Asv (ps).length Csv)) ++ [_b35]) _w_28 _w_33 := (_S_32.trans _cw_33.of_nil)
        refine ⟨_S_34, ?_⟩
        refine DR_one 8 (by kernel_rfl) ?_
        refine DO_s rfl rfl rfl ?_
        have _f_36 := (((o0_3_4.ch0 _cw_28).ch0 _cw_31).ch0 _cw_33)
        refine s_append (cs := acs) el74 sz49 by49 zr49 rfl (by decide) acs_one _f_36 _q52.ls rfl rfl (by have _h5 := kds.1; simp only [List.length_map, List.length_take] at _h5; simp only [List.length_singleton]; omega) (by have _h5 := kds.1; simp only [List.length_map, List.length_take] at _h5; simp only [List.length_singleton]; omega) lo0_3_4 (by omega) fun _v53 _w_35 _q53 _lo53 _ap53 _cw_35 => ?_
        have _cw_35z := _cw_35.size
        have E := E.step _cw_35 (fun i hi => .inl (by have _h1 := lo0_3_4 _ hi; omega))
        obtain ⟨_Av53, _Cv53, _ev53⟩ := _q53.val
        subst _ev53
        have _lv53 := _q53.len
        have _hiv53 := _q53.lt
        have _S_37 : Ch ((bl (.slice Asv (ps).length Csv)) ++ [_b35]) _w_28 _w_35 := (_S_34.step _cw_35 (fun i hm => by exact .inr (List.mem_append_left _ hm)))
        refine ⟨_S_37, ?_⟩
        refine DR_s 9 rfl (by kernel_rfl) rfl rfl (t_v (fun _ => (r_nilCheck rfl)) ?_)
        refine DR_s 10 rfl (by kernel_rfl) rfl rfl (t_v (fun _ => (r_fieldAddr fa78_1 rfl)) ?_)
        refine DR_one 11 (by kernel_rfl) ?_
        refine DO_s rfl rfl rfl ?_
        have _f_38 := (((_f_29.ch0 _cw_31).ch0 _cw_33).ch _cw_35 (fun hm => by exact _nb0_3_4 (by first | exact hm | exact _h0 ▸ hm)))
        refine s_store1 (off := 4) _f_38 sz74 rfl rfl rfl rfl fun _w_39 _m_40 _cw_39 => ?_
        have _cw_39z := _cw_39.size
        have E := E.step _cw_39 (fun i hi => .inl (by have _h1 := List.mem_singleton.1 hi; omega))
        replace _m_40 : Blk _w_39 _b35 78 [(.int .i64 x.tok.kind), (.int .i64 x.tok.letter), (.int .i64 x.tok.low), (.int .i64 x.tok.high), (.slice _Av53 ((ps ++ [(_p51 : Addr)])).length _Cv53)] := _m_40
        have _S_41 : Ch ((bl (.slice Asv (ps).length Csv)) ++ [_b35]) _w_28 _w_39 := (_S_37.step _cw_39 (fun i hm => by have _h0 := List.mem_singleton.1 hm; exact .inr (by rw [_h0]; exact (List.mem_append_right _ (List.mem_singleton.2 rfl)))))
        refine ⟨_S_41, ?_⟩
        refine DR_done (by kernel_rfl) ?_
        refine inB_nrm ?_
        refine thn_nrm (_hK_24 _ _ ?_)
        clear _hK_24
        refine W_region ?_
        refine WL_step rfl rfl (r_add (by omega) rfl rfl) ?_
        refine WL_step rfl rfl (r_move rfl) ?_
        refine WL_nil ?_
        have _f_42 := (_tr51.ch0 _cw_33)
        have k9 := (KdN.grow kds (by omega) hisv (by omega) ((((Ch.refl [] _wr_20).trans _cw_28).trans _cw_31).trans _cw_33) _f_42 (by omega) (by omega) _cw_35 _ap53).bo _cw_39
        have _f_44 := (_q53.ch _cw_39 (fun g hg hm => by have _h0 := List.mem_singleton.1 hm; rcases _ap53 with ea | ea; (rw [ea] at hg; exact _nb0_3_4 (by first | exact hg | exact _h0 ▸ hg)); (rw [ea] at hg; have _z1 := List.mem_singleton.1 hg; omega)))
        have _on_43 : Ol acs 49 1 _w_39 (.slice _Av53 ((ps ++ [(_p51 : Addr)])).length _Cv53) ((ps ++ [(_p51 : Addr)])) := by
          have hx := _f_44
          exact hx
        exact thn_nrm (Exists.intro ((i + 1), (ps ++ [(_p51 : Addr)]), (.slice _Av53 ((ps ++ [(_p51 : Addr)])).length _Cv53)) ⟨⟨E, (by omega), (by omega), _on_43, (Lo.down _lo53 (by omega)), (by rw [take_snoc ht43, List.map_append]; exact k9), _m_40, (fun hm => by rcases _ap53 with ea | ea; (rw [ea] at hm; exact _nb0_3_4 (by first | exact hm | exact _h0 ▸ hm)); (rw [ea] at hm; have _z1 := List.mem_singleton.1 hm; omega))⟩, Sub.cons rfl (Sub.cons rfl (Sub.cons rfl (Sub.cons rfl (Sub.cons rfl (Sub.nil _))))), (by first | omega | (dsimp only; omega))⟩)
      · refine DO_s rfl rfl rfl ?_
        have _f_45 := (_tr43.ch0 _cw_28)
        refine Step.call (r_call (xs := [.tmp 50]) fk53 rfl) (ih _f_45 (hok.kid ht43) (by have := Tr.kid_sz ht43; omega)) fun _v51 _w_46 _q51 => ?_
        obtain ⟨_p51, rfl, _tr51, _cw_46⟩ := _q51
        have _cw_46z := _cw_46.size
        have E := E.trans _cw_46
        replace _tr51 : TrAt _w_46 _w_28.heap.size _w_46.heap.size _p51 (expT _t43) := _tr51
        obtain ⟨_A_51, _C_51, _ps_51, _hc_51, _hk_51, _kd_51⟩ := _tr51.open
        have _kl_51 := _kd_51.1
        have _S_47 : Ch ((bl (.slice Asv (ps).length Csv)) ++ [_b35]) _w_28 _w_46 := ((Ch.refl _ _).trans _cw_46.of_nil)
        refine ⟨_S_47, ?_⟩
        refine DR_two 4 7 (by kernel_rfl) ?_ ?_
        · refine DO_s rfl rfl rfl ?_
          have _f_48 := ((_m0_3.ch0 _cw_28).ch0 _cw_46)
          refine s_v (r_loadAt _f_48.at_ agg74 rfl rfl) ?_
          refine ⟨_S_47, ?_⟩
          refine DR_one 7 (by kernel_rfl) ?_
          refine DO_s rfl rfl rfl ?_
          refine s_buildSliceP (parts := [(0, .tmp 51)]) [(_p51 : Addr)] el74 sz49 zr49 rfl rfl (by decide) (by decide) rfl fun _v52 _w_49 _q52 _lo52 _cw_49 => ?_
          have _cw_49z := _cw_49.size
          have E := E.trans _cw_49
          obtain ⟨_Av52, _Cv52, _ev52⟩ := _q52.val
          subst _ev52
          have _lv52 := _q52.len
          have _hiv52 := _q52.lt
          have _S_50 : Ch ((bl (.slice Asv (ps).length Csv)) ++ [_b35]) _w_28 _w_49 := (_S_47.trans _cw_49.of_nil)
          refine ⟨_S_50, ?_⟩
          refine DR_one 8 (by kernel_rfl) ?_
          refine DO_s rfl rfl rfl ?_
          have _f_52 := (((o0_3_4.ch0 _cw_28).ch0 _cw_46).ch0 _cw_49)
          refine s_append (cs := acs) el74 sz49 by49 zr49 rfl (by decide) acs_one _f_52 _q52.ls rfl rfl (by have _h5 := kds.1; simp only [List.length_map, List.length_take] at _h5; simp only [List.length_singleton]; omega) (by have _h5 := kds.1; simp only [List.length_map, List.length_take] at _h5; simp only [List.length_singleton]; omega) lo0_3_4 (by omega) fun _v53 _w_51 _q53 _lo53 _ap53 _cw_51 => ?_
          have _cw_51z := _cw_51.size
          have E := E.step _cw_51 (fun i hi => .inl (by have _h1 := lo0_3_4 _ hi; omega))
          obtain ⟨_Av53, _Cv53, _ev53⟩ := _q53.val
          subst _ev53
          have _lv53 := _q53.len
          have _hiv53 := _q53.lt
          have _S_53 : Ch ((bl (.slice Asv (ps).length Csv)) ++ [_b35]) _w_28 _w_51 := (_S_50.step _cw_51 (fun i hm => by exact .inr (List.mem_append_left _ hm)))
          refine ⟨_S_53, ?_⟩
          refine DR_s 9 rfl (by kernel_rfl) rfl rfl (t_v (fun _ => (r_nilCheck rfl)) ?_)
          refine DR_s 10 rfl (by kernel_rfl) rfl rfl (t_v (fun _ => (r_fieldAddr fa78_1 rfl)) ?_)
          refine DR_one 11 (by kernel_rfl) ?_
          refine DO_s rfl rfl rfl ?_
          have _f_54 := ((_f_48.ch0 _cw_49).ch _cw_51 (fun hm => by exact _nb0_3_4 (by first | exact hm | exact _h0 ▸ hm)))
          refine s_store1 (off := 4) _f_54 sz74 rfl rfl rfl rfl fun _w_55 _m_56 _cw_55 => ?_
          have _cw_55z := _cw_55.size
          have E := E.step _cw_55 (fun i hi => .inl (by have _h1 := List.mem_singleton.1 hi; omega))
          replace _m_56 : Blk _w_55 _b35 78 [(.int .i64 x.tok.kind), (.int .i64 x.tok.letter), (.int .i64 x.tok.low), (.int .i64 x.tok.high), (.slice _Av53 ((ps ++ [(_p51 : Addr)])).length _Cv53)] := _m_56
          have _S_57 : Ch ((bl (.slice Asv (ps).length Csv)) ++ [_b35]) _w_28 _w_55 := (_S_53.step _cw_55 (fun i hm => by have _h0 := List.mem_singleton.1 hm; exact .inr (by rw [_h0]; exact (List.mem_append_right _ (List.mem_singleton.2 rfl)))))
          refine ⟨_S_57, ?_⟩
          refine DR_done (by kernel_rfl) ?_
          refine inB_nrm ?_
          refine thn_nrm (_hK_24 _ _ ?_)
          clear _hK_24
          refine W_region ?_
          refine WL_step rfl rfl (r_add (by omega) rfl rfl) ?_
          refine WL_step rfl rfl (r_move rfl) ?_
          refine WL_nil ?_
          have _f_58 := (_tr51.ch0 _cw_49)
          have k9 := (KdN.grow kds (by omega) hisv (by omega) ((((Ch.refl [] _wr_20).trans _cw_28).trans _cw_46).trans _cw_49) _f_58 (by omega) (by omega) _cw_51 _ap53).bo _cw_55
          have _f_60 := (_q53.ch _cw_55 (fun g hg hm => by have _h0 := List.mem_singleton.1 hm; rcases _ap53 with ea | ea; (rw [ea] at hg; exact _nb0_3_4 (by first | exact hg | exact _h0 ▸ hg)); (rw [ea] at hg; have _z1 := List.mem_singleton.1 hg; omega)))
          have _on_59 : Ol acs 49 1 _w_55 (.slice _Av53 ((ps ++ [(_p51 : Addr)])).length _Cv53) ((ps ++ [(_p51 : Addr)])) := by
            have hx := _f_60
            exact hx
          exact thn_nrm (Exists.intro ((i + 1), (ps ++ [(_p51 : Addr)]), (.slice _Av53 ((ps ++ [(_p51 : Addr)])).length _Cv53)) ⟨⟨E, (by omega), (by omega), _on_59, (Lo.down _lo53 (by omega)), (by rw [take_snoc ht43, List.map_append]; exact k9), _m_56, (fun hm => by rcases _ap53 with ea | ea; (rw [ea] at hm; exact _nb0_3_4 (by first | exact hm | exact _h0 ▸ hm)); (rw [ea] at hm; have _z1 := List.mem_singleton.1 hm; omega))⟩, Sub.cons rfl (Sub.cons rfl (Sub.cons rfl (Sub.cons rfl (Sub.cons rfl (Sub.nil _))))), (by first | omega | (dsimp only; omega))⟩)
        · refine DO_s rfl rfl rfl ?_
          refine s_buildSliceP (parts := [(0, .tmp 51)]) [(_p51 : Addr)] el74 sz49 zr49 rfl rfl (by decide) (by decide) rfl fun _v52 _w_61 _q52 _lo52 _cw_61 => ?_
          have _cw_61z := _cw_61.size
          have E := E.trans _cw_61
          obtain ⟨_Av52, _Cv52, _ev52⟩ := _q52.val
          subst _ev52
          have _lv52 := _q52.len
          have _hiv52 := _q52.lt
          have _S_62 : Ch ((bl (.slice Asv (ps).length Csv)) ++ [_b35]) _w_28 _w_61 := (_S_47.trans _cw_61.of_nil)
          refine ⟨_S_62, ?_⟩
          refine DR_one 4 (by kernel_rfl) ?_
          refine DO_s rfl rfl rfl ?_
          have _f_63 := (((_m0_3.ch0 _cw_28).ch0 _cw_46).ch0 _cw_61)
          refine s_v (r_loadAt _f_63.at_ agg74 rfl rfl) ?_
          refine ⟨_S_62, ?_⟩
          refine DR_one 8 (by kernel_rfl) ?_
          refine DO_s rfl rfl rfl ?_
          have _f_65 := (((o0_3_4.ch0 _cw_28).ch0 _cw_46).ch0 _cw_61)
          refine s_append (cs := acs) el74 sz49 by49 zr49 rfl (by decide) acs_one _f_65 _q52.ls rfl rfl (by have _h5 := kds.1; simp only [List.length_map, List.length_take] at _h5; simp only [List.length_singleton]; omega) (by have _h5 := kds.1; simp only [List.length_map, List.length_take] at _h5; simp only [List.length_singleton]; omega) lo0_3_4 (by omega) fun _v53 _w_64 _q53 _lo53 _ap53 _cw_64 => ?_
          have _cw_64z := _cw_64.size
          have E := E.step _cw_64 (fun i hi => .inl (by have _h1 := lo0_3_4 _ hi; omega))
          obtain ⟨_Av53, _Cv53, _ev53⟩ := _q53.val
          subst _ev53
          have _lv53 := _q53.len
          have _hiv53 := _q53.lt
          have _S_66 : Ch ((bl (.slice Asv (ps).length Csv)) ++ [_b35]) _w_28 _w_64 := (_S_62.step _cw_64 (fun i hm => by exact .inr (List.mem_append_left _ hm)))
          refine ⟨_S_66, ?_⟩
          refine DR_s 9 rfl (by kernel_rfl) rfl rfl (t_v (fun _ => (r_nilCheck rfl)) ?_)
          refine DR_s 10 rfl (by kernel_rfl) rfl rfl (t_v (fun _ => (r_fieldAddr fa78_1 rfl)) ?_)
          refine DR_one 11 (by kernel_rfl) ?_
          refine DO_s rfl rfl rfl ?_
          have _f_67 := (_f_63.ch _cw_64 (fun hm => by exact _nb0_3_4 (by first | exact hm | exact _h0 ▸ hm)))
          refine s_store1 (off := 4) _f_67 sz74 rfl rfl rfl rfl fun _w_68 _m_69 _cw_68 => ?_
          have _cw_68z := _cw_68.size
          have E := E.step _cw_68 (fun i hi => .inl (by have _h1 := List.mem_singleton.1 hi; omega))
          replace _m_69 : Blk _w_68 _b35 78 [(.int .i64 x.tok.kind), (.int .i64 x.tok.letter), (.int .i64 x.tok.low), (.int .i64 x.tok.high), (.slice _Av53 ((ps ++ [(_p51 : Addr)])).length _Cv53)] := _m_69
          have _S_70 : Ch ((bl (.slice Asv (ps).length Csv)) ++ [_b35]) _w_28 _w_68 := (_S_66.step _cw_68 (fun i hm => by have _h0 := List.mem_singleton.1 hm; exact .inr (by rw [_h0]; exact (List.mem_append_right _ (List.mem_singleton.2 rfl)))))
          refine ⟨_S_70, ?_⟩
          refine DR_done (by kernel_rfl) ?_
          refine inB_nrm ?_
          refine thn_nrm (_hK_24 _ _ ?_)
          clear _hK_24
          refine W_region ?_
          refine WL_step rfl rfl (r_add (by omega) rfl rfl) ?_
          refine WL_step rfl rfl (r_move rfl) ?_
          refine WL_nil ?_
          have _f_71 := (_tr51.ch0 _cw_61)
          have k9 := (KdN.grow kds (by omega) hisv (by omega) ((((Ch.refl [] _wr_20).trans _cw_28).trans _cw_46).trans _cw_61) _f_71 (by omega) (by omega) _cw_64 _ap53).bo _cw_68
          have _f_73 := (_q53.ch _cw_68 (fun g hg hm => by have _h0 := List.mem_singleton.1 hm; rcases _ap53 with ea | ea; (rw [ea] at hg; exact _nb0_3_4 (by first | exact hg | exact _h0 ▸ hg)); (rw [ea] at hg; have _z1 := List.mem_singleton.1 hg; omega)))
          have _on_72 : Ol acs 49 1 _w_68 (.slice _Av53 ((ps ++ [(_p51 : Addr)])).length _Cv53) ((ps ++ [(_p51 : Addr)])) := by
            have hx := _f_73
            exact hx
          exact thn_nrm (Exists.intro ((i + 1), (ps ++ [(_p51 : Addr)]), (.slice _Av53 ((ps ++ [(_p51 : Addr)])).length _Cv53)) ⟨⟨E, (by omega), (by omega), _on_72, (Lo.down _lo53 (by omega)), (by rw [take_snoc ht43, List.map_append]; exact k9), _m_69, (fun hm => by rcases _ap53 with ea | ea; (rw [ea] at hm; exact _nb0_3_4 (by first | exact hm | exact _h0 ▸ hm)); (rw [ea] at hm; have _z1 := List.mem_singleton.1 hm; omega))⟩, Sub.cons rfl (Sub.cons rfl (Sub.cons rfl (Sub.cons rfl (Sub.cons rfl (Sub.nil _))))), (by first | omega | (dsimp only; omega))⟩)
    · have _kb_23 := _h42
      have _h42 := bf_d _h42
      refine W_exit (thn_exit (thn_exit (inB_hit ?_)))
      refine thn_nrm (_hK_16 _ _ ?_)
      clear _hK_16
      refine W_seq fun _K_74 _hK_74 => ?_
      refine W_region ?_
      refine WL_step rfl rfl (r_move rfl) ?_
      refine WL_step rfl rfl (r_assign rfl) ?_
      refine WL_nil ?_
      refine thn_nrm (_hK_74 _ _ ?_)
      clear _hK_74
      refine W_ret ?_
      clear _hK_22
      exact ret_intro [_] ⟨rfl, trivial⟩ ⟨_, rfl, (exp_done (show KdN _ _ _ _ _ (x.kids.map expT) from (by rw [List.take_of_length_le (by omega)] at kds; exact kds)) _m0_3 (by omega) o0_3_4 (Lo.down lo0_3_4 (by omega)) (by omega) (by omega)), E⟩
theorem c_impl_tree_expand {w : World} {LT_x _B_x : Nat} {p_x : Addr} {x : Tr} (_h_x : TrAt w LT_x _B_x p_x x) (hok : Okd x) :
    Ctr Try.prog 53 #[(.pointer (some p_x))] w (fun v w' => ∃ p, v = .pointer (some p) ∧ TrAt w' w.heap.size w'.heap.size p (expT x) ∧ Ch [] w w') := c_impl_tree_expand_n _ _h_x hok (Nat.lt_succ_self _)

/-- impl.tree).collect -/
theorem c_impl_tree_collect_n : ∀ (n : Nat) {w : World} {LT_x L_out : Nat} {p_x : Addr} {x : Tr} (_h_x : TrAt w LT_x L_out p_x x) {b_out t_out : Nat} {_v_out0 : Value} {out0 : List Token} (m_out : Blk w b_out t_out [_v_out0]) (_lb_out : L_out ≤ b_out) (_h_out0 : Ol Token.cs 55 4 w _v_out0 out0) (_nb_out0 : b_out ∉ bl _v_out0) (_ll_out0 : Lo L_out _v_out0) (hb : out0.length + x.sz ≤ 4194304) (hsz : x.sz < n),
    Ctr Try.prog 65 #[(.pointer (some p_x)), (.pointer (some ⟨b_out, 0, none⟩))] w (fun v w' => ∃ (zout0 : Value), v = .tuple #[] ∧ Blk w' b_out t_out [zout0] ∧ Ol Token.cs 55 4 w' zout0 (out0 ++ x.flat) ∧ (∀ g ∈ bl zout0, w.heap.size ≤ g ∨ g ∈ (b_out :: bl _v_out0)) ∧ b_out ∉ bl zout0 ∧ Ch (b_out :: bl _v_out0) w w') := by
  intro n
  induction n with
  | zero => intros; omega
  | succ n ih =>
  intro w LT_x L_out p_x x _h_x b_out t_out _v_out0 out0 m_out _lb_out _h_out0 _nb_out0 _ll_out0 hb hsz
  obtain ⟨_A_x, _C_x, _ps_x, _hc_x, _hk_x, _kd_x⟩ := _h_x.open
  have _kl_x := _kd_x.1
  obtain ⟨_A_out0, _C_out0, _e1_out0⟩ := _h_out0.val
  subst _e1_out0
  have _l_out0 := _h_out0.len
  have _lt_out0 := _h_out0.lt
  have _zb_out := m_out.lt
  have E := Ch.refl (b_out :: bl (.slice _A_out0 out0.length _C_out0)) w
  have k2 := x.kids_le
  refine Ctr_of_W (N := 32) (vs0 := [(.pointer (some p_x)), (.pointer (some ⟨b_out, 0, none⟩))]) Try.func65 rfl rfl rfl ?_
  refine W_seq fun _K_1 _hK_1 => ?_
  refine W_seq fun _K_2 _hK_2 => ?_
  refine W_region ?_
  refine WL_step rfl rfl (r_move rfl) ?_
  refine WL_step rfl rfl (r_nilCheck rfl) ?_
  refine WL_step rfl rfl (r_fieldAddr fa78_1 rfl) ?_
  refine WL_step rfl rfl (r_loadAt _hc_x agg74 rfl rfl) ?_
  refine WL_step rfl rfl (r_len (by rw [el74]; rfl) rfl) ?_
  refine WL_step rfl rfl (r_move rfl) ?_
  refine WL_nil ?_
  refine thn_nrm (_hK_2 _ _ ?_)
  clear _hK_2
  refine W_block ?_
  have _oi_3 : Ol Token.cs 55 4 w (.slice _A_out0 out0.length _C_out0) (out0 ++ flats (x.kids.take 0)) := by
    have hx := _h_out0
    simpa [flats] using hx
  refine W_loop (σ := Nat × Value) (fun ⟨i, sv⟩ => [(0, (.pointer (some p_x))), (1, (.pointer (some ⟨b_out, 0, none⟩))), (9, (.slice _A_x _ps_x.length _C_x)), (10, (.int .i64 ((_ps_x.length : Nat) : Int))), (11, (.int .i64 ((i : Nat) : Int)))]) (fun ⟨i, sv⟩ wx => Ch (b_out :: bl (.slice _A_out0 out0.length _C_out0)) w wx ∧ w.heap.size ≤ wx.heap.size ∧ (i ≤ x.kids.length) ∧ Ol Token.cs 55 4 wx sv (out0 ++ flats (x.kids.take i)) ∧ Lo L_out sv ∧ Blk wx b_out t_out [sv] ∧ (∀ g ∈ bl sv, w.heap.size ≤ g ∨ g ∈ (b_out :: bl (.slice _A_out0 out0.length _C_out0))) ∧ (b_out ∉ bl sv)) (fun ⟨i, sv⟩ => x.kids.length - i) (0, (.slice _A_out0 out0.length _C_out0)) (Sub.cons rfl (Sub.cons rfl (Sub.cons rfl (Sub.cons rfl (Sub.cons rfl (Sub.nil _)))))) ⟨E, (Nat.le_refl _), (by omega), _oi_3, _ll_out0, m_out, (fun g hm => by exact (.inr (List.mem_cons_of_mem _ hm))), (fun hm => by exact _nb_out0 (by first | exact hm | exact _h0 ▸ hm))⟩ ?_
  rintro ⟨i, sv⟩ _wr_4 ⟨E, _zz0, hi, _o0_1, _lo0_1, _m0_1, _in0_1_0, _nb0_1⟩
  have _E0h := E
  have _E0hz := _E0h.size
  obtain ⟨Asv, Csv, esv⟩ := _o0_1.val
  subst esv
  have lsv := _o0_1.len
  have hisv := _o0_1.lt
  refine W_seq fun _K_5 _hK_5 => ?_
  refine W_region ?_
  refine WL_step rfl rfl (r_lss rfl rfl) ?_
  refine WL_nil ?_
  refine thn_nrm (_hK_5 _ _ ?_)
  clear _hK_5
  refine W_seq fun _K_6 _hK_6 => ?_
  refine W_cond rfl (fun _h12 => ?_) (fun _h12 => ?_)
  · have _kb_7 := _h12
    have _h12 := bt_d _h12
    refine W_skip ?_
    refine thn_nrm (_hK_6 _ _ ?_)
    clear _hK_6
    refine W_seq fun _K_8 _hK_8 => ?_
    refine W_block ?_
    refine W_seq fun _K_9 _hK_9 => ?_
    refine W_region ?_
    refine WL_s rfl rfl ?_
    have _f_10 := (_hk_x.ch _E0h (fun i hm => by rcases List.mem_cons.1 hm with _h0 | hm; (omega); (have _h1 := _ll_out0 _ hm; have _h2 := _lt_out0 _ hm; omega)))
    refine (s_index _f_10 acs_len el74 sz49 rfl rfl rfl (by omega) fun _p13 _y13 _hy13 _a13 => ?_)
    have _f_11 := (_kd_x.ch _E0h (fun i hm => by rcases List.mem_cons.1 hm with _h0 | hm; (omega); (have _h1 := _ll_out0 _ hm; have _h2 := _lt_out0 _ hm; omega)))
    obtain ⟨_t13, ht13, _tr13⟩ := _f_11.get _hy13
    obtain ⟨_A_13, _C_13, _ps_13, _hc_13, _hk_13, _kd_13⟩ := _tr13.open
    have _kl_13 := _kd_13.1
    replace _a13 : At _wr_4 LT_x L_out _p13 ([(.pointer (some _y13))]) := _a13
    refine WL_step rfl rfl (r_loadAt0 _a13 agg49 rfl rfl) ?_
    refine WL_step rfl rfl (r_assign rfl) ?_
    refine WL_nil ?_
    refine thn_nrm (_hK_9 _ _ ?_)
    clear _hK_9
    refine W_region ?_
    refine WL_step rfl rfl (r_move rfl) ?_
    refine WL_step rfl rfl (r_move rfl) ?_
    refine WL_s rfl rfl ?_
    refine Step.call (r_call (xs := [.tmp 15, .tmp 16]) fk65 rfl) (ih _tr13 _m0_1 (by omega) _o0_1 (fun hm => by exact _nb0_1 (by first | exact hm | exact _h0 ▸ hm)) (Lo.down _lo0_1 (by omega)) (by have _h1 := flats_bd ht13; simp only [List.length_append]; omega) (by have := Tr.kid_sz ht13; omega)) fun _v17 _w_12 _q17 => ?_
    obtain ⟨_z17_0, rfl, _m17, _qz17_0, _inz17_0, _nbz17_0, _cw_12⟩ := _q17
    have _cw_12z := _cw_12.size
    have E := E.step _cw_12 (fun i hm => by rcases List.mem_cons.1 hm with _h0 | hm; (right; exact _h0 ▸ List.mem_cons_self ..); (exact _in0_1_0 _ hm))
    obtain ⟨Az17_0, Cz17_0, ez17_0⟩ := _qz17_0.val
    subst ez17_0
    have lz17_0 := _qz17_0.len
    have hiz17_0 := _qz17_0.lt
    have _loz17_0 : Lo L_out (.slice Az17_0 ((out0 ++ flats (x.kids.take i)) ++ _t13.flat).length Cz17_0) := loOld _inz17_0 _nbz17_0 (by omega) _lo0_1
    have _inz17q_z17_0 : ∀ g ∈ bl (.slice Az17_0 ((out0 ++ flats (x.kids.take i)) ++ _t13.flat).length Cz17_0), w.heap.size ≤ g ∨ g ∈ (b_out :: bl (.slice _A_out0 out0.length _C_out0)) := inOld (m := w.heap.size) (W := (b_out :: bl (.slice _A_out0 out0.length _C_out0))) _inz17_0 _nbz17_0 (by omega) (fun g hm => _in0_1_0 _ hm)
    replace _m17 : Blk _w_12 b_out t_out [(.slice Az17_0 ((out0 ++ flats (x.kids.take i)) ++ _t13.flat).length Cz17_0)] := _m17
    refine WL_nil ?_
    refine inB_nrm ?_
    refine thn_nrm (_hK_8 _ _ ?_)
    clear _hK_8
    refine W_region ?_
    refine WL_step rfl rfl (r_add (by omega) rfl rfl) ?_
    refine WL_step rfl rfl (r_move rfl) ?_
    refine WL_nil ?_
    have _on_13 : Ol Token.cs 55 4 _w_12 (.slice Az17_0 ((out0 ++ flats (x.kids.take i)) ++ _t13.flat).length Cz17_0) (out0 ++ flats (x.kids.take (i + 1))) := by
      have hx := _qz17_0
      exact hx.eq (by rw [List.append_assoc, ← flats_take ht13])
    exact thn_nrm (Exists.intro ((i + 1), (.slice Az17_0 ((out0 ++ flats (x.kids.take i)) ++ _t13.flat).length Cz17_0)) ⟨⟨E, (by omega), (by omega), _on_13, (Lo.down _loz17_0 (by omega)), _m17, (fun g hm => by exact (_inz17q_z17_0 _ hm)), (fun hm => by exact _nbz17_0 (by first | exact hm | exact _h0 ▸ hm))⟩, Sub.cons rfl (Sub.cons rfl (Sub.cons rfl (Sub.cons rfl (Sub.cons rfl (Sub.nil _))))), (by first | omega | (dsimp only; omega))⟩)
  · have _kb_7 := _h12
    have _h12 := bf_d _h12
    refine W_exit (thn_exit (thn_exit (inB_hit ?_)))
    refine thn_nrm (_hK_1 _ _ ?_)
    clear _hK_1
    refine W_drawC ((bl (.slice Asv (out0 ++ flats (x.kids.take i)).length Csv)) ++ [b_out]) 14 mixed rfl fun _w_14 _cw_14 => ?_
    have _cw_14z := _cw_14.size
    have E := E.trans _cw_14.of_nil
    refine DR_s 0 rfl (by kernel_rfl) rfl rfl (t_v (fun _ => (r_move rfl)) ?_)
    refine DR_s 1 rfl (by kernel_rfl) rfl rfl (t_v (fun _ => (r_move rfl)) ?_)
    refine DR_s 2 rfl (by kernel_rfl) rfl rfl (t_v (fun _ => (r_nilCheck rfl)) ?_)
    refine DR_s 3 rfl (by kernel_rfl) rfl rfl (t_v (fun _ => (r_fieldAddr fa30_0 rfl)) ?_)
    refine DR_s 5 rfl (by kernel_rfl) rfl rfl (t_v (fun _ => (r_move rfl)) ?_)
    refine DR_s 6 rfl (by kernel_rfl) rfl rfl (t_v (fun _ => (r_nilCheck rfl)) ?_)
    refine DR_s 7 rfl (by kernel_rfl) rfl rfl (t_v (fun _ => (r_fieldAddr fa78_0 rfl)) ?_)
    have _f_15 := ((_hc_x.ch _E0h (fun i hm => by rcases List.mem_cons.1 hm with _h0 | hm; (omega); (have _h1 := _ll_out0 _ hm; have _h2 := _lt_out0 _ hm; omega))).ch0 _cw_14)
    refine DR_s 8 rfl (by kernel_rfl) rfl rfl (t_loadAtA 4 _f_15 (fun i hm => by rcases List.mem_append.1 hm with hm | hm; (have _h1 := _lo0_1 _ hm; have _h2 := hisv _ hm; omega); (have _h1 := List.mem_singleton.1 hm; omega)) agg55 sz55 rfl rfl ?_)
    refine DR_two 4 9 (by kernel_rfl) ?_ ?_
    · refine DO_s rfl rfl rfl ?_
      have _f_16 := (_m0_1.ch0 _cw_14)
      refine s_v (r_loadAt _f_16.at_ agg28 rfl rfl) ?_
      refine ⟨(Ch.refl _ _), ?_⟩
      refine DR_one 9 (by kernel_rfl) ?_
      refine DO_s rfl rfl rfl ?_
      refine s_buildSlice (cs := Token.cs) (parts := [(0, .tmp 27)]) (⟨0, 0, 0, 0⟩ : Token) [x.tok] el28 sz55 zr55 Token.len (by decide) rfl rfl rfl (by decide) (by decide) rfl fun _v28 _w_17 _q28 _lo28 _cw_17 => ?_
      have _cw_17z := _cw_17.size
      have E := E.trans _cw_17.of_nil
      obtain ⟨_Av28, _Cv28, _ev28⟩ := _q28.val
      subst _ev28
      have _lv28 := _q28.len
      have _hiv28 := _q28.lt
      have _S_18 : Ch ((bl (.slice Asv (out0 ++ flats (x.kids.take i)).length Csv)) ++ [b_out]) _w_14 _w_17 := ((Ch.refl _ _).trans _cw_17.of_nil)
      refine ⟨_S_18, ?_⟩
      refine DR_one 10 (by kernel_rfl) ?_
      refine DO_s rfl rfl rfl ?_
      have _f_20 := ((_o0_1.ch0 _cw_14).ch0 _cw_17)
      refine s_append (cs := Token.cs) el28 sz55 by55 zr55 rfl (by decide) Token.one _f_20 _q28.ls rfl rfl (by have _h1 := flats_bd2 x i; simp only [List.length_append, List.length_singleton]; omega) (by have _h1 := flats_bd2 x i; simp only [List.length_append, List.length_singleton]; omega) _lo0_1 (by omega) fun _v29 _w_19 _q29 _lo29 _ap29 _cw_19 => ?_
      have _cw_19z := _cw_19.size
      have E := E.step _cw_19 (fun i hm => by exact _in0_1_0 _ hm)
      obtain ⟨_Av29, _Cv29, _ev29⟩ := _q29.val
      subst _ev29
      have _lv29 := _q29.len
      have _hiv29 := _q29.lt
      have _S_21 : Ch ((bl (.slice Asv (out0 ++ flats (x.kids.take i)).length Csv)) ++ [b_out]) _w_14 _w_19 := (_S_18.step _cw_19 (fun i hm => by exact .inr (List.mem_append_left _ hm)))
      refine ⟨_S_21, ?_⟩
      refine DR_s 11 rfl (by kernel_rfl) rfl rfl (t_v (fun _ => (r_nilCheck rfl)) ?_)
      refine DR_s 12 rfl (by kernel_rfl) rfl rfl (t_v (fun _ => (r_fieldAddr fa30_0 rfl)) ?_)
      refine DR_one 13 (by kernel_rfl) ?_
      refine DO_s rfl rfl rfl ?_
      have _f_22 := ((_f_16.ch0 _cw_17).ch _cw_19 (fun hm => by exact _nb0_1 (by first | exact hm | exact _h0 ▸ hm)))
      refine s_store1 (off := 0) _f_22 sz28 rfl rfl rfl rfl fun _w_23 _m_24 _cw_23 => ?_
      have _cw_23z := _cw_23.size
      have E := E.step _cw_23 (fun i hm => by have _h0 := List.mem_singleton.1 hm; right; exact _h0 ▸ List.mem_cons_self ..)
      replace _m_24 : Blk _w_23 b_out t_out [(.slice _Av29 ((out0 ++ flats (x.kids.take i) ++ [x.tok])).length _Cv29)] := _m_24
      have _S_25 : Ch ((bl (.slice Asv (out0 ++ flats (x.kids.take i)).length Csv)) ++ [b_out]) _w_14 _w_23 := (_S_21.step _cw_23 (fun i hm => by have _h0 := List.mem_singleton.1 hm; exact .inr (by rw [_h0]; exact (List.mem_append_right _ (List.mem_singleton.2 rfl)))))
      refine ⟨_S_25, ?_⟩
      refine DR_done (by kernel_rfl) ?_
      clear _hK_6
      have _f_26 := (_q29.ch _cw_23 (fun g hg hm => by have _h0 := List.mem_singleton.1 hm; rcases _ap29 with ea | ea; (rw [ea] at hg; exact _nb0_1 (by first | exact hg | exact _h0 ▸ hg)); (rw [ea] at hg; have _z1 := List.mem_singleton.1 hg; omega)))
      have _o_27 : Ol Token.cs 55 4 _w_23 (.slice _Av29 ((out0 ++ flats (x.kids.take i) ++ [x.tok])).length _Cv29) (out0 ++ x.flat) := by
        have hx := _f_26
        exact hx.eq (by rw [List.append_assoc, flats_all (by omega)])
      exact end_intro [] trivial ⟨(.slice _Av29 ((out0 ++ flats (x.kids.take i) ++ [x.tok])).length _Cv29), rfl, _m_24, _o_27, (fun g hm => by rcases _ap29 with ea | ea; (rw [ea] at hm; exact _in0_1_0 _ hm); (rw [ea] at hm; have _z1 := List.mem_singleton.1 hm; left; omega)), (fun hm => by rcases _ap29 with ea | ea; (rw [ea] at hm; exact _nb0_1 (by first | exact hm | exact _h0 ▸ hm)); (rw [ea] at hm; have _z1 := List.mem_singleton.1 hm; omega)), E⟩
    · refine DO_s rfl rfl rfl ?_
      refine s_buildSlice (cs := Token.cs) (parts := [(0, .tmp 27)]) (⟨0, 0, 0, 0⟩ : Token) [x.tok] el28 sz55 zr55 Token.len (by decide) rfl rfl rfl (by decide) (by decide) rfl fun _v28 _w_28 _q28 _lo28 _cw_28 => ?_
      have _cw_28z := _cw_28.size
      have E := E.trans _cw_28.of_nil
      obtain ⟨_Av28, _Cv28, _ev28⟩ := _q28.val
      subst _ev28
      have _lv28 := _q28.len
      have _hiv28 := _q28.lt
      have _S_29 : Ch ((bl (.slice Asv (out0 ++ flats (x.kids.take i)).length Csv)) ++ [b_out]) _w_14 _w_28 := ((Ch.refl _ _).trans _cw_28.of_nil)
      refine ⟨_S_29, ?_⟩
      refine DR_one 4 (by kernel_rfl) ?_
      refine DO_s rfl rfl rfl ?_
      have _f_30 := ((_m0_1.ch0 _cw_14).ch0 _cw_28)
      refine s_v (r_loadAt _f_30.at_ agg28 rfl rfl) ?_
      refine ⟨_S_29, ?_⟩
      refine DR_one 10 (by kernel_rfl) ?_
      refine DO_s rfl rfl rfl ?_
      have _f_32 := ((_o0_1.ch0 _cw_14).ch0 _cw_28)
      refine s_append (cs := Token.cs) el28 sz55 by55 zr55 rfl (by decide) Token.one _f_32 _q28.ls rfl rfl (by have _h1 := flats_bd2 x i; simp only [List.length_append, List.length_singleton]; omega) (by have _h1 := flats_bd2 x i; simp only [List.length_append, List.length_singleton]; omega) _lo0_1 (by omega) fun _v29 _w_31 _q29 _lo29 _ap29 _cw_31 => ?_
      have _cw_31z := _cw_31.size
      have E := E.step _cw_31 (fun i hm => by exact _in0_1_0 _ hm)
      obtain ⟨_Av29, _Cv29, _ev29⟩ := _q29.val
      subst _ev29
      have _lv29 := _q29.len
      have _hiv29 := _q29.lt
      have _S_33 : Ch ((bl (.slice Asv (out0 ++ flats (x.kids.take i)).length Csv)) ++ [b_out]) _w_14 _w_31 := (_S_29.step _cw_31 (fun i hm => by exact .inr (List.mem_append_left _ hm)))
      refine ⟨_S_33, ?_⟩
      refine DR_s 11 rfl (by kernel_rfl) rfl rfl (t_v (fun _ => (r_nilCheck rfl)) ?_)
      refine DR_s 12 rfl (by kernel_rfl) rfl rfl (t_v (fun _ => (r_fieldAddr fa30_0 rfl)) ?_)
      refine DR_one 13 (by kernel_rfl) ?_
      refine DO_s rfl rfl rfl ?_
      have _f_34 := (_f_30.ch _cw_31 (fun hm => by exact _nb0_1 (by first | exact hm | exact _h0 ▸ hm)))
      refine s_store1 (off := 0) _f_34 sz28 rfl rfl rfl rfl fun _w_35 _m_36 _cw_35 => ?_
      have _cw_35z := _cw_35.size
      have E := E.step _cw_35 (fun i hm => by have _h0 := List.mem_singleton.1 hm; right; exact _h0 ▸ List.mem_cons_self ..)
      replace _m_36 : Blk _w_35 b_out t_out [(.slice _Av29 ((out0 ++ flats (x.kids.take i) ++ [x.tok])).length _Cv29)] := _m_36
      have _S_37 : Ch ((bl (.slice Asv (out0 ++ flats (x.kids.take i)).length Csv)) ++ [b_out]) _w_14 _w_35 := (_S_33.step _cw_35 (fun i hm => by have _h0 := List.mem_singleton.1 hm; exact .inr (by rw [_h0]; exact (List.mem_append_right _ (List.mem_singleton.2 rfl)))))
      refine ⟨_S_37, ?_⟩
      refine DR_done (by kernel_rfl) ?_
      clear _hK_6
      have _f_38 := (_q29.ch _cw_35 (fun g hg hm => by have _h0 := List.mem_singleton.1 hm; rcases _ap29 with ea | ea; (rw [ea] at hg; exact _nb0_1 (by first | exact hg | exact _h0 ▸ hg)); (rw [ea] at hg; have _z1 := List.mem_singleton.1 hg; omega)))
      have _o_39 : Ol Token.cs 55 4 _w_35 (.slice _Av29 ((out0 ++ flats (x.kids.take i) ++ [x.tok])).length _Cv29) (out0 ++ x.flat) := by
        have hx := _f_38
        exact hx.eq (by rw [List.append_assoc, flats_all (by omega)])
      exact end_intro [] trivial ⟨(.slice _Av29 ((out0 ++ flats (x.kids.take i) ++ [x.tok])).length _Cv29), rfl, _m_36, _o_39, (fun g hm => by rcases _ap29 with ea | ea; (rw [ea] at hm; exact _in0_1_0 _ hm); (rw [ea] at hm; have _z1 := List.mem_singleton.1 hm; left; omega)), (fun hm => by rcases _ap29 with ea | ea; (rw [ea] at hm; exact _nb0_1 (by first | exact hm | exact _h0 ▸ hm)); (rw [ea] at hm; have _z1 := List.mem_singleton.1 hm; omega)), E⟩
theorem c_impl_tree_collect {w : World} {LT_x L_out : Nat} {p_x : Addr} {x : Tr} (_h_x : TrAt w LT_x L_out p_x x) {b_out t_out : Nat} {_v_out0 : Value} {out0 : List Token} (m_out : Blk w b_out t_out [_v_out0]) (_lb_out : L_out ≤ b_out) (_h_out0 : Ol Token.cs 55 4 w _v_out0 out0) (_nb_out0 : b_out ∉ bl _v_out0) (_ll_out0 : Lo L_out _v_out0) (hb : out0.length + x.sz ≤ 4194304) :
    Ctr Try.prog 65 #[(.pointer (some p_x)), (.pointer (some ⟨b_out, 0, none⟩))] w (fun v w' => ∃ (zout0 : Value), v = .tuple #[] ∧ Blk w' b_out t_out [zout0] ∧ Ol Token.cs 55 4 w' zout0 (out0 ++ x.flat) ∧ (∀ g ∈ bl zout0, w.heap.size ≤ g ∨ g ∈ (b_out :: bl _v_out0)) ∧ b_out ∉ bl zout0 ∧ Ch (b_out :: bl _v_out0) w w') := c_impl_tree_collect_n _ _h_x m_out _lb_out _h_out0 _nb_out0 _ll_out0 hb (Nat.lt_succ_self _)

/-- impl.tree).expr -/
theorem c_impl_tree_expr {w : World} {LT_x _B_x : Nat} {p_x : Addr} {x : Tr} (_h_x : TrAt w LT_x _B_x p_x x) (hb : x.sz ≤ 4194304) :
    Ctr Try.prog 54 #[(.pointer (some p_x))] w (fun v w' => ∃ u, v = .agg #[u] ∧ Ol Token.cs 55 4 w' u (x.flat) ∧ Lo w.heap.size u ∧ Ch [] w w') := by
  have _h_x := _h_x.here
  obtain ⟨_A_x, _C_x, _ps_x, _hc_x, _hk_x, _kd_x⟩ := _h_x.open
  have _kl_x := _kd_x.1
  have E := Ch.refl [] w
  refine Ctr_of_W (N := 8) (vs0 := [(.pointer (some p_x))]) Try.func54 rfl rfl rfl ?_
  refine W_seq fun _K_1 _hK_1 => ?_
  refine W_region ?_
  refine WL_s rfl rfl ?_
  refine s_alloc zr30 fun _b2 _w_2 _m2 _cw_2 _e2 => ?_
  have _cw_2z := _cw_2.size
  have E := E.trans _cw_2
  have _z2 := _m2.lt
  replace _m2 : Blk _w_2 _b2 30 [(.slice none 0 0)] := _m2
  refine WL_nil ?_
  refine thn_nrm (_hK_1 _ _ ?_)
  clear _hK_1
  refine W_seq fun _K_3 _hK_3 => ?_
  refine W_region ?_
  refine WL_step rfl rfl (r_build (parts := []) (cells := [(.slice none 0 0)]) zr30 pl30 rfl rfl) ?_
  refine WL_s rfl rfl ?_
  refine s_alloc zr30 fun _b3 _w_4 _m3 _cw_4 _e3 => ?_
  have _cw_4z := _cw_4.size
  have E := E.trans _cw_4
  have _z3 := _m3.lt
  replace _m3 : Blk _w_4 _b3 30 [(.slice none 0 0)] := _m3
  refine WL_s rfl rfl ?_
  refine s_storeA (off := 0) 1 _m3 sz30 rfl (us := [(.slice none 0 0)]) rfl rfl rfl rfl fun _w_5 _m_6 _cw_5 => ?_
  have _cw_5z := _cw_5.size
  have E := E.step _cw_5 (fun i hi => .inl (by have _h1 := List.mem_singleton.1 hi; omega))
  replace _m_6 : Blk _w_5 _b3 30 [(.slice none 0 0)] := _m_6
  refine WL_nil ?_
  refine thn_nrm (_hK_3 _ _ ?_)
  clear _hK_3
  refine W_seq fun _K_7 _hK_7 => ?_
  refine W_region ?_
  refine WL_step rfl rfl (r_move rfl) ?_
  refine WL_s rfl rfl ?_
  have _f_8 := (((_h_x.ch0 _cw_2).ch0 _cw_4).ch _cw_5 (fun i hi => by have _h1 := List.mem_singleton.1 hi; omega))
  refine Step.call (r_call (xs := [.tmp 5, .tmp 3]) fk65 rfl) (c_impl_tree_collect _f_8 _m_6 (by omega) (Ol.nil (cs := Token.cs) (e := 55) (k := 4) _w_5) (fun hm => by cases hm) (Lo.nil _) (by simp only [List.length_nil]; omega)) fun _v6 _w_9 _q6 => ?_
  obtain ⟨_z6_0, rfl, _m6, _qz6_0, _inz6_0, _nbz6_0, _cw_9⟩ := _q6
  have _cw_9z := _cw_9.size
  have E := E.step _cw_9 (fun i hm => .inl (by rcases List.mem_cons.1 hm with _h0 | hm; (omega); (cases hm)))
  obtain ⟨Az6_0, Cz6_0, ez6_0⟩ := _qz6_0.val
  subst ez6_0
  have lz6_0 := _qz6_0.len
  have hiz6_0 := _qz6_0.lt
  have _loz6_0 : Lo _w_5.heap.size (.slice Az6_0 ([] ++ x.flat).length Cz6_0) := loOld _inz6_0 _nbz6_0 (by omega) (fun g hm => by cases hm)
  have _nbz6q_z6_0_b2 := nbOld _inz6_0 _nbz6_0 (show _b2 < _ by omega) (fun hm => by cases hm)
  replace _m6 : Blk _w_9 _b3 30 [(.slice Az6_0 ([] ++ x.flat).length Cz6_0)] := _m6
  refine WL_nil ?_
  refine thn_nrm (_hK_7 _ _ ?_)
  clear _hK_7
  refine W_seq fun _K_10 _hK_10 => ?_
  refine W_region ?_
  refine WL_step rfl rfl (r_loadAtA0 _m6.at_ agg30 sz30 rfl) ?_
  refine WL_s rfl rfl ?_
  have _f_11 := (((_m2.ch0 _cw_4).ch _cw_5 (fun hm => by have _h1 := List.mem_singleton.1 hm; omega)).ch _cw_9 (fun hm => by rcases List.mem_cons.1 hm with _h0 | hm; (omega); (cases hm)))
  refine s_storeA (off := 0) 1 _f_11 sz30 rfl (us := [(.slice Az6_0 ([] ++ x.flat).length Cz6_0)]) rfl rfl rfl rfl fun _w_12 _m_13 _cw_12 => ?_
  have _cw_12z := _cw_12.size
  have E := E.step _cw_12 (fun i hi => .inl (by have _h1 := List.mem_singleton.1 hi; omega))
  replace _m_13 : Blk _w_12 _b2 30 [(.slice Az6_0 ([] ++ x.flat).length Cz6_0)] := _m_13
  refine WL_nil ?_
  refine thn_nrm (_hK_10 _ _ ?_)
  clear _hK_10
  refine W_ret ?_
  have _f_15 := (_qz6_0.ch _cw_12 (fun g hg hm => by have _h0 := List.mem_singleton.1 hm; exact _nbz6q_z6_0_b2 (by first | exact hg | exact _h0 ▸ hg)))
  have _o_14 : Ol Token.cs 55 4 _w_12 (.slice Az6_0 ([] ++ x.flat).length Cz6_0) (x.flat) := by
    have hx := _f_15
    simpa using hx
  exact ret_intro [_] (resOf_loadA _m_13 rfl agg30 sz30 trivial) ⟨_, rfl, _o_14, Lo.down _loz6_0 (by omega), E⟩

/-- impl.ExpandExpr -/
theorem c_impl_ExpandExpr {w : World} {LL_e _B_e : Nat} {_v_e : Value} {e : List Token} (_h_e : Ls Token.cs 4 w LL_e _B_e _v_e e) (hb : e.length ≤ 1048576) :
    Ctr Try.prog 30 #[(.agg #[_v_e])] w (fun v w' => ∃ (u0x0 : Value), v = .tuple #[.agg #[u0x0], .bool ((expE e).2)] ∧ Ol Token.cs 55 4 w' u0x0 ((expE e).1) ∧ Lo w.heap.size u0x0 ∧ Ch [] w w') := by
  obtain ⟨_A_e, _C_e, _e1_e⟩ := _h_e.val
  subst _e1_e
  have _l_e := _h_e.len
  have _h_e := _h_e.here (by decide)
  have E := Ch.refl [] w
  refine Ctr_of_W (N := 25) (vs0 := [(.agg #[(.slice _A_e e.length _C_e)])]) Try.func30 rfl rfl rfl ?_
  refine W_seq fun _K_1 _hK_1 => ?_
  refine W_region ?_
  refine WL_s rfl rfl ?_
  refine s_box rfl fun _b1 _w_2 _m1 _cw_2 _e1 => ?_
  have _cw_2z := _cw_2.size
  have E := E.trans _cw_2
  have _z1 := _m1.lt
  replace _m1 : Blk _w_2 _b1 30 [(.slice _A_e e.length _C_e)] := _m1
  refine WL_s rfl rfl ?_
  refine s_alloc zr30 fun _b2 _w_3 _m2 _cw_3 _e2 => ?_
  have _cw_3z := _cw_3.size
  have E := E.trans _cw_3
  have _z2 := _m2.lt
  replace _m2 : Blk _w_3 _b2 30 [(.slice none 0 0)] := _m2
  refine WL_step rfl rfl (r_assign rfl) ?_
  refine WL_nil ?_
  refine thn_nrm (_hK_1 _ _ ?_)
  clear _hK_1
  refine W_seq fun _K_4 _hK_4 => ?_
  refine W_seq fun _K_5 _hK_5 => ?_
  refine W_region ?_
  have _f_6 := (_m1.ch0 _cw_3)
  refine WL_step rfl rfl (r_loadAtA0 _f_6.at_ agg30 sz30 rfl) ?_
  refine WL_s rfl rfl ?_
  have _f_7 := ((_h_e.ch0 _cw_2).ch0 _cw_3)
  refine Step.call (r_call (xs := [.tmp 6]) fk23 rfl) (c_impl_IsValidExpr _f_7 (by omega)) fun _v7 _w_8 _q7 => ?_
  obtain ⟨rfl, _cw_8⟩ := _q7
  have _cw_8z := _cw_8.size
  have E := E.trans _cw_8
  refine WL_step rfl rfl (r_not rfl) ?_
  refine WL_nil ?_
  refine thn_nrm (_hK_5 _ _ ?_)
  clear _hK_5
  refine W_cond rfl (fun _h8 => ?_) (fun _h8 => ?_)
  · have _kb_9 := _h8
    have _h8 := bt_n _h8
    refine W_seq fun _K_10 _hK_10 => ?_
    refine W_region ?_
    refine WL_step rfl rfl (r_build (parts := []) (cells := [(.slice none 0 0)]) zr30 pl30 rfl rfl) ?_
    refine WL_s rfl rfl ?_
    have _f_11 := (_m2.ch0 _cw_8)
    refine s_storeA (off := 0) 1 _f_11 sz30 rfl (us := [(.slice none 0 0)]) rfl rfl rfl rfl fun _w_12 _m_13 _cw_12 => ?_
    have _cw_12z := _cw_12.size
    have E := E.step _cw_12 (fun i hi => .inl (by have _h1 := List.mem_singleton.1 hi; omega))
    replace _m_13 : Blk _w_12 _b2 30 [(.slice none 0 0)] := _m_13
    refine WL_step rfl rfl (r_assign rfl) ?_
    refine WL_nil ?_
    refine thn_nrm (_hK_10 _ _ ?_)
    clear _hK_10
    refine W_ret (thn_ret ?_)
    clear _hK_4
    have _o_14 : Ol Token.cs 55 4 _w_12 (.slice none 0 0) ((expE e).1) := by
      have hx := (Ol.nil (cs := Token.cs) (e := 55) (k := 4) _w_12)
      first | (rw [expE_n _h8]; exact hx) | (rw [expE_n2 _e11 (by omega)]; exact hx) | (rw [expE_n3 _e11 (by rw [← Tr.flat_len]; omega)]; exact hx) | (rw [expE_y _e11 (by omega) (by omega) (by rw [← Tr.flat_len]; omega)]; exact hx)
    exact ret_intro [_, _] (resOf_loadA _m_13 rfl agg30 sz30 ⟨rfl, trivial⟩) ⟨(.slice none 0 0), (congrArg (fun zq => (Value.tuple #[.agg #[(.slice none 0 0)], .bool zq])) (by first | (rw [expE_n _h8]; done) | (rw [expE_n2 _e11 (by omega)]; done) | (rw [expE_n3 _e11 (by rw [← Tr.flat_len]; omega)]; done) | (rw [expE_y _e11 (by omega) (by omega) (by rw [← Tr.flat_len]; omega)]; done))), _o_14, (Lo.nil _), E⟩
  · have _kb_9 := _h8
    have _h8 := bf_n _h8
    obtain ⟨_t5, _e5, hok, hl, _h24⟩ := ivE_y _h8
    refine W_skip ?_
    refine thn_nrm (_hK_4 _ _ ?_)
    clear _hK_4
    refine W_seq fun _K_15 _hK_15 => ?_
    refine W_region ?_
    have _f_16 := (_f_6.ch0 _cw_8)
    refine WL_step rfl rfl (r_loadAtA0 _f_16.at_ agg30 sz30 rfl) ?_
    refine WL_s rfl rfl ?_
    have _f_17 := (_f_7.ch0 _cw_8)
    refine Step.call (r_call (xs := [.tmp 10]) fk25 rfl) (c_impl_treeOf _f_17 (by omega)) fun _v11 _w_18 _q11 => ?_
    obtain ⟨_q11, _cw_18⟩ := _q11
    have _cw_18z := _cw_18.size
    have E := E.trans _cw_18
    rcases _q11 with ⟨_e11, rfl⟩ | ⟨tt11, _p11, _e11, rfl, _tr11⟩
    · exact (ivE_tr _h8 _e11).elim
    · replace _tr11 : TrAt _w_18 _w_8.heap.size _w_18.heap.size _p11 tt11 := _tr11
      obtain ⟨_A_11, _C_11, _ps_11, _hc_11, _hk_11, _kd_11⟩ := _tr11.open
      have _kl_11 := _kd_11.1
      refine WL_step rfl rfl (r_assign rfl) ?_
      refine WL_nil ?_
      refine thn_nrm (_hK_15 _ _ ?_)
      clear _hK_15
      refine W_seq fun _K_19 _hK_19 => ?_
      refine W_seq fun _K_20 _hK_20 => ?_
      refine W_region ?_
      refine WL_step rfl rfl (r_move rfl) ?_
      refine WL_s rfl rfl ?_
      refine Step.call (r_call (xs := [.tmp 12]) fk52 rfl) (c_impl_tree_bound _tr11 (treeL_ok _e11).1) fun _v13 _w_21 _q13 => ?_
      obtain ⟨rfl, _cw_21⟩ := _q13
      have _cw_21z := _cw_21.size
      have E := E.trans _cw_21
      have _z9 := expT_sz (treeL_ok _e11).1
      refine WL_step rfl rfl (r_gtr rfl rfl) ?_
      refine WL_nil ?_
      refine thn_nrm (_hK_20 _ _ ?_)
      clear _hK_20
      refine W_cond rfl (fun _h14 => ?_) (fun _h14 => ?_)
      · have _kb_22 := _h14
        have _h14 := bt_d _h14
        refine W_seq fun _K_23 _hK_23 => ?_
        refine W_region ?_
        refine WL_step rfl rfl (r_build (parts := []) (cells := [(.slice none 0 0)]) zr30 pl30 rfl rfl) ?_
        refine WL_s rfl rfl ?_
        have _f_24 := (((_m2.ch0 _cw_8).ch0 _cw_18).ch0 _cw_21)
        refine s_storeA (off := 0) 1 _f_24 sz30 rfl (us := [(.slice none 0 0)]) rfl rfl rfl rfl fun _w_25 _m_26 _cw_25 => ?_
        have _cw_25z := _cw_25.size
        have E := E.step _cw_25 (fun i hi => .inl (by have _h1 := List.mem_singleton.1 hi; omega))
        replace _m_26 : Blk _w_25 _b2 30 [(.slice none 0 0)] := _m_26
        refine WL_step rfl rfl (r_assign rfl) ?_
        refine WL_nil ?_
        refine thn_nrm (_hK_23 _ _ ?_)
        clear _hK_23
        refine W_ret (thn_ret ?_)
        clear _hK_19
        have _o_27 : Ol Token.cs 55 4 _w_25 (.slice none 0 0) ((expE e).1) := by
          have hx := (Ol.nil (cs := Token.cs) (e := 55) (k := 4) _w_25)
          first | (rw [expE_n _h8]; exact hx) | (rw [expE_n2 _e11 (by omega)]; exact hx) | (rw [expE_n3 _e11 (by rw [← Tr.flat_len]; omega)]; exact hx) | (rw [expE_y _e11 (by omega) (by omega) (by rw [← Tr.flat_len]; omega)]; exact hx)
        exact ret_intro [_, _] (resOf_loadA _m_26 rfl agg30 sz30 ⟨rfl, trivial⟩) ⟨(.slice none 0 0), (congrArg (fun zq => (Value.tuple #[.agg #[(.slice none 0 0)], .bool zq])) (by first | (rw [expE_n _h8]; done) | (rw [expE_n2 _e11 (by omega)]; done) | (rw [expE_n3 _e11 (by rw [← Tr.flat_len]; omega)]; done) | (rw [expE_y _e11 (by omega) (by omega) (by rw [← Tr.flat_len]; omega)]; done))), _o_27, (Lo.nil _), E⟩
      · have _kb_22 := _h14
        have _h14 := bf_d _h14
        refine W_skip ?_
        refine thn_nrm (_hK_19 _ _ ?_)
        clear _hK_19
        refine W_seq fun _K_28 _hK_28 => ?_
        refine W_region ?_
        refine WL_step rfl rfl (r_move rfl) ?_
        refine WL_s rfl rfl ?_
        have _f_29 := (_tr11.ch0 _cw_21)
        refine Step.call (r_call (xs := [.tmp 16]) fk53 rfl) (c_impl_tree_expand _f_29 (treeL_ok _e11).1) fun _v17 _w_30 _q17 => ?_
        obtain ⟨_p17, rfl, _tr17, _cw_30⟩ := _q17
        have _cw_30z := _cw_30.size
        have E := E.trans _cw_30
        replace _tr17 : TrAt _w_30 _w_21.heap.size _w_30.heap.size _p17 (expT tt11) := _tr17
        obtain ⟨_A_17, _C_17, _ps_17, _hc_17, _hk_17, _kd_17⟩ := _tr17.open
        have _kl_17 := _kd_17.1
        refine WL_s rfl rfl ?_
        refine Step.call (r_call (xs := [.tmp 17]) fk54 rfl) (c_impl_tree_expr _tr17 (by have _z9 := expT_sz (treeL_ok _e11).1 (by omega); omega)) fun _v18 _w_31 _q18 => ?_
        obtain ⟨_u18, rfl, _q18, _lo18, _cw_31⟩ := _q18
        have _cw_31z := _cw_31.size
        have E := E.trans _cw_31
        obtain ⟨_Au18, _Cu18, _eu18⟩ := _q18.val
        subst _eu18
        have _lu18 := _q18.len
        have _hiu18 := _q18.lt
        refine WL_s rfl rfl ?_
        refine s_alloc zr30 fun _b5 _w_32 _m5 _cw_32 _e5 => ?_
        have _cw_32z := _cw_32.size
        have E := E.trans _cw_32
        have _z5 := _m5.lt
        replace _m5 : Blk _w_32 _b5 30 [(.slice none 0 0)] := _m5
        refine WL_s rfl rfl ?_
        refine s_storeA (off := 0) 1 _m5 sz30 rfl (us := [(.slice _Au18 ((expT tt11).flat).length _Cu18)]) rfl rfl rfl rfl fun _w_33 _m_34 _cw_33 => ?_
        have _cw_33z := _cw_33.size
        have E := E.step _cw_33 (fun i hi => .inl (by have _h1 := List.mem_singleton.1 hi; omega))
        replace _m_34 : Blk _w_33 _b5 30 [(.slice _Au18 ((expT tt11).flat).length _Cu18)] := _m_34
        refine WL_nil ?_
        refine thn_nrm (_hK_28 _ _ ?_)
        clear _hK_28
        refine W_seq fun _K_35 _hK_35 => ?_
        refine W_seq fun _K_36 _hK_36 => ?_
        refine W_region ?_
        refine WL_step rfl rfl (r_fieldAddr fa30_0 rfl) ?_
        refine WL_step rfl rfl (r_loadAt _m_34.at_ agg28 rfl rfl) ?_
        refine WL_step rfl rfl (r_len (by rw [el28]; rfl) rfl) ?_
        refine WL_step rfl rfl (r_gtr rfl rfl) ?_
        refine WL_nil ?_
        refine thn_nrm (_hK_36 _ _ ?_)
        clear _hK_36
        refine W_cond rfl (fun _h22 => ?_) (fun _h22 => ?_)
        · have _kb_37 := _h22
          have _h22 := bt_d _h22
          refine W_seq fun _K_38 _hK_38 => ?_
          refine W_region ?_
          refine WL_step rfl rfl (r_build (parts := []) (cells := [(.slice none 0 0)]) zr30 pl30 rfl rfl) ?_
          refine WL_s rfl rfl ?_
          have _f_39 := (((((((_m2.ch0 _cw_8).ch0 _cw_18).ch0 _cw_21).ch0 _cw_30).ch0 _cw_31).ch0 _cw_32).ch _cw_33 (fun hm => by have _h1 := List.mem_singleton.1 hm; omega))
          refine s_storeA (off := 0) 1 _f_39 sz30 rfl (us := [(.slice none 0 0)]) rfl rfl rfl rfl fun _w_40 _m_41 _cw_40 => ?_
          have _cw_40z := _cw_40.size
          have E := E.step _cw_40 (fun i hi => .inl (by have _h1 := List.mem_singleton.1 hi; omega))
          replace _m_41 : Blk _w_40 _b2 30 [(.slice none 0 0)] := _m_41
          refine WL_step rfl rfl (r_assign rfl) ?_
          refine WL_nil ?_
          refine thn_nrm (_hK_38 _ _ ?_)
          clear _hK_38
          refine W_ret (thn_ret ?_)
          clear _hK_35
          have _o_42 : Ol Token.cs 55 4 _w_40 (.slice none 0 0) ((expE e).1) := by
            have hx := (Ol.nil (cs := Token.cs) (e := 55) (k := 4) _w_40)
            first | (rw [expE_n _h8]; exact hx) | (rw [expE_n2 _e11 (by omega)]; exact hx) | (rw [expE_n3 _e11 (by rw [← Tr.flat_len]; omega)]; exact hx) | (rw [expE_y _e11 (by omega) (by omega) (by rw [← Tr.flat_len]; omega)]; exact hx)
          exact ret_intro [_, _] (resOf_loadA _m_41 rfl agg30 sz30 ⟨rfl, trivial⟩) ⟨(.slice none 0 0), (congrArg (fun zq => (Value.tuple #[.agg #[(.slice none 0 0)], .bool zq])) (by first | (rw [expE_n _h8]; done) | (rw [expE_n2 _e11 (by omega)]; done) | (rw [expE_n3 _e11 (by rw [← Tr.flat_len]; omega)]; done) | (rw [expE_y _e11 (by omega) (by omega) (by rw [← Tr.flat_len]; omega)]; done))), _o_42, (Lo.nil _), E⟩
        · have _kb_37 := _h22
          have _h22 := bf_d _h22
          refine W_skip ?_
          refine thn_nrm (_hK_35 _ _ ?_)
          clear _hK_35
          refine W_seq fun _K_43 _hK_43 => ?_
          refine W_region ?_
          refine WL_step rfl rfl (r_loadAtA0 _m_34.at_ agg30 sz30 rfl) ?_
          refine WL_s rfl rfl ?_
          have _f_44 := (((((((_m2.ch0 _cw_8).ch0 _cw_18).ch0 _cw_21).ch0 _cw_30).ch0 _cw_31).ch0 _cw_32).ch _cw_33 (fun hm => by have _h1 := List.mem_singleton.1 hm; omega))
          refine s_storeA (off := 0) 1 _f_44 sz30 rfl (us := [(.slice _Au18 ((expT tt11).flat).length _Cu18)]) rfl rfl rfl rfl fun _w_45 _m_46 _cw_45 => ?_
          have _cw_45z := _cw_45.size
          have E := E.step _cw_45 (fun i hi => .inl (by have _h1 := List.mem_singleton.1 hi; omega))
          replace _m_46 : Blk _w_45 _b2 30 [(.slice _Au18 ((expT tt11).flat).length _Cu18)] := _m_46
          refine WL_step rfl rfl (r_assign rfl) ?_
          refine WL_nil ?_
          refine thn_nrm (_hK_43 _ _ ?_)
          clear _hK_43
          refine W_ret ?_
          have _f_47 := (((_q18.ch0 _cw_32).ch _cw_33 (fun g hg hm => by have _h0 := List.mem_singleton.1 hm; have _h2 := _lo18 _ hg; have _h3 := _hiu18 _ hg; omega)).ch _cw_45 (fun g hg hm => by have _h0 := List.mem_singleton.1 hm; have _h2 := _lo18 _ hg; have _h3 := _hiu18 _ hg; omega))
          have _o_48 : Ol Token.cs 55 4 _w_45 (.slice _Au18 ((expT tt11).flat).length _Cu18) ((expE e).1) := by
            have hx := _f_47
            first | (rw [expE_n _h8]; exact hx) | (rw [expE_n2 _e11 (by omega)]; exact hx) | (rw [expE_n3 _e11 (by rw [← Tr.flat_len]; omega)]; exact hx) | (rw [expE_y _e11 (by omega) (by omega) (by rw [← Tr.flat_len]; omega)]; exact hx)
          exact ret_intro [_, _] (resOf_loadA _m_46 rfl agg30 sz30 ⟨rfl, trivial⟩) ⟨(.slice _Au18 ((expT tt11).flat).length _Cu18), (congrArg (fun zq => (Value.tuple #[.agg #[(.slice _Au18 ((expT tt11).flat).length _Cu18)], .bool zq])) (by first | (rw [expE_n _h8]; done) | (rw [expE_n2 _e11 (by omega)]; done) | (rw [expE_n3 _e11 (by rw [← Tr.flat_len]; omega)]; done) | (rw [expE_y _e11 (by omega) (by omega) (by rw [← Tr.flat_len]; omega)]; done))), _o_48, (Lo.down _lo18 (by omega)), E⟩

/-- impl.Positions).follow -/
theorem c_impl_Positions_follow {w : World} {b_p t_p L_p : Nat} {_v_p0 : Value} {_p0 : List Int} {_p1 : Int} {_p2 : Int} {_v_p3 : Value} {_p3 : List Int} {_p4 : Bool} (m_p : Blk w b_p t_p [_v_p0, (.int .i64 _p1), (.int .i64 _p2), _v_p3, (.bool _p4)]) (_lb_p : L_p ≤ b_p) (_h_p0 : Ol ics 3 1 w _v_p0 _p0) (_nb_p0 : b_p ∉ bl _v_p0) (_ll_p0 : Lo L_p _v_p0) (_h_p3 : Ol ics 3 1 w _v_p3 _p3) (_nb_p3 : b_p ∉ bl _v_p3) (_ll_p3 : Lo L_p _v_p3) (_dj_p0_p3 : ∀ g ∈ bl _v_p0, g ∉ bl _v_p3) (l : Int) (f : Int) (hb : _p3.length ≤ 4194304) :
    Ctr Try.prog 55 #[(.pointer (some ⟨b_p, 0, none⟩)), (.int .i64 l), (.int .i64 f)] w (fun v w' => ∃ (zp0 zp3 : Value), v = .tuple #[] ∧ Blk w' b_p t_p [zp0, .int .i64 _p1, .int .i64 _p2, zp3, .bool _p4] ∧ Ol ics 3 1 w' zp0 (_p0) ∧ (∀ g ∈ bl zp0, w.heap.size ≤ g ∨ g ∈ (b_p :: (bl _v_p0 ++ bl _v_p3))) ∧ b_p ∉ bl zp0 ∧ Ol ics 3 1 w' zp3 (lkL l f _p3) ∧ (∀ g ∈ bl zp3, w.heap.size ≤ g ∨ g ∈ (b_p :: (bl _v_p0 ++ bl _v_p3))) ∧ b_p ∉ bl zp3 ∧ (∀ g ∈ bl zp0, g ∉ bl zp3) ∧ Ch (b_p :: (bl _v_p0 ++ bl _v_p3)) w w') := by
  obtain ⟨_A_p0, _C_p0, _e1_p0⟩ := _h_p0.val
  subst _e1_p0
  have _l_p0 := _h_p0.len
  have _lt_p0 := _h_p0.lt
  obtain ⟨_A_p3, _C_p3, _e1_p3⟩ := _h_p3.val
  subst _e1_p3
  have _l_p3 := _h_p3.len
  have _lt_p3 := _h_p3.lt
  have _zb_p := m_p.lt
  have E := Ch.refl (b_p :: (bl (.slice _A_p0 _p0.length _C_p0) ++ bl (.slice _A_p3 _p3.length _C_p3))) w
  refine Ctr_of_W (N := 31) (vs0 := [(.pointer (some ⟨b_p, 0, none⟩)), (.int .i64 l), (.int .i64 f)]) Try.func55 rfl rfl rfl ?_
  refine W_seq fun _K_1 _hK_1 => ?_
  refine W_region ?_
  refine WL_step rfl rfl (r_move rfl) ?_
  refine WL_step rfl rfl (r_nilCheck rfl) ?_
  refine WL_step rfl rfl (r_fieldAddr fa37_3 rfl) ?_
  refine WL_step rfl rfl (r_loadAt m_p.at_ agg25 rfl rfl) ?_
  refine WL_step rfl rfl (r_len (by rw [el25]; rfl) rfl) ?_
  refine WL_step rfl rfl (r_move rfl) ?_
  refine WL_nil ?_
  refine thn_nrm (_hK_1 _ _ ?_)
  clear _hK_1
  refine W_block ?_
  have _oi_2 : Ol ics 3 1 w (.slice _A_p3 _p3.length _C_p3) (lkN l f _p3 0) := by
    have hx := _h_p3
    exact hx
  refine W_loop (σ := Nat) (fun (k : Nat) => [(0, (.pointer (some ⟨b_p, 0, none⟩))), (1, (.int .i64 l)), (2, (.int .i64 f)), (11, (.int .i64 ((_p3.length : Nat) : Int))), (12, (.int .i64 ((k : Nat) : Int)))]) (fun (k : Nat) wx => Ch (b_p :: (bl (.slice _A_p0 _p0.length _C_p0) ++ bl (.slice _A_p3 _p3.length _C_p3))) w wx ∧ w.heap.size ≤ wx.heap.size ∧ (k ≤ _p3.length) ∧ Blk wx b_p t_p [(.slice _A_p0 _p0.length _C_p0), (.int .i64 _p1), (.int .i64 _p2), (.slice _A_p3 _p3.length _C_p3), (.bool _p4)] ∧ Ol ics 3 1 wx (.slice _A_p0 _p0.length _C_p0) _p0 ∧ Ol ics 3 1 wx (.slice _A_p3 _p3.length _C_p3) (lkN l f _p3 k)) (fun (k : Nat) => _p3.length - k) 0 (Sub.cons rfl (Sub.cons rfl (Sub.cons rfl (Sub.cons rfl (Sub.cons rfl (Sub.nil _)))))) ⟨E, (Nat.le_refl _), (by omega), m_p, _h_p0, _oi_2⟩ ?_
  rintro k _wr_3 ⟨E, _zz0, _hk, _F0_0, _F0_1, o0_0_3⟩
  have _E0h := E
  have _E0hz := _E0h.size
  have _F0_0z := _F0_0.lt
  have _ln9 := lkN_len l f _p3 k
  refine W_seq fun _K_4 _hK_4 => ?_
  refine W_region ?_
  refine WL_step rfl rfl (r_lss rfl rfl) ?_
  refine WL_nil ?_
  refine thn_nrm (_hK_4 _ _ ?_)
  clear _hK_4
  refine W_seq fun _K_5 _hK_5 => ?_
  refine W_cond rfl (fun _h13 => ?_) (fun _h13 => ?_)
  · have _kb_6 := _h13
    have _h13 := bt_d _h13
    refine W_skip ?_
    refine thn_nrm (_hK_5 _ _ ?_)
    clear _hK_5
    refine W_seq fun _K_7 _hK_7 => ?_
    refine W_block ?_
    refine W_seq fun _K_8 _hK_8 => ?_
    refine W_region ?_
    refine WL_step rfl rfl (r_move rfl) ?_
    refine WL_step rfl rfl (r_assign rfl) ?_
    refine WL_nil ?_
    refine thn_nrm (_hK_8 _ _ ?_)
    clear _hK_8
    refine W_seq fun _K_9 _hK_9 => ?_
    refine W_region ?_
    refine WL_step rfl rfl (r_move rfl) ?_
    refine WL_step rfl rfl (r_move rfl) ?_
    refine WL_step rfl rfl (r_shr (by omega) rfl rfl) ?_
    refine WL_step rfl rfl (r_and rfl rfl) ?_
    refine WL_step rfl rfl (r_eql rfl rfl) ?_
    refine WL_nil ?_
    refine thn_nrm (_hK_9 _ _ ?_)
    clear _hK_9
    refine W_cond rfl (fun _h19 => ?_) (fun _h19 => ?_)
    · have _kb_10 := _h19
      have _h19 := bt_d _h19
      refine W_region ?_
      refine WL_step rfl rfl (r_move rfl) ?_
      refine WL_step rfl rfl (r_nilCheck rfl) ?_
      refine WL_step rfl rfl (r_fieldAddr fa37_3 rfl) ?_
      refine WL_step rfl rfl (r_loadAt _F0_0.at_ agg25 rfl rfl) ?_
      refine WL_step rfl rfl (r_move rfl) ?_
      refine WL_s rfl rfl ?_
      refine (s_index o0_0_3.ls ics_len el25 sz3 rfl rfl rfl (by omega) fun _p25 _y25 _hy25 _a25 => ?_)
      refine WL_step rfl rfl (r_loadAt0 _a25 agg3 rfl rfl) ?_
      refine WL_step rfl rfl (r_move rfl) ?_
      refine WL_step rfl rfl (r_or rfl rfl) ?_
      refine WL_s rfl rfl ?_
      refine s_indexO (j := k) o0_0_3 el25 sz3 rfl rfl rfl (by have _z9 := lkN_len l f _p3 k; omega) fun _g29 _o29 _cp29 _q29 => ?_
      refine WL_s rfl rfl ?_
      refine s_storeO (j := k) (ior _y25 f) o0_0_3 _q29 ics_len sz3 rfl rfl rfl rfl (by have _z9 := lkN_len l f _p3 k; omega) fun _w_11 _o_12 _cw_11 => ?_
      have _cw_11z := _cw_11.size
      have E := E.step _cw_11 (fun i hm => by exact (.inr (List.mem_cons_of_mem _ (List.mem_append_right _ hm))))
      refine WL_nil ?_
      refine inB_nrm ?_
      refine thn_nrm (_hK_7 _ _ ?_)
      clear _hK_7
      refine W_region ?_
      refine WL_step rfl rfl (r_add (by omega) rfl rfl) ?_
      refine WL_step rfl rfl (r_move rfl) ?_
      refine WL_nil ?_
      have _on_13 : Ol ics 3 1 _w_11 (.slice _A_p3 _p3.length _C_p3) (lkN l f _p3 (k + 1)) := by
        have hx := _o_12
        first | exact hx.eq (lkN_y _h19 _hy25) | exact hx.eq (lkN_n _h19)
      have _f_14 := (_F0_0.ch _cw_11 (fun hm => by exact _nb_p3 (by first | exact hm | exact _h0 ▸ hm)))
      have _f_15 := (_F0_1.ch _cw_11 (fun g hg hm => by exact _dj_p0_p3 _ hg hm))
      exact thn_nrm (Exists.intro (k + 1) ⟨⟨E, (by omega), (by omega), _f_14, _f_15, _on_13⟩, Sub.cons rfl (Sub.cons rfl (Sub.cons rfl (Sub.cons rfl (Sub.cons rfl (Sub.nil _))))), (by first | omega | (dsimp only; omega))⟩)
    · have _kb_10 := _h19
      have _h19 := bf_d _h19
      refine W_skip ?_
      refine inB_nrm ?_
      refine thn_nrm (_hK_7 _ _ ?_)
      clear _hK_7
      refine W_region ?_
      refine WL_step rfl rfl (r_add (by omega) rfl rfl) ?_
      refine WL_step rfl rfl (r_move rfl) ?_
      refine WL_nil ?_
      have _on_16 : Ol ics 3 1 _wr_3 (.slice _A_p3 _p3.length _C_p3) (lkN l f _p3 (k + 1)) := by
        have hx := o0_0_3
        first | exact hx.eq (lkN_y _h19 _hy25) | exact hx.eq (lkN_n _h19)
      exact thn_nrm (Exists.intro (k + 1) ⟨⟨E, (by omega), (by omega), _F0_0, _F0_1, _on_16⟩, Sub.cons rfl (Sub.cons rfl (Sub.cons rfl (Sub.cons rfl (Sub.cons rfl (Sub.nil _))))), (by first | omega | (dsimp only; omega))⟩)
  · have _kb_6 := _h13
    have _h13 := bf_d _h13
    refine W_exit (thn_exit (thn_exit (inB_hit ?_)))
    clear _hK_5
    have _o_17 : Ol ics 3 1 _wr_3 (.slice _A_p0 _p0.length _C_p0) (_p0) := by
      have hx := _F0_1
      first | exact hx | simpa using hx
    have _o_18 : Ol ics 3 1 _wr_3 (.slice _A_p3 _p3.length _C_p3) (lkL l f _p3) := by
      have hx := o0_0_3
      exact hx.eq (by rw [show k = _p3.length by omega]; rfl)
    have _m_19 : Blk _wr_3 b_p t_p [(.slice _A_p0 _p0.length _C_p0), .int .i64 _p1, .int .i64 _p2, (.slice _A_p3 _p3.length _C_p3), .bool _p4] := by
      have hx := _F0_0
      exact hx
    exact end_intro [] trivial ⟨(.slice _A_p0 _p0.length _C_p0), (.slice _A_p3 _p3.length _C_p3), rfl, _m_19, _o_17, (fun g hm => by exact (.inr (List.mem_cons_of_mem _ (List.mem_append_left _ hm)))), (fun hm => by exact _nb_p0 (by first | exact hm | exact _h0 ▸ hm)), _o_18, (fun g hm => by exact (.inr (List.mem_cons_of_mem _ (List.mem_append_right _ hm)))), (fun hm => by exact _nb_p3 (by first | exact hm | exact _h0 ▸ hm)), (fun g hm hg => by exact _dj_p0_p3 _ hm hg), E⟩

end Go.Proofs.Ythcoliemlekojaa
