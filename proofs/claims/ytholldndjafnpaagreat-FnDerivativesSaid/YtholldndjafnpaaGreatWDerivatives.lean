/- Walks of functions that FnDerivatives reaches: what each returns, and that it leaves the memory that was there alone. -/
import Derived.Test.YtholldndjafnpaaGreatLibA
import Derived.Test.YtholldndjafnpaaGreatLibB
import Derived.Test.YtholldndjafnpaaGreatProg
namespace Go.Proofs.YtholldndjafnpaaGreat
open Go.KLib Go.Shelf
set_option maxHeartbeats 1000000
set_option maxRecDepth 20000
set_option linter.unusedVariables false
set_option linter.unusedSimpArgs false
namespace TDerivatives
theorem agg24 : aggB Tryz.prog 24 = some false := by kernel_rfl
theorem agg26 : aggB Tryz.prog 26 = some true := by kernel_rfl
theorem agg3 : aggB Tryz.prog 3 = some false := by kernel_rfl
theorem agg46 : aggB Tryz.prog 46 = some false := by kernel_rfl
theorem agg52 : aggB Tryz.prog 52 = some true := by kernel_rfl
theorem agg63 : aggB Tryz.prog 63 = some false := by kernel_rfl
theorem by3 : bytesB Tryz.prog 3 = some 8 := by kernel_rfl
theorem by46 : bytesB Tryz.prog 46 = some 8 := by kernel_rfl
theorem by52 : bytesB Tryz.prog 52 = some 32 := by kernel_rfl
theorem el24 : elB Tryz.prog 24 = some 52 := by kernel_rfl
theorem el27 : elB Tryz.prog 27 = some 3 := by kernel_rfl
theorem el63 : elB Tryz.prog 63 = some 46 := by kernel_rfl
theorem el97 : elB Tryz.prog 97 = some 26 := by kernel_rfl
theorem fa26_0 : faB Tryz.prog 26 0 = some 0 := by kernel_rfl
theorem fa52_0 : faB Tryz.prog 52 0 = some 0 := by kernel_rfl
theorem fa52_1 : faB Tryz.prog 52 1 = some 1 := by kernel_rfl
theorem fa52_2 : faB Tryz.prog 52 2 = some 2 := by kernel_rfl
theorem fa52_3 : faB Tryz.prog 52 3 = some 3 := by kernel_rfl
theorem fa67_0 : faB Tryz.prog 67 0 = some 0 := by kernel_rfl
theorem fa67_1 : faB Tryz.prog 67 1 = some 4 := by kernel_rfl
theorem fk25 : fnB Tryz.prog 25 = true := by kernel_rfl
theorem fk28 : fnB Tryz.prog 28 = true := by kernel_rfl
theorem fk29 : fnB Tryz.prog 29 = true := by kernel_rfl
theorem fk33 : fnB Tryz.prog 33 = true := by kernel_rfl
theorem fk35 : fnB Tryz.prog 35 = true := by kernel_rfl
theorem fk38 : fnB Tryz.prog 38 = true := by kernel_rfl
theorem fk43 : fnB Tryz.prog 43 = true := by kernel_rfl
theorem fk44 : fnB Tryz.prog 44 = true := by kernel_rfl
theorem fk53 : fnB Tryz.prog 53 = true := by kernel_rfl
theorem fk54 : fnB Tryz.prog 54 = true := by kernel_rfl
theorem fk65 : fnB Tryz.prog 65 = true := by kernel_rfl
theorem fk66 : fnB Tryz.prog 66 = true := by kernel_rfl
theorem fk67 : fnB Tryz.prog 67 = true := by kernel_rfl
theorem fk75 : fnB Tryz.prog 75 = true := by kernel_rfl
theorem fk76 : fnB Tryz.prog 76 = true := by kernel_rfl
theorem fk77 : fnB Tryz.prog 77 = true := by kernel_rfl
theorem fk78 : fnB Tryz.prog 78 = true := by kernel_rfl
theorem fk86 : fnB Tryz.prog 86 = true := by kernel_rfl
theorem ist52 : intStructB Tryz.prog 52 4 = true := by kernel_rfl
theorem mixed : Tryz.prog.follows .mixedOrders = true := by kernel_rfl
theorem pl26 : placesB Tryz.prog 26 = some [(0, 1)] := by kernel_rfl
theorem pl52 : placesB Tryz.prog 52 = some [(0, 1), (1, 1), (2, 1), (3, 1)] := by kernel_rfl
theorem pl67 : placesB Tryz.prog 67 = some [(0, 4), (4, 1)] := by kernel_rfl
theorem ptr46 : ptrB Tryz.prog 46 = true := by kernel_rfl
theorem sz24 : sizeB Tryz.prog 24 = some 1 := by kernel_rfl
theorem sz26 : sizeB Tryz.prog 26 = some 1 := by kernel_rfl
theorem sz3 : sizeB Tryz.prog 3 = some 1 := by kernel_rfl
theorem sz46 : sizeB Tryz.prog 46 = some 1 := by kernel_rfl
theorem sz52 : sizeB Tryz.prog 52 = some 4 := by kernel_rfl
theorem zr26 : zeroB Tryz.prog 26 = some (.agg #[.slice none 0 0]) := by kernel_rfl
theorem zr3 : zeroB Tryz.prog 3 = some (.int .i64 0) := by kernel_rfl
theorem zr46 : zeroB Tryz.prog 46 = some (.pointer none) := by kernel_rfl
theorem zr52 : zeroB Tryz.prog 52 = some (.agg #[.int .i64 0, .int .i64 0, .int .i64 0, .int .i64 0]) := by kernel_rfl
theorem zr67 : zeroB Tryz.prog 67 = some (.agg #[.int .i64 0, .int .i64 0, .int .i64 0, .int .i64 0, .slice none 0 0]) := by kernel_rfl
end TDerivatives
open TDerivatives

/-- impl.within -/
theorem c_impl_within {w : World} (n : Int) (a : Int) (b : Int) :
    Ctr Tryz.prog 53 #[(.int .i64 n), (.int .i64 a), (.int .i64 b)] w (fun v w' => v = .bool (decide (a ≤ n ∧ n ≤ b)) ∧ Ch [] w w') := by
  have E := Ch.refl [] w
  refine Ctr_of_W (N := 15) (vs0 := [(.int .i64 n), (.int .i64 a), (.int .i64 b)]) Tryz.func53 rfl rfl rfl ?_
  refine W_seq fun _K_1 _hK_1 => ?_
  refine W_region ?_
  refine WL_step rfl rfl (r_assign rfl) ?_
  refine WL_nil ?_
  refine thn_nrm (_hK_1 _ _ ?_)
  clear _hK_1
  refine W_seq fun _K_2 _hK_2 => ?_
  refine W_region ?_
  refine WL_step rfl rfl (r_move rfl) ?_
  refine WL_step rfl rfl (r_move rfl) ?_
  refine WL_step rfl rfl (r_geq rfl rfl) ?_
  refine WL_step rfl rfl (r_move rfl) ?_
  refine WL_split (d := 10) rfl (fun _h10 => ?_) (fun _h10 => ?_)
  · have _kb_3 := _h10
    have _h10 := bt_d _h10
    refine WL_step rfl rfl (r_move rfl) ?_
    refine WL_step rfl rfl (r_move rfl) ?_
    refine WL_step rfl rfl (r_leq rfl rfl) ?_
    refine WL_step rfl rfl (r_pickT rfl rfl) ?_
    refine WL_step rfl rfl (r_assign rfl) ?_
    refine WL_nil ?_
    refine thn_nrm (_hK_2 _ _ ?_)
    clear _hK_2
    refine W_ret ?_
    exact ret_intro [_] ⟨rfl, trivial⟩ ⟨congrArg Value.bool (by first | rfl | (rw [Bool.eq_iff_iff]; simp <;> omega) | (rw [Bool.eq_iff_iff]; simp_all; done) | simp_all), E⟩
  · have _kb_3 := _h10
    have _h10 := bf_d _h10
    refine WL_skip rfl rfl ?_
    refine WL_skip rfl rfl ?_
    refine WL_skip rfl rfl ?_
    refine WL_step rfl rfl (r_pickF rfl rfl) ?_
    refine WL_step rfl rfl (r_assign rfl) ?_
    refine WL_nil ?_
    refine thn_nrm (_hK_2 _ _ ?_)
    clear _hK_2
    refine W_ret ?_
    exact ret_intro [_] ⟨rfl, trivial⟩ ⟨congrArg Value.bool (by first | rfl | (rw [Bool.eq_iff_iff]; simp <;> omega) | (rw [Bool.eq_iff_iff]; simp_all; done) | simp_all), E⟩

/-- impl.isLetter -/
theorem c_impl_isLetter {w : World} (n : Int) :
    Ctr Tryz.prog 35 #[(.int .i64 n)] w (fun v w' => v = .bool (decide (0 ≤ n ∧ n ≤ 8)) ∧ Ch [] w w') := by
  have E := Ch.refl [] w
  refine Ctr_of_W (N := 5) (vs0 := [(.int .i64 n)]) Tryz.func35 rfl rfl rfl ?_
  refine W_seq fun _K_1 _hK_1 => ?_
  refine W_region ?_
  refine WL_step rfl rfl (r_assign rfl) ?_
  refine WL_nil ?_
  refine thn_nrm (_hK_1 _ _ ?_)
  clear _hK_1
  refine W_seq fun _K_2 _hK_2 => ?_
  refine W_region ?_
  refine WL_step rfl rfl (r_move rfl) ?_
  refine WL_s rfl rfl ?_
  refine Step.call (r_call (xs := [.tmp 3, .const (Go.Value.int Go.IntKind.i64 0), .const (Go.Value.int Go.IntKind.i64 8)]) fk53 rfl) (c_impl_within _ _ _ ) fun _v4 _w_3 _q4 => ?_
  obtain ⟨rfl, _cw_3⟩ := _q4
  have _cw_3z := _cw_3.size
  have E := E.trans _cw_3
  refine WL_step rfl rfl (r_assign rfl) ?_
  refine WL_nil ?_
  refine thn_nrm (_hK_2 _ _ ?_)
  clear _hK_2
  refine W_ret ?_
  exact ret_intro [_] ⟨rfl, trivial⟩ ⟨congrArg Value.bool rfl, E⟩

/-- impl.tokenOk -/
theorem c_impl_tokenOk {w : World} (t : Token) :
    Ctr Tryz.prog 43 #[(.agg #[(.int .i64 t.kind), (.int .i64 t.letter), (.int .i64 t.low), (.int .i64 t.high)])] w (fun v w' => v = .bool (tokOk t) ∧ Ch [] w w') := by
  have E := Ch.refl [] w
  refine Ctr_of_W (N := 48) (vs0 := [(.agg #[(.int .i64 t.kind), (.int .i64 t.letter), (.int .i64 t.low), (.int .i64 t.high)])]) Tryz.func43 rfl rfl rfl ?_
  refine W_seq fun _K_1 _hK_1 => ?_
  refine W_region ?_
  refine WL_s rfl rfl ?_
  refine s_box rfl fun _b1 _w_2 _m1 _cw_2 _e1 => ?_
  have _cw_2z := _cw_2.size
  have E := E.trans _cw_2
  have _z1 := _m1.lt
  replace _m1 : Blk _w_2 _b1 52 [(.int .i64 t.kind), (.int .i64 t.letter), (.int .i64 t.low), (.int .i64 t.high)] := _m1
  refine WL_step rfl rfl (r_assign rfl) ?_
  refine WL_nil ?_
  refine thn_nrm (_hK_1 _ _ ?_)
  clear _hK_1
  refine W_seq fun _K_3 _hK_3 => ?_
  refine W_seq fun _K_4 _hK_4 => ?_
  refine W_region ?_
  refine WL_step rfl rfl (r_fieldAddr fa52_0 rfl) ?_
  refine WL_step rfl rfl (r_loadAt _m1.at_ agg3 rfl rfl) ?_
  refine WL_nil ?_
  refine thn_nrm (_hK_4 _ _ ?_)
  clear _hK_4
  refine W_block ?_
  refine W_seq fun _K_5 _hK_5 => ?_
  refine W_region ?_
  refine WL_step rfl rfl (r_eql rfl rfl) ?_
  refine WL_step rfl rfl (r_assign rfl) ?_
  refine WL_nil ?_
  refine thn_nrm (_hK_5 _ _ ?_)
  clear _hK_5
  refine W_cond rfl (fun _h5 => ?_) (fun _h5 => ?_)
  · have _kb_6 := _h5
    have _h5 := bt_d _h5
    refine W_seq fun _K_7 _hK_7 => ?_
    refine W_region ?_
    refine WL_step rfl rfl (r_fieldAddr fa52_1 rfl) ?_
    refine WL_step rfl rfl (r_loadAt _m1.at_ agg3 rfl rfl) ?_
    refine WL_s rfl rfl ?_
    refine Step.call (r_call (xs := [.tmp 8]) fk35 rfl) (c_impl_isLetter _ ) fun _v9 _w_8 _q9 => ?_
    obtain ⟨rfl, _cw_8⟩ := _q9
    have _cw_8z := _cw_8.size
    have E := E.trans _cw_8
    refine WL_step rfl rfl (r_move rfl) ?_
    refine WL_split (d := 10) rfl (fun _h10 => ?_) (fun _h10 => ?_)
    · have _kb_9 := _h10
      have _h10 := bt_d _h10
      refine WL_step rfl rfl (r_fieldAddr fa52_2 rfl) ?_
      have _f_10 := (_m1.ch0 _cw_8)
      refine WL_step rfl rfl (r_loadAt _f_10.at_ agg3 rfl rfl) ?_
      refine WL_step rfl rfl (r_eql rfl rfl) ?_
      refine WL_step rfl rfl (r_pickT rfl rfl) ?_
      refine WL_step rfl rfl (r_move rfl) ?_
      refine WL_split (d := 15) rfl (fun _h15 => ?_) (fun _h15 => ?_)
      · have _kb_11 := _h15
        have _h15 := bt_d _h15
        refine WL_step rfl rfl (r_fieldAddr fa52_3 rfl) ?_
        refine WL_step rfl rfl (r_loadAt _f_10.at_ agg3 rfl rfl) ?_
        refine WL_step rfl rfl (r_eql rfl rfl) ?_
        refine WL_step rfl rfl (r_pickT rfl rfl) ?_
        refine WL_step rfl rfl (r_assign rfl) ?_
        refine WL_nil ?_
        refine thn_nrm (_hK_7 _ _ ?_)
        clear _hK_7
        refine W_ret (inB_ret (thn_ret ?_))
        clear _hK_3
        exact ret_intro [_] ⟨rfl, trivial⟩ ⟨congrArg Value.bool (by rw [Bool.eq_iff_iff]; simp only [tokOk, decide_eq_true_eq, Bool.false_eq_true, false_iff, true_iff, Bool.and_eq_true, List.cons.injEq, and_true, true_and, Int.not_le]; unfold arT; (repeat' split) <;> omega), E⟩
      · have _kb_11 := _h15
        have _h15 := bf_d _h15
        refine WL_skip rfl rfl ?_
        refine WL_skip rfl rfl ?_
        refine WL_skip rfl rfl ?_
        refine WL_step rfl rfl (r_pickF rfl rfl) ?_
        refine WL_step rfl rfl (r_assign rfl) ?_
        refine WL_nil ?_
        refine thn_nrm (_hK_7 _ _ ?_)
        clear _hK_7
        refine W_ret (inB_ret (thn_ret ?_))
        clear _hK_3
        exact ret_intro [_] ⟨rfl, trivial⟩ ⟨congrArg Value.bool (by rw [Bool.eq_iff_iff]; simp only [tokOk, decide_eq_true_eq, Bool.false_eq_true, false_iff, true_iff, Bool.and_eq_true, List.cons.injEq, and_true, true_and, Int.not_le]; unfold arT; (repeat' split) <;> omega), E⟩
    · have _kb_9 := _h10
      have _h10 := bf_d _h10
      refine WL_skip rfl rfl ?_
      refine WL_skip rfl rfl ?_
      refine WL_skip rfl rfl ?_
      refine WL_step rfl rfl (r_pickF rfl rfl) ?_
      refine WL_step rfl rfl (r_move rfl) ?_
      refine WL_skip rfl rfl ?_
      refine WL_skip rfl rfl ?_
      refine WL_skip rfl rfl ?_
      refine WL_step rfl rfl (r_pickF rfl rfl) ?_
      refine WL_step rfl rfl (r_assign rfl) ?_
      refine WL_nil ?_
      refine thn_nrm (_hK_7 _ _ ?_)
      clear _hK_7
      refine W_ret (inB_ret (thn_ret ?_))
      clear _hK_3
      exact ret_intro [_] ⟨rfl, trivial⟩ ⟨congrArg Value.bool (by rw [Bool.eq_iff_iff]; simp only [tokOk, decide_eq_true_eq, Bool.false_eq_true, false_iff, true_iff, Bool.and_eq_true, List.cons.injEq, and_true, true_and, Int.not_le]; unfold arT; (repeat' split) <;> omega), E⟩
  · have _kb_6 := _h5
    have _h5 := bf_d _h5
    refine W_seq fun _K_12 _hK_12 => ?_
    refine W_region ?_
    refine WL_step rfl rfl (r_eql rfl rfl) ?_
    refine WL_step rfl rfl (r_assign rfl) ?_
    refine WL_nil ?_
    refine thn_nrm (_hK_12 _ _ ?_)
    clear _hK_12
    refine W_cond rfl (fun _h20 => ?_) (fun _h20 => ?_)
    · have _kb_13 := _h20
      have _h20 := bt_d _h20
      refine W_seq fun _K_14 _hK_14 => ?_
      refine W_region ?_
      refine WL_step rfl rfl (r_fieldAddr fa52_1 rfl) ?_
      refine WL_step rfl rfl (r_loadAt _m1.at_ agg3 rfl rfl) ?_
      refine WL_step rfl rfl (r_eql rfl rfl) ?_
      refine WL_step rfl rfl (r_move rfl) ?_
      refine WL_split (d := 25) rfl (fun _h25 => ?_) (fun _h25 => ?_)
      · have _kb_15 := _h25
        have _h25 := bt_d _h25
        refine WL_step rfl rfl (r_fieldAddr fa52_2 rfl) ?_
        refine WL_step rfl rfl (r_loadAt _m1.at_ agg3 rfl rfl) ?_
        refine WL_step rfl rfl (r_fieldAddr fa52_3 rfl) ?_
        refine WL_step rfl rfl (r_loadAt _m1.at_ agg3 rfl rfl) ?_
        refine WL_s rfl rfl ?_
        refine Step.call (r_call (xs := [.tmp 27, .const (Go.Value.int Go.IntKind.i64 0), .tmp 29]) fk53 rfl) (c_impl_within _ _ _ ) fun _v30 _w_16 _q30 => ?_
        obtain ⟨rfl, _cw_16⟩ := _q30
        have _cw_16z := _cw_16.size
        have E := E.trans _cw_16
        refine WL_step rfl rfl (r_pickT rfl rfl) ?_
        refine WL_step rfl rfl (r_move rfl) ?_
        refine WL_split (d := 32) rfl (fun _h32 => ?_) (fun _h32 => ?_)
        · have _kb_17 := _h32
          have _h32 := bt_d _h32
          refine WL_step rfl rfl (r_fieldAddr fa52_3 rfl) ?_
          have _f_18 := (_m1.ch0 _cw_16)
          refine WL_step rfl rfl (r_loadAt _f_18.at_ agg3 rfl rfl) ?_
          refine WL_s rfl rfl ?_
          refine Step.call (r_call (xs := [.tmp 34, .const (Go.Value.int Go.IntKind.i64 1), .const (Go.Value.int Go.IntKind.i64 3)]) fk53 rfl) (c_impl_within _ _ _ ) fun _v35 _w_19 _q35 => ?_
          obtain ⟨rfl, _cw_19⟩ := _q35
          have _cw_19z := _cw_19.size
          have E := E.trans _cw_19
          refine WL_step rfl rfl (r_pickT rfl rfl) ?_
          refine WL_step rfl rfl (r_assign rfl) ?_
          refine WL_nil ?_
          refine thn_nrm (_hK_14 _ _ ?_)
          clear _hK_14
          refine W_ret (inB_ret (thn_ret ?_))
          clear _hK_3
          exact ret_intro [_] ⟨rfl, trivial⟩ ⟨congrArg Value.bool (by rw [Bool.eq_iff_iff]; simp only [tokOk, decide_eq_true_eq, Bool.false_eq_true, false_iff, true_iff, Bool.and_eq_true, List.cons.injEq, and_true, true_and, Int.not_le]; unfold arT; (repeat' split) <;> omega), E⟩
        · have _kb_17 := _h32
          have _h32 := bf_d _h32
          refine WL_skip rfl rfl ?_
          refine WL_skip rfl rfl ?_
          refine WL_skip rfl rfl ?_
          refine WL_step rfl rfl (r_pickF rfl rfl) ?_
          refine WL_step rfl rfl (r_assign rfl) ?_
          refine WL_nil ?_
          refine thn_nrm (_hK_14 _ _ ?_)
          clear _hK_14
          refine W_ret (inB_ret (thn_ret ?_))
          clear _hK_3
          exact ret_intro [_] ⟨rfl, trivial⟩ ⟨congrArg Value.bool (by rw [Bool.eq_iff_iff]; simp only [tokOk, decide_eq_true_eq, Bool.false_eq_true, false_iff, true_iff, Bool.and_eq_true, List.cons.injEq, and_true, true_and, Int.not_le]; unfold arT; (repeat' split) <;> omega), E⟩
      · have _kb_15 := _h25
        have _h25 := bf_d _h25
        refine WL_skip rfl rfl ?_
        refine WL_skip rfl rfl ?_
        refine WL_skip rfl rfl ?_
        refine WL_skip rfl rfl ?_
        refine WL_skip rfl rfl ?_
        refine WL_step rfl rfl (r_pickF rfl rfl) ?_
        refine WL_step rfl rfl (r_move rfl) ?_
        refine WL_skip rfl rfl ?_
        refine WL_skip rfl rfl ?_
        refine WL_skip rfl rfl ?_
        refine WL_step rfl rfl (r_pickF rfl rfl) ?_
        refine WL_step rfl rfl (r_assign rfl) ?_
        refine WL_nil ?_
        refine thn_nrm (_hK_14 _ _ ?_)
        clear _hK_14
        refine W_ret (inB_ret (thn_ret ?_))
        clear _hK_3
        exact ret_intro [_] ⟨rfl, trivial⟩ ⟨congrArg Value.bool (by rw [Bool.eq_iff_iff]; simp only [tokOk, decide_eq_true_eq, Bool.false_eq_true, false_iff, true_iff, Bool.and_eq_true, List.cons.injEq, and_true, true_and, Int.not_le]; unfold arT; (repeat' split) <;> omega), E⟩
    · have _kb_13 := _h20
      have _h20 := bf_d _h20
      refine W_seq fun _K_20 _hK_20 => ?_
      refine W_seq fun _K_21 _hK_21 => ?_
      refine W_region ?_
      refine WL_step rfl rfl (r_eql rfl rfl) ?_
      refine WL_step rfl rfl (r_assign rfl) ?_
      refine WL_nil ?_
      refine thn_nrm (_hK_21 _ _ ?_)
      clear _hK_21
      refine W_cond rfl (fun _h37 => ?_) (fun _h37 => ?_)
      · have _kb_22 := _h37
        have _h37 := bt_d _h37
        refine W_skip ?_
        refine thn_nrm (_hK_20 _ _ ?_)
        clear _hK_20
        refine W_condTk rfl _kb_22 ?_
        refine W_seq fun _K_23 _hK_23 => ?_
        refine W_region ?_
        refine WL_step rfl rfl (r_loadAtA0 _m1.at_ agg52 sz52 rfl) ?_
        refine WL_step rfl rfl (r_fieldAddr fa52_0 rfl) ?_
        refine WL_step rfl rfl (r_loadAt _m1.at_ agg3 rfl rfl) ?_
        refine WL_step rfl rfl (r_build (parts := [(0, .tmp 45)]) (cells := [(.int .i64 t.kind), (.int .i64 0), (.int .i64 0), (.int .i64 0)]) zr52 pl52 rfl rfl) ?_
        refine WL_step rfl rfl (r_eqlI [t.kind, t.letter, t.low, t.high] [t.kind, 0, 0, 0] ist52 rfl rfl rfl) ?_
        refine WL_step rfl rfl (r_assign rfl) ?_
        refine WL_nil ?_
        refine thn_nrm (_hK_23 _ _ ?_)
        clear _hK_23
        refine W_ret (inB_ret (thn_ret ?_))
        clear _hK_3
        exact ret_intro [_] ⟨rfl, trivial⟩ ⟨congrArg Value.bool (by rw [Bool.eq_iff_iff]; simp only [tokOk, decide_eq_true_eq, Bool.false_eq_true, false_iff, true_iff, Bool.and_eq_true, List.cons.injEq, and_true, true_and, Int.not_le]; unfold arT; (repeat' split) <;> omega), E⟩
      · have _kb_22 := _h37
        have _h37 := bf_d _h37
        refine W_seq fun _K_24 _hK_24 => ?_
        refine W_region ?_
        refine WL_step rfl rfl (r_eql rfl rfl) ?_
        refine WL_step rfl rfl (r_assign rfl) ?_
        refine WL_nil ?_
        refine thn_nrm (_hK_24 _ _ ?_)
        clear _hK_24
        refine W_cond rfl (fun _h37 => ?_) (fun _h37 => ?_)
        · have _kb_25 := _h37
          have _h37 := bt_d _h37
          refine W_skip ?_
          refine thn_nrm (_hK_20 _ _ ?_)
          clear _hK_20
          refine W_condTk rfl _kb_25 ?_
          refine W_seq fun _K_26 _hK_26 => ?_
          refine W_region ?_
          refine WL_step rfl rfl (r_loadAtA0 _m1.at_ agg52 sz52 rfl) ?_
          refine WL_step rfl rfl (r_fieldAddr fa52_0 rfl) ?_
          refine WL_step rfl rfl (r_loadAt _m1.at_ agg3 rfl rfl) ?_
          refine WL_step rfl rfl (r_build (parts := [(0, .tmp 45)]) (cells := [(.int .i64 t.kind), (.int .i64 0), (.int .i64 0), (.int .i64 0)]) zr52 pl52 rfl rfl) ?_
          refine WL_step rfl rfl (r_eqlI [t.kind, t.letter, t.low, t.high] [t.kind, 0, 0, 0] ist52 rfl rfl rfl) ?_
          refine WL_step rfl rfl (r_assign rfl) ?_
          refine WL_nil ?_
          refine thn_nrm (_hK_26 _ _ ?_)
          clear _hK_26
          refine W_ret (inB_ret (thn_ret ?_))
          clear _hK_3
          exact ret_intro [_] ⟨rfl, trivial⟩ ⟨congrArg Value.bool (by rw [Bool.eq_iff_iff]; simp only [tokOk, decide_eq_true_eq, Bool.false_eq_true, false_iff, true_iff, Bool.and_eq_true, List.cons.injEq, and_true, true_and, Int.not_le]; unfold arT; (repeat' split) <;> omega), E⟩
        · have _kb_25 := _h37
          have _h37 := bf_d _h37
          refine W_seq fun _K_27 _hK_27 => ?_
          refine W_region ?_
          refine WL_step rfl rfl (r_eql rfl rfl) ?_
          refine WL_step rfl rfl (r_assign rfl) ?_
          refine WL_nil ?_
          refine thn_nrm (_hK_27 _ _ ?_)
          clear _hK_27
          refine W_cond rfl (fun _h37 => ?_) (fun _h37 => ?_)
          · have _kb_28 := _h37
            have _h37 := bt_d _h37
            refine W_skip ?_
            refine thn_nrm (_hK_20 _ _ ?_)
            clear _hK_20
            refine W_condTk rfl _kb_28 ?_
            refine W_seq fun _K_29 _hK_29 => ?_
            refine W_region ?_
            refine WL_step rfl rfl (r_loadAtA0 _m1.at_ agg52 sz52 rfl) ?_
            refine WL_step rfl rfl (r_fieldAddr fa52_0 rfl) ?_
            refine WL_step rfl rfl (r_loadAt _m1.at_ agg3 rfl rfl) ?_
            refine WL_step rfl rfl (r_build (parts := [(0, .tmp 45)]) (cells := [(.int .i64 t.kind), (.int .i64 0), (.int .i64 0), (.int .i64 0)]) zr52 pl52 rfl rfl) ?_
            refine WL_step rfl rfl (r_eqlI [t.kind, t.letter, t.low, t.high] [t.kind, 0, 0, 0] ist52 rfl rfl rfl) ?_
            refine WL_step rfl rfl (r_assign rfl) ?_
            refine WL_nil ?_
            refine thn_nrm (_hK_29 _ _ ?_)
            clear _hK_29
            refine W_ret (inB_ret (thn_ret ?_))
            clear _hK_3
            exact ret_intro [_] ⟨rfl, trivial⟩ ⟨congrArg Value.bool (by rw [Bool.eq_iff_iff]; simp only [tokOk, decide_eq_true_eq, Bool.false_eq_true, false_iff, true_iff, Bool.and_eq_true, List.cons.injEq, and_true, true_and, Int.not_le]; unfold arT; (repeat' split) <;> omega), E⟩
          · have _kb_28 := _h37
            have _h37 := bf_d _h37
            refine W_seq fun _K_30 _hK_30 => ?_
            refine W_region ?_
            refine WL_step rfl rfl (r_eql rfl rfl) ?_
            refine WL_step rfl rfl (r_assign rfl) ?_
            refine WL_nil ?_
            refine thn_nrm (_hK_30 _ _ ?_)
            clear _hK_30
            refine W_cond rfl (fun _h37 => ?_) (fun _h37 => ?_)
            · have _kb_31 := _h37
              have _h37 := bt_d _h37
              refine W_skip ?_
              refine thn_nrm (_hK_20 _ _ ?_)
              clear _hK_20
              refine W_condTk rfl _kb_31 ?_
              refine W_seq fun _K_32 _hK_32 => ?_
              refine W_region ?_
              refine WL_step rfl rfl (r_loadAtA0 _m1.at_ agg52 sz52 rfl) ?_
              refine WL_step rfl rfl (r_fieldAddr fa52_0 rfl) ?_
              refine WL_step rfl rfl (r_loadAt _m1.at_ agg3 rfl rfl) ?_
              refine WL_step rfl rfl (r_build (parts := [(0, .tmp 45)]) (cells := [(.int .i64 t.kind), (.int .i64 0), (.int .i64 0), (.int .i64 0)]) zr52 pl52 rfl rfl) ?_
              refine WL_step rfl rfl (r_eqlI [t.kind, t.letter, t.low, t.high] [t.kind, 0, 0, 0] ist52 rfl rfl rfl) ?_
              refine WL_step rfl rfl (r_assign rfl) ?_
              refine WL_nil ?_
              refine thn_nrm (_hK_32 _ _ ?_)
              clear _hK_32
              refine W_ret (inB_ret (thn_ret ?_))
              clear _hK_3
              exact ret_intro [_] ⟨rfl, trivial⟩ ⟨congrArg Value.bool (by rw [Bool.eq_iff_iff]; simp only [tokOk, decide_eq_true_eq, Bool.false_eq_true, false_iff, true_iff, Bool.and_eq_true, List.cons.injEq, and_true, true_and, Int.not_le]; unfold arT; (repeat' split) <;> omega), E⟩
            · have _kb_31 := _h37
              have _h37 := bf_d _h37
              refine W_region ?_
              refine WL_step rfl rfl (r_eql rfl rfl) ?_
              refine WL_step rfl rfl (r_assign rfl) ?_
              refine WL_nil ?_
              refine thn_nrm (_hK_20 _ _ ?_)
              clear _hK_20
              refine W_cond rfl (fun _h37 => ?_) (fun _h37 => ?_)
              · have _kb_33 := _h37
                have _h37 := bt_d _h37
                refine W_seq fun _K_34 _hK_34 => ?_
                refine W_region ?_
                refine WL_step rfl rfl (r_loadAtA0 _m1.at_ agg52 sz52 rfl) ?_
                refine WL_step rfl rfl (r_fieldAddr fa52_0 rfl) ?_
                refine WL_step rfl rfl (r_loadAt _m1.at_ agg3 rfl rfl) ?_
                refine WL_step rfl rfl (r_build (parts := [(0, .tmp 45)]) (cells := [(.int .i64 t.kind), (.int .i64 0), (.int .i64 0), (.int .i64 0)]) zr52 pl52 rfl rfl) ?_
                refine WL_step rfl rfl (r_eqlI [t.kind, t.letter, t.low, t.high] [t.kind, 0, 0, 0] ist52 rfl rfl rfl) ?_
                refine WL_step rfl rfl (r_assign rfl) ?_
                refine WL_nil ?_
                refine thn_nrm (_hK_34 _ _ ?_)
                clear _hK_34
                refine W_ret (inB_ret (thn_ret ?_))
                clear _hK_3
                exact ret_intro [_] ⟨rfl, trivial⟩ ⟨congrArg Value.bool (by rw [Bool.eq_iff_iff]; simp only [tokOk, decide_eq_true_eq, Bool.false_eq_true, false_iff, true_iff, Bool.and_eq_true, List.cons.injEq, and_true, true_and, Int.not_le]; unfold arT; (repeat' split) <;> omega), E⟩
              · have _kb_33 := _h37
                have _h37 := bf_d _h37
                refine W_skip ?_
                refine inB_nrm ?_
                refine thn_nrm (_hK_3 _ _ ?_)
                clear _hK_3
                refine W_seq fun _K_35 _hK_35 => ?_
                refine W_region ?_
                refine WL_step rfl rfl (r_assign rfl) ?_
                refine WL_nil ?_
                refine thn_nrm (_hK_35 _ _ ?_)
                clear _hK_35
                refine W_ret ?_
                exact ret_intro [_] ⟨rfl, trivial⟩ ⟨congrArg Value.bool (by rw [Bool.eq_iff_iff]; simp only [tokOk, decide_eq_true_eq, Bool.false_eq_true, false_iff, true_iff, Bool.and_eq_true, List.cons.injEq, and_true, true_and, Int.not_le]; unfold arT; (repeat' split) <;> omega), E⟩

/-- slices.Clone[[]*impl.tree,*impl.tree] -/
theorem c_slices_Clone_impl_tree_impl_tree {w : World} {LL_s _B_s : Nat} {_v_s : Value} {s : List Addr} (_h_s : Ls acs 1 w LL_s _B_s _v_s s) (hb : s.length ≤ 1048576) :
    Ctr Tryz.prog 44 #[_v_s] w (fun v w' => Ol acs 46 1 w' v (s) ∧ Lo w.heap.size v ∧ Ch [] w w') := by
  obtain ⟨_A_s, _C_s, _e1_s⟩ := _h_s.val
  subst _e1_s
  have _l_s := _h_s.len
  have _h_s := _h_s.here (by decide)
  have E := Ch.refl [] w
  refine Ctr_of_W (N := 8) (vs0 := [(.slice _A_s s.length _C_s)]) Tryz.func44 rfl rfl rfl ?_
  refine W_seq fun _K_1 _hK_1 => ?_
  refine W_region ?_
  refine WL_step rfl rfl (r_assign rfl) ?_
  refine WL_nil ?_
  refine thn_nrm (_hK_1 _ _ ?_)
  clear _hK_1
  refine W_seq fun _K_2 _hK_2 => ?_
  refine W_seq fun _K_3 _hK_3 => ?_
  refine W_region ?_
  refine WL_step rfl rfl (r_move rfl) ?_
  refine WL_step rfl rfl (r_eqNil (by rw [el63]; rfl) rfl rfl) ?_
  refine WL_nil ?_
  refine thn_nrm (_hK_3 _ _ ?_)
  clear _hK_3
  refine W_cond rfl (fun _h4 => ?_) (fun _h4 => ?_)
  · have _kb_4 := _h4
    refine W_seq fun _K_5 _hK_5 => ?_
    refine W_region ?_
    refine WL_step rfl rfl (r_assign rfl) ?_
    refine WL_nil ?_
    refine thn_nrm (_hK_5 _ _ ?_)
    clear _hK_5
    refine W_ret (thn_ret ?_)
    clear _hK_2
    have _o_6 : Ol acs 46 1 w (.slice none 0 0) (s) := by
      have hx := (Ol.nil (cs := acs) (e := 46) (k := 1) w)
      first | (have hn := Ls.none _h_s _h4; subst hn; exact hx) | exact hx
    exact ret_intro [_] ⟨rfl, trivial⟩ ⟨_o_6, Lo.nil _, E⟩
  · have _kb_4 := _h4
    refine W_skip ?_
    refine thn_nrm (_hK_2 _ _ ?_)
    clear _hK_2
    refine W_seq fun _K_7 _hK_7 => ?_
    refine W_region ?_
    refine WL_s rfl rfl ?_
    refine s_buildSlice0 (k := 1) acs el63 sz46 fun _v5 _w_8 _q5 _lo5 _cw_8 => ?_
    have _cw_8z := _cw_8.size
    have E := E.trans _cw_8
    obtain ⟨_Av5, _Cv5, _ev5⟩ := _q5.val
    subst _ev5
    have _lv5 := _q5.len
    have _hiv5 := _q5.lt
    refine WL_step rfl rfl (r_move rfl) ?_
    refine WL_s rfl rfl ?_
    have _f_10 := (_h_s.ch0 _cw_8)
    refine s_append (cs := acs) el63 sz46 by46 zr46 rfl (by decide) acs_one _q5 _f_10 rfl rfl (by first | omega | (simp only [List.length_append, List.length_nil, List.length_cons, List.length_replicate, List.length_set, List.length_reverse, List.length_map] at *; omega) | (simp at *; omega)) (by first | omega | (simp only [List.length_append, List.length_nil, List.length_cons, List.length_replicate, List.length_set, List.length_reverse, List.length_map] at *; omega) | (simp at *; omega)) _lo5 (by omega) fun _v7 _w_9 _q7 _lo7 _ap7 _cw_9 => ?_
    have _cw_9z := _cw_9.size
    have E := E.step _cw_9 (fun i hi => .inl (by have _h1 := _lo5 _ hi; omega))
    replace _q7 : Ol acs 46 1 _w_9 _v7 s := _q7
    obtain ⟨_Av7, _Cv7, _ev7⟩ := _q7.val
    subst _ev7
    have _lv7 := _q7.len
    have _hiv7 := _q7.lt
    refine WL_step rfl rfl (r_assign rfl) ?_
    refine WL_nil ?_
    refine thn_nrm (_hK_7 _ _ ?_)
    clear _hK_7
    refine W_ret ?_
    have _o_11 : Ol acs 46 1 _w_9 (.slice _Av7 (s).length _Cv7) (s) := by
      have hx := _q7
      first | (have hn := Ls.none _h_s _h4; subst hn; exact hx) | exact hx
    exact ret_intro [_] ⟨rfl, trivial⟩ ⟨_o_11, Lo.down _lo7 (by omega), E⟩

/-- impl.treeOf -/
theorem c_impl_treeOf {w : World} {LL_e _B_e : Nat} {_v_e : Value} {e : List Token} (_h_e : Ls Token.cs 4 w LL_e _B_e _v_e e) (hb : e.length ≤ 1048576) :
    Ctr Tryz.prog 25 #[(.agg #[_v_e])] w (fun v w' => ((treeL e) = none ∧ v = .pointer none ∨ ∃ t p, (treeL e) = some t ∧ v = .pointer (some p) ∧ TrAt w' w.heap.size w'.heap.size p t) ∧ Ch [] w w') := by
  obtain ⟨_A_e, _C_e, _e1_e⟩ := _h_e.val
  subst _e1_e
  have _l_e := _h_e.len
  have _h_e := _h_e.here (by decide)
  have E := Ch.refl [] w
  refine Ctr_of_W (N := 56) (vs0 := [(.agg #[(.slice _A_e e.length _C_e)])]) Tryz.func25 rfl rfl rfl ?_
  refine W_seq fun _K_1 _hK_1 => ?_
  refine W_region ?_
  refine WL_s rfl rfl ?_
  refine s_box rfl fun _b1 _w_2 _m1 _cw_2 _e1 => ?_
  have _cw_2z := _cw_2.size
  have E := E.trans _cw_2
  have _z1 := _m1.lt
  replace _m1 : Blk _w_2 _b1 26 [(.slice _A_e e.length _C_e)] := _m1
  refine WL_step rfl rfl (r_assign rfl) ?_
  refine WL_nil ?_
  refine thn_nrm (_hK_1 _ _ ?_)
  clear _hK_1
  refine W_seq fun _K_3 _hK_3 => ?_
  refine W_region ?_
  refine WL_s rfl rfl ?_
  refine s_buildSlice0 (k := 1) acs el63 sz46 fun _v9 _w_4 _q9 _lo9 _cw_4 => ?_
  have _cw_4z := _cw_4.size
  have E := E.trans _cw_4
  obtain ⟨_Av9, _Cv9, _ev9⟩ := _q9.val
  subst _ev9
  have _lv9 := _q9.len
  have _hiv9 := _q9.lt
  refine WL_step rfl rfl (r_assign rfl) ?_
  refine WL_nil ?_
  refine thn_nrm (_hK_3 _ _ ?_)
  clear _hK_3
  refine W_seq fun _K_5 _hK_5 => ?_
  refine W_seq fun _K_6 _hK_6 => ?_
  refine W_region ?_
  refine WL_step rfl rfl (r_fieldAddr fa26_0 rfl) ?_
  have _f_7 := (_m1.ch0 _cw_4)
  refine WL_step rfl rfl (r_loadAt _f_7.at_ agg24 rfl rfl) ?_
  refine WL_step rfl rfl (r_len (by rw [el24]; rfl) rfl) ?_
  refine WL_step rfl rfl (r_move rfl) ?_
  refine WL_nil ?_
  refine thn_nrm (_hK_6 _ _ ?_)
  clear _hK_6
  refine W_block ?_
  have _oi_8 : Ol acs 46 1 _w_4 (.slice _Av9 (([] : List Addr)).length _Cv9) (([] : List Addr)) := by
    have hx := _q9
    exact hx
  refine W_loop (σ := Nat × List Addr × List Tr × Value) (fun ⟨i, ps, st, sv⟩ => [(3, sv), (11, (.slice _A_e e.length _C_e)), (12, (.int .i64 ((e.length : Nat) : Int))), (13, (.int .i64 ((i : Nat) : Int)))]) (fun ⟨i, ps, st, sv⟩ wx => Ch [] w wx ∧ _w_4.heap.size ≤ wx.heap.size ∧ (i ≤ e.length) ∧ (ps.length = st.length) ∧ (st.length ≤ i) ∧ (prs [] (e.take i) = some st) ∧ Ol acs 46 1 wx sv ps ∧ Lo _w_2.heap.size sv ∧ Tks wx w.heap.size sv ps st) (fun ⟨i, ps, st, sv⟩ => e.length - i) (0, ([] : List Addr), ([] : List Tr), (.slice _Av9 (([] : List Addr)).length _Cv9)) (Sub.cons rfl (Sub.cons rfl (Sub.cons rfl (Sub.cons rfl (Sub.nil _))))) ⟨E, (Nat.le_refl _), (by omega), rfl, (Nat.le_refl _), rfl, _oi_8, _lo9, (Tks.nil _ _ _)⟩ ?_
  rintro ⟨i, ps, st, sv⟩ _wr_9 ⟨E, _zz0, hi, hl, hs, hp, _o0_3, _lo0_3, tks⟩
  have _E0h := E
  have _E0hz := _E0h.size
  obtain ⟨Asv, Csv, esv⟩ := _o0_3.val
  subst esv
  have lsv := _o0_3.len
  have hisv := _o0_3.lt
  refine W_seq fun _K_10 _hK_10 => ?_
  refine W_region ?_
  refine WL_step rfl rfl (r_lss rfl rfl) ?_
  refine WL_nil ?_
  refine thn_nrm (_hK_10 _ _ ?_)
  clear _hK_10
  refine W_seq fun _K_11 _hK_11 => ?_
  refine W_cond rfl (fun _h14 => ?_) (fun _h14 => ?_)
  · have _kb_12 := _h14
    have _h14 := bt_d _h14
    refine W_skip ?_
    refine thn_nrm (_hK_11 _ _ ?_)
    clear _hK_11
    refine W_seq fun _K_13 _hK_13 => ?_
    refine W_block ?_
    refine W_seq fun _K_14 _hK_14 => ?_
    refine W_region ?_
    refine WL_s rfl rfl ?_
    have _f_15 := (_h_e.ch0 _E0h)
    refine (s_index _f_15 Token.len el24 sz52 rfl rfl rfl (by omega) fun _p15 _y15 _hy15 _a15 => ?_)
    have k15 := arK_rng _y15.kind
    refine WL_step rfl rfl (r_loadAtA0 _a15 agg52 sz52 rfl) ?_
    refine WL_s rfl rfl ?_
    refine s_alloc zr52 fun _b5 _w_16 _m5 _cw_16 _e5 => ?_
    have _cw_16z := _cw_16.size
    have E := E.trans _cw_16
    have _z5 := _m5.lt
    replace _m5 : Blk _w_16 _b5 52 [(.int .i64 0), (.int .i64 0), (.int .i64 0), (.int .i64 0)] := _m5
    refine WL_s rfl rfl ?_
    refine s_storeA (off := 0) 4 _m5 sz52 rfl (us := [(.int .i64 _y15.kind), (.int .i64 _y15.letter), (.int .i64 _y15.low), (.int .i64 _y15.high)]) rfl rfl rfl rfl fun _w_17 _m_18 _cw_17 => ?_
    have _cw_17z := _cw_17.size
    have E := E.step _cw_17 (fun i hi => .inl (by have _h1 := List.mem_singleton.1 hi; omega))
    replace _m_18 : Blk _w_17 _b5 52 [(.int .i64 _y15.kind), (.int .i64 _y15.letter), (.int .i64 _y15.low), (.int .i64 _y15.high)] := _m_18
    refine WL_nil ?_
    refine thn_nrm (_hK_14 _ _ ?_)
    clear _hK_14
    refine W_seq fun _K_19 _hK_19 => ?_
    refine W_region ?_
    refine WL_step rfl rfl (r_assign rfl) ?_
    refine WL_nil ?_
    refine thn_nrm (_hK_19 _ _ ?_)
    clear _hK_19
    refine W_seq fun _K_20 _hK_20 => ?_
    have _J_21 : ∀ (lj : KL), Go.KLib.Sub [(3, (.slice Asv (ps).length Csv)), (5, (.pointer (some ⟨_b5, 0, none⟩))), (6, (.int .i64 (arK _y15.kind))), (11, (.slice _A_e e.length _C_e)), (12, (.int .i64 ((e.length : Nat) : Int))), (13, (.int .i64 ((i : Nat) : Int))), (14, (.bool (decide (((i : Nat) : Int) < ((e.length : Nat) : Int))))), (15, (.pointer (some _p15))), (16, (.agg #[(.int .i64 _y15.kind), (.int .i64 _y15.letter), (.int .i64 _y15.low), (.int .i64 _y15.high)]))] lj → _K_20 lj _w_17 := by
      intro lj _jsub
      refine _hK_20 _ _ (W_sub _jsub ?_)
      clear _hK_20
      refine W_seq fun _K_22 _hK_22 => ?_
      refine W_region ?_
      refine WL_step rfl rfl (r_move rfl) ?_
      refine WL_step rfl rfl (r_len (by rw [el63]; rfl) rfl) ?_
      refine WL_step rfl rfl (r_move rfl) ?_
      refine WL_step rfl rfl (r_sub (by omega) rfl rfl) ?_
      refine WL_step rfl rfl (r_assign rfl) ?_
      refine WL_nil ?_
      refine thn_nrm (_hK_22 _ _ ?_)
      clear _hK_22
      refine W_seq fun _K_23 _hK_23 => ?_
      refine W_seq fun _K_24 _hK_24 => ?_
      refine W_region ?_
      refine WL_step rfl rfl (r_loadAtA0 _m_18.at_ agg52 sz52 rfl) ?_
      refine WL_s rfl rfl ?_
      refine Step.call (r_call (xs := [.tmp 29]) fk43 rfl) (c_impl_tokenOk _y15 ) fun _v30 _w_25 _q30 => ?_
      obtain ⟨rfl, _cw_25⟩ := _q30
      have _cw_25z := _cw_25.size
      have E := E.trans _cw_25
      refine WL_step rfl rfl (r_not rfl) ?_
      refine WL_step rfl rfl (r_move rfl) ?_
      refine WL_split (d := 32) rfl (fun _h32 => ?_) (fun _h32 => ?_)
      · have _kb_26 := _h32
        have _h32 := bt_n _h32
        refine WL_skip rfl rfl ?_
        refine WL_skip rfl rfl ?_
        refine WL_step rfl rfl (r_pickT rfl rfl) ?_
        refine WL_nil ?_
        refine thn_nrm (_hK_24 _ _ ?_)
        clear _hK_24
        refine W_condT rfl ?_
        refine W_seq fun _K_27 _hK_27 => ?_
        refine W_region ?_
        refine WL_step rfl rfl (r_assign rfl) ?_
        refine WL_nil ?_
        refine thn_nrm (_hK_27 _ _ ?_)
        clear _hK_27
        refine W_ret (thn_ret (inB_ret (thn_ret (thn_ret (inB_ret (thn_ret ?_))))))
        clear _hK_5 _hK_13 _hK_23
        exact ret_intro [_] ⟨rfl, trivial⟩ ⟨.inl ⟨(by first | exact treeL_none hp (by omega) (by omega) | exact isE_no hp _hy15 (push_bad (by first | exact .inl _h32 | (right; omega)))), rfl⟩, E⟩
      · have _kb_26 := _h32
        have _h32 := bf_n _h32
        refine WL_step rfl rfl (r_move rfl) ?_
        refine WL_step rfl rfl (r_lss rfl rfl) ?_
        refine WL_step rfl rfl (r_pickF rfl rfl) ?_
        refine WL_nil ?_
        refine thn_nrm (_hK_24 _ _ ?_)
        clear _hK_24
        refine W_cond rfl (fun _h35 => ?_) (fun _h35 => ?_)
        · have _kb_28 := _h35
          have _h35 := bt_d _h35
          refine W_seq fun _K_29 _hK_29 => ?_
          refine W_region ?_
          refine WL_step rfl rfl (r_assign rfl) ?_
          refine WL_nil ?_
          refine thn_nrm (_hK_29 _ _ ?_)
          clear _hK_29
          refine W_ret (thn_ret (inB_ret (thn_ret (thn_ret (inB_ret (thn_ret ?_))))))
          clear _hK_5 _hK_13 _hK_23
          exact ret_intro [_] ⟨rfl, trivial⟩ ⟨.inl ⟨(by first | exact treeL_none hp (by omega) (by omega) | exact isE_no hp _hy15 (push_bad (by first | exact .inl _h32 | (right; omega)))), rfl⟩, E⟩
        · have _kb_28 := _h35
          have _h35 := bf_d _h35
          refine W_skip ?_
          refine thn_nrm (_hK_23 _ _ ?_)
          clear _hK_23
          refine W_seq fun _K_30 _hK_30 => ?_
          refine W_drawC [] 8 mixed rfl fun _w_31 _cw_31 => ?_
          have _cw_31z := _cw_31.size
          have E := E.trans _cw_31
          have _f_32 := ((_m_18.ch0 _cw_25).ch0 _cw_31)
          refine DR_s 0 rfl (by kernel_rfl) rfl rfl (t_loadAtA0 _f_32.at_ (fun i hi => absurd hi List.not_mem_nil) agg52 sz52 rfl ?_)
          refine DR_s 1 rfl (by kernel_rfl) rfl rfl (t_v (fun _ => (r_move rfl)) ?_)
          refine DR_s 2 rfl (by kernel_rfl) rfl rfl (t_v (fun _ => (r_move rfl)) ?_)
          have _f_33 := ((((_o0_3.ch0 _cw_16).ch _cw_17 (fun g hg hm => by have _h0 := List.mem_singleton.1 hm; have _h2 := _lo0_3 _ hg; have _h3 := hisv _ hg; omega)).ch0 _cw_25).ch0 _cw_31)
          refine DR_s 3 rfl (by kernel_rfl) rfl rfl (t_cutO (ys := (ps.drop ((((ps.length : Nat) : Int) - (arK _y15.kind)).toNat))) ((((ps.length : Nat) : Int) - (arK _y15.kind)).toNat) ps.length _f_33 acs_len el63 sz46 rfl ⟨_, _, rfl, by omega⟩ rfl (by omega) (by omega) (cut_all _ _) fun _v39 _q39 _bb39 _ln39 => ?_)
          obtain ⟨_A39, _C39, _e39⟩ := _q39.val
          subst _e39
          have _l39 := _q39.len
          have hi39 := _q39.lt
          refine DR_one 4 (by kernel_rfl) ?_
          refine DO_s rfl rfl rfl ?_
          refine Step.call (r_call (xs := [.tmp 39]) fk44 rfl) (c_slices_Clone_impl_tree_impl_tree _q39.ls (by omega)) fun _v40 _w_34 _q40 => ?_
          obtain ⟨_q40, _lo40, _cw_34⟩ := _q40
          have _cw_34z := _cw_34.size
          have E := E.trans _cw_34
          obtain ⟨_Av40, _Cv40, _ev40⟩ := _q40.val
          subst _ev40
          have _lv40 := _q40.len
          have _hiv40 := _q40.lt
          have _S_35 : Ch [] _w_31 _w_34 := ((Ch.refl _ _).trans _cw_34)
          refine ⟨_S_35, ?_⟩
          refine DR_s 5 rfl (by kernel_rfl) rfl rfl (t_v (fun _ => (r_build (parts := [(0, .tmp 36), (1, .tmp 40)]) (cells := [(.int .i64 _y15.kind), (.int .i64 _y15.letter), (.int .i64 _y15.low), (.int .i64 _y15.high), (.slice _Av40 ((ps.drop ((((ps.length : Nat) : Int) - (arK _y15.kind)).toNat))).length _Cv40)]) zr67 pl67 rfl rfl)) ?_)
          refine DR_one 6 (by kernel_rfl) ?_
          refine DO_s rfl rfl rfl ?_
          refine s_box rfl fun _b42 _w_36 _m42 _cw_36 _e42 => ?_
          have _cw_36z := _cw_36.size
          have E := E.trans _cw_36
          have _z42 := _m42.lt
          replace _m42 : Blk _w_36 _b42 67 [(.int .i64 _y15.kind), (.int .i64 _y15.letter), (.int .i64 _y15.low), (.int .i64 _y15.high), (.slice _Av40 ((ps.drop ((((ps.length : Nat) : Int) - (arK _y15.kind)).toNat))).length _Cv40)] := _m42
          have _S_37 : Ch [] _w_31 _w_36 := (_S_35.trans _cw_36)
          refine ⟨_S_37, ?_⟩
          refine DR_s 7 rfl (by kernel_rfl) rfl rfl (t_v (fun _ => (r_assign rfl)) ?_)
          refine DR_done (by kernel_rfl) ?_
          refine thn_nrm (_hK_30 _ _ ?_)
          clear _hK_30
          refine W_region ?_
          refine WL_step rfl rfl (r_move rfl) ?_
          refine WL_step rfl rfl (r_move rfl) ?_
          refine WL_s rfl rfl ?_
          have _f_38 := ((_f_33.ch0 _cw_34).ch0 _cw_36)
          refine (s_cutO (ys := (ps.take ((((ps.length : Nat) : Int) - (arK _y15.kind)).toNat))) 0 ((((ps.length : Nat) : Int) - (arK _y15.kind)).toNat) _f_38 acs_len el63 sz46 rfl rfl ⟨_, _, rfl, by omega⟩ (by omega) (by omega) rfl fun _v45 _q45 _bb45 _ln45 => ?_)
          obtain ⟨_A45, _C45, _e45⟩ := _q45.val
          subst _e45
          have _l45 := _q45.len
          have hi45 := _q45.lt
          refine WL_step rfl rfl (r_move rfl) ?_
          refine WL_s rfl rfl ?_
          refine s_buildSliceP (parts := [(0, .tmp 46)]) [(⟨_b42, 0, none⟩ : Addr)] el63 sz46 zr46 rfl rfl (by decide) (by decide) rfl fun _v47 _w_39 _q47 _lo47 _cw_39 => ?_
          have _cw_39z := _cw_39.size
          have E := E.trans _cw_39
          obtain ⟨_Av47, _Cv47, _ev47⟩ := _q47.val
          subst _ev47
          have _lv47 := _q47.len
          have _hiv47 := _q47.lt
          refine WL_s rfl rfl ?_
          have _f_41 := (_q45.ch0 _cw_39)
          refine s_append (cs := acs) el63 sz46 by46 zr46 rfl (by decide) acs_one _f_41 _q47.ls rfl rfl (by first | omega | (simp only [List.length_append, List.length_nil, List.length_cons, List.length_replicate, List.length_set, List.length_reverse, List.length_map] at *; omega) | (simp at *; omega)) (by first | omega | (simp only [List.length_append, List.length_nil, List.length_cons, List.length_replicate, List.length_set, List.length_reverse, List.length_map] at *; omega) | (simp at *; omega)) (fun g hg => _lo0_3 g (_bb45 ▸ hg)) (by omega) fun _v48 _w_40 _q48 _lo48 _ap48 _cw_40 => ?_
          have _cw_40z := _cw_40.size
          have E := E.step _cw_40 (fun i hi => .inl (by have _h1 := (fun g hg => _lo0_3 g (_bb45 ▸ hg)) _ hi; omega))
          obtain ⟨_Av48, _Cv48, _ev48⟩ := _q48.val
          subst _ev48
          have _lv48 := _q48.len
          have _hiv48 := _q48.lt
          refine WL_step rfl rfl (r_assign rfl) ?_
          refine WL_nil ?_
          refine inB_nrm ?_
          refine thn_nrm (_hK_13 _ _ ?_)
          clear _hK_13
          refine W_region ?_
          refine WL_step rfl rfl (r_add (by omega) rfl rfl) ?_
          refine WL_step rfl rfl (r_move rfl) ?_
          refine WL_nil ?_
          have _f_42 := (_m42.ch0 _cw_39)
          have _f_43 := ((_q40.ch0 _cw_36).ch0 _cw_39)
          obtain ⟨s2, _p2, k2, j2⟩ := Tks.push (tok := _y15) tks (by omega) hisv ((((((((Ch.refl [] _wr_9).trans _cw_16).step _cw_17 (fun i hi => .inl (by have _h1 := List.mem_singleton.1 hi; omega))).trans _cw_25).trans _cw_31).trans _cw_34).trans _cw_36).trans _cw_39) _f_42 (by omega) _f_43 (fun g hg => by have _h1 := _lo40 g hg; omega) _bb45 _cw_40 _ap48 (bt_d _h32) (by omega)
          have _on_44 : Ol acs 46 1 _w_40 (.slice _Av48 (((ps.take ((((ps.length : Nat) : Int) - (arK _y15.kind)).toNat)) ++ [(⟨_b42, 0, none⟩ : Addr)])).length _Cv48) (((ps.take ((((ps.length : Nat) : Int) - (arK _y15.kind)).toNat)) ++ [(⟨_b42, 0, none⟩ : Addr)])) := by
            have hx := _q48
            exact hx
          exact thn_nrm (Exists.intro ((i + 1), ((ps.take ((((ps.length : Nat) : Int) - (arK _y15.kind)).toNat)) ++ [(⟨_b42, 0, none⟩ : Addr)]), s2, (.slice _Av48 (((ps.take ((((ps.length : Nat) : Int) - (arK _y15.kind)).toNat)) ++ [(⟨_b42, 0, none⟩ : Addr)])).length _Cv48)) ⟨⟨E, (by omega), (by omega), (by simp only [List.length_append, List.length_take, List.length_singleton]; omega), (by omega), ((prs_snoc hp _hy15).trans _p2), _on_44, (Lo.down _lo48 (by omega)), k2⟩, Sub.cons rfl (Sub.cons rfl (Sub.cons rfl (Sub.cons rfl (Sub.nil _)))), (by first | omega | (dsimp only; omega))⟩)
    clear _hK_20
    refine W_seq fun _K_45 _hK_45 => ?_
    refine W_region ?_
    refine WL_step rfl rfl (r_fieldAddr fa52_0 rfl) ?_
    refine WL_step rfl rfl (r_loadAt _m_18.at_ agg3 rfl rfl) ?_
    refine WL_nil ?_
    refine thn_nrm (_hK_45 _ _ ?_)
    clear _hK_45
    refine W_block ?_
    refine W_seq fun _K_46 _hK_46 => ?_
    refine W_seq fun _K_47 _hK_47 => ?_
    refine W_region ?_
    refine WL_step rfl rfl (r_eql rfl rfl) ?_
    refine WL_step rfl rfl (r_assign rfl) ?_
    refine WL_nil ?_
    refine thn_nrm (_hK_47 _ _ ?_)
    clear _hK_47
    refine W_cond rfl (fun _h19 => ?_) (fun _h19 => ?_)
    · have _kb_48 := _h19
      have _h19 := bt_d _h19
      refine W_skip ?_
      refine thn_nrm (_hK_46 _ _ ?_)
      clear _hK_46
      refine W_condTk rfl _kb_48 ?_
      refine W_region ?_
      refine WL_step rfl rfl (r_assign rfl) ?_
      refine WL_nil ?_
      refine inB_nrm ?_
      refine thn_nrm ?_
      exact _J_21 _ (Sub.cons rfl (Sub.cons rfl (Sub.cons (by unfold arK; first | rfl | (repeat (first | rw [if_pos (by omega)] | rw [if_neg (by omega)])) <;> rfl) (Sub.cons rfl (Sub.cons rfl (Sub.cons rfl (Sub.cons rfl (Sub.cons rfl (Sub.cons rfl (Sub.nil _))))))))))
    · have _kb_48 := _h19
      have _h19 := bf_d _h19
      refine W_region ?_
      refine WL_step rfl rfl (r_eql rfl rfl) ?_
      refine WL_step rfl rfl (r_assign rfl) ?_
      refine WL_nil ?_
      refine thn_nrm (_hK_46 _ _ ?_)
      clear _hK_46
      refine W_cond rfl (fun _h19 => ?_) (fun _h19 => ?_)
      · have _kb_49 := _h19
        have _h19 := bt_d _h19
        refine W_region ?_
        refine WL_step rfl rfl (r_assign rfl) ?_
        refine WL_nil ?_
        refine inB_nrm ?_
        refine thn_nrm ?_
        exact _J_21 _ (Sub.cons rfl (Sub.cons rfl (Sub.cons (by unfold arK; first | rfl | (repeat (first | rw [if_pos (by omega)] | rw [if_neg (by omega)])) <;> rfl) (Sub.cons rfl (Sub.cons rfl (Sub.cons rfl (Sub.cons rfl (Sub.cons rfl (Sub.cons rfl (Sub.nil _))))))))))
      · have _kb_49 := _h19
        have _h19 := bf_d _h19
        refine W_seq fun _K_50 _hK_50 => ?_
        refine W_seq fun _K_51 _hK_51 => ?_
        refine W_region ?_
        refine WL_step rfl rfl (r_eql rfl rfl) ?_
        refine WL_step rfl rfl (r_assign rfl) ?_
        refine WL_nil ?_
        refine thn_nrm (_hK_51 _ _ ?_)
        clear _hK_51
        refine W_cond rfl (fun _h22 => ?_) (fun _h22 => ?_)
        · have _kb_52 := _h22
          have _h22 := bt_d _h22
          refine W_skip ?_
          refine thn_nrm (_hK_50 _ _ ?_)
          clear _hK_50
          refine W_condTk rfl _kb_52 ?_
          refine W_region ?_
          refine WL_step rfl rfl (r_assign rfl) ?_
          refine WL_nil ?_
          refine inB_nrm ?_
          refine thn_nrm ?_
          exact _J_21 _ (Sub.cons rfl (Sub.cons rfl (Sub.cons (by unfold arK; first | rfl | (repeat (first | rw [if_pos (by omega)] | rw [if_neg (by omega)])) <;> rfl) (Sub.cons rfl (Sub.cons rfl (Sub.cons rfl (Sub.cons rfl (Sub.cons rfl (Sub.cons rfl (Sub.nil _))))))))))
        · have _kb_52 := _h22
          have _h22 := bf_d _h22
          refine W_region ?_
          refine WL_step rfl rfl (r_eql rfl rfl) ?_
          refine WL_step rfl rfl (r_assign rfl) ?_
          refine WL_nil ?_
          refine thn_nrm (_hK_50 _ _ ?_)
          clear _hK_50
          refine W_cond rfl (fun _h22 => ?_) (fun _h22 => ?_)
          · have _kb_53 := _h22
            have _h22 := bt_d _h22
            refine W_region ?_
            refine WL_step rfl rfl (r_assign rfl) ?_
            refine WL_nil ?_
            refine inB_nrm ?_
            refine thn_nrm ?_
            exact _J_21 _ (Sub.cons rfl (Sub.cons rfl (Sub.cons (by unfold arK; first | rfl | (repeat (first | rw [if_pos (by omega)] | rw [if_neg (by omega)])) <;> rfl) (Sub.cons rfl (Sub.cons rfl (Sub.cons rfl (Sub.cons rfl (Sub.cons rfl (Sub.cons rfl (Sub.nil _))))))))))
          · have _kb_53 := _h22
            have _h22 := bf_d _h22
            refine W_skip ?_
            refine inB_nrm ?_
            refine thn_nrm ?_
            exact _J_21 _ (Sub.cons rfl (Sub.cons rfl (Sub.cons (by unfold arK; first | rfl | (repeat (first | rw [if_pos (by omega)] | rw [if_neg (by omega)])) <;> rfl) (Sub.cons rfl (Sub.cons rfl (Sub.cons rfl (Sub.cons rfl (Sub.cons rfl (Sub.cons rfl (Sub.nil _))))))))))
  · have _kb_12 := _h14
    have _h14 := bf_d _h14
    refine W_exit (thn_exit (thn_exit (inB_hit ?_)))
    refine thn_nrm (_hK_5 _ _ ?_)
    clear _hK_5
    refine W_seq fun _K_54 _hK_54 => ?_
    refine W_seq fun _K_55 _hK_55 => ?_
    refine W_region ?_
    refine WL_step rfl rfl (r_move rfl) ?_
    refine WL_step rfl rfl (r_len (by rw [el63]; rfl) rfl) ?_
    refine WL_step rfl rfl (r_neq rfl rfl) ?_
    refine WL_nil ?_
    refine thn_nrm (_hK_55 _ _ ?_)
    clear _hK_55
    refine W_cond rfl (fun _h52 => ?_) (fun _h52 => ?_)
    · have _kb_56 := _h52
      have _h52 := bf_d (bt_n _h52)
      refine W_seq fun _K_57 _hK_57 => ?_
      refine W_region ?_
      refine WL_step rfl rfl (r_assign rfl) ?_
      refine WL_nil ?_
      refine thn_nrm (_hK_57 _ _ ?_)
      clear _hK_57
      refine W_ret (thn_ret ?_)
      clear _hK_11 _hK_54
      exact ret_intro [_] ⟨rfl, trivial⟩ ⟨.inl ⟨(by first | exact treeL_none hp (by omega) (by omega) | exact isE_no hp _hy15 (push_bad (by first | exact .inl _h32 | (right; omega)))), rfl⟩, E⟩
    · have _kb_56 := _h52
      have _h52 := bt_d (bf_n _h52)
      refine W_skip ?_
      refine thn_nrm (_hK_54 _ _ ?_)
      clear _hK_54
      refine W_seq fun _K_58 _hK_58 => ?_
      refine W_region ?_
      refine WL_step rfl rfl (r_move rfl) ?_
      refine WL_s rfl rfl ?_
      refine (s_index (j := 0) _o0_3.ls acs_len el63 sz46 rfl rfl rfl (by omega) fun _p54 _y54 _hy54 _a54 => ?_)
      replace _a54 : At _wr_9 0 _wr_9.heap.size _p54 ([(.pointer (some _y54))]) := _a54
      obtain ⟨_t9, _e9, k9⟩ := tks.one (by omega) _hy54
      subst _e9
      refine WL_step rfl rfl (r_loadAt0 _a54 agg46 rfl rfl) ?_
      refine WL_step rfl rfl (r_assign rfl) ?_
      refine WL_nil ?_
      refine thn_nrm (_hK_58 _ _ ?_)
      clear _hK_58
      refine W_ret ?_
      clear _hK_11
      exact ret_intro [_] ⟨rfl, trivial⟩ ⟨.inr ⟨_, _, (treeL_some hp (by omega)), rfl, k9⟩, E⟩

/-- impl.IsExpr -/
theorem c_impl_IsExpr {w : World} {LL_e _B_e : Nat} {_v_e : Value} {e : List Token} (_h_e : Ls Token.cs 4 w LL_e _B_e _v_e e) (hb : e.length ≤ 1048576) :
    Ctr Tryz.prog 28 #[(.agg #[_v_e])] w (fun v w' => v = .bool (isE e) ∧ Ch [] w w') := by
  obtain ⟨_A_e, _C_e, _e1_e⟩ := _h_e.val
  subst _e1_e
  have _l_e := _h_e.len
  have _h_e := _h_e.here (by decide)
  have E := Ch.refl [] w
  refine Ctr_of_W (N := 6) (vs0 := [(.agg #[(.slice _A_e e.length _C_e)])]) Tryz.func28 rfl rfl rfl ?_
  refine W_seq fun _K_1 _hK_1 => ?_
  refine W_region ?_
  refine WL_s rfl rfl ?_
  refine s_box rfl fun _b1 _w_2 _m1 _cw_2 _e1 => ?_
  have _cw_2z := _cw_2.size
  have E := E.trans _cw_2
  have _z1 := _m1.lt
  replace _m1 : Blk _w_2 _b1 26 [(.slice _A_e e.length _C_e)] := _m1
  refine WL_step rfl rfl (r_assign rfl) ?_
  refine WL_nil ?_
  refine thn_nrm (_hK_1 _ _ ?_)
  clear _hK_1
  refine W_seq fun _K_3 _hK_3 => ?_
  refine W_region ?_
  refine WL_step rfl rfl (r_loadAtA0 _m1.at_ agg26 sz26 rfl) ?_
  refine WL_s rfl rfl ?_
  have _f_4 := (_h_e.ch0 _cw_2)
  refine Step.call (r_call (xs := [.tmp 3]) fk25 rfl) (c_impl_treeOf _f_4 (by omega)) fun _v4 _w_5 _q4 => ?_
  obtain ⟨_q4, _cw_5⟩ := _q4
  have _cw_5z := _cw_5.size
  have E := E.trans _cw_5
  rcases _q4 with ⟨_e4, rfl⟩ | ⟨tt4, _p4, _e4, rfl, _tr4⟩
  · refine WL_step rfl rfl (r_nePN ptr46 rfl rfl) ?_
    refine WL_step rfl rfl (r_assign rfl) ?_
    refine WL_nil ?_
    refine thn_nrm (_hK_3 _ _ ?_)
    clear _hK_3
    refine W_ret ?_
    exact ret_intro [_] ⟨rfl, trivial⟩ ⟨congrArg Value.bool (by first | exact isE_some _e4 | exact isE_none _e4), E⟩
  · replace _tr4 : TrAt _w_5 _w_2.heap.size _w_5.heap.size _p4 tt4 := _tr4
    obtain ⟨_A_4, _C_4, _ps_4, _hc_4, _hk_4, _kd_4⟩ := _tr4.open
    have _kl_4 := _kd_4.1
    refine WL_step rfl rfl (r_nePN ptr46 rfl rfl) ?_
    refine WL_step rfl rfl (r_assign rfl) ?_
    refine WL_nil ?_
    refine thn_nrm (_hK_3 _ _ ?_)
    clear _hK_3
    refine W_ret ?_
    exact ret_intro [_] ⟨rfl, trivial⟩ ⟨congrArg Value.bool (by first | exact isE_some _e4 | exact isE_none _e4), E⟩

/-- impl.copyInts -/
theorem c_impl_copyInts {w : World} {LL_l _B_l : Nat} {_v_l : Value} {l : List Int} (_h_l : Ls ics 1 w LL_l _B_l _v_l l) (hb : l.length ≤ 4194304) :
    Ctr Tryz.prog 65 #[_v_l] w (fun v w' => Ol ics 3 1 w' v (l) ∧ Lo w.heap.size v ∧ Ch [] w w') := by
  obtain ⟨_A_l, _C_l, _e1_l⟩ := _h_l.val
  subst _e1_l
  have _l_l := _h_l.len
  have _h_l := _h_l.here (by decide)
  have E := Ch.refl [] w
  refine Ctr_of_W (N := 6) (vs0 := [(.slice _A_l l.length _C_l)]) Tryz.func65 rfl rfl rfl ?_
  refine W_seq fun _K_1 _hK_1 => ?_
  refine W_region ?_
  refine WL_step rfl rfl (r_assign rfl) ?_
  refine WL_nil ?_
  refine thn_nrm (_hK_1 _ _ ?_)
  clear _hK_1
  refine W_seq fun _K_2 _hK_2 => ?_
  refine W_region ?_
  refine WL_s rfl rfl ?_
  refine s_buildSlice0 (k := 1) ics el27 sz3 fun _v3 _w_3 _q3 _lo3 _cw_3 => ?_
  have _cw_3z := _cw_3.size
  have E := E.trans _cw_3
  obtain ⟨_Av3, _Cv3, _ev3⟩ := _q3.val
  subst _ev3
  have _lv3 := _q3.len
  have _hiv3 := _q3.lt
  refine WL_step rfl rfl (r_move rfl) ?_
  refine WL_s rfl rfl ?_
  have _f_5 := (_h_l.ch0 _cw_3)
  refine s_append (cs := ics) el27 sz3 by3 zr3 rfl (by decide) ics_one _q3 _f_5 rfl rfl (by first | omega | (simp only [List.length_append, List.length_nil, List.length_cons, List.length_replicate, List.length_set, List.length_reverse, List.length_map] at *; omega) | (simp at *; omega)) (by first | omega | (simp only [List.length_append, List.length_nil, List.length_cons, List.length_replicate, List.length_set, List.length_reverse, List.length_map] at *; omega) | (simp at *; omega)) _lo3 (by omega) fun _v5 _w_4 _q5 _lo5 _ap5 _cw_4 => ?_
  have _cw_4z := _cw_4.size
  have E := E.step _cw_4 (fun i hi => .inl (by have _h1 := _lo3 _ hi; omega))
  replace _q5 : Ol ics 3 1 _w_4 _v5 l := _q5
  obtain ⟨_Av5, _Cv5, _ev5⟩ := _q5.val
  subst _ev5
  have _lv5 := _q5.len
  have _hiv5 := _q5.lt
  refine WL_step rfl rfl (r_assign rfl) ?_
  refine WL_nil ?_
  refine thn_nrm (_hK_2 _ _ ?_)
  clear _hK_2
  refine W_ret ?_
  have _o_6 : Ol ics 3 1 _w_4 (.slice _Av5 (l).length _Cv5) (l) := by
    have hx := _q5
    first | exact hx | simpa using hx
  exact ret_intro [_] ⟨rfl, trivial⟩ ⟨_o_6, Lo.down _lo5 (by omega), E⟩

shelf_lay Lays2.n20 Nm2 20 at Tryz as lay_20_67
/-- slices.Compact[[]int,int] -/
theorem c_slices_Compact_int_int {w : World} {e_a : Nat} {v_a : Value} {a : List Int} (h_a : Ol ics e_a 1 w v_a a) (hb : a.length ≤ 4194304) :
    Ctr Tryz.prog 67 #[v_a] w (fun v w' => Ol ics e_a 1 w' v (Lib.compact a) ∧ bl v = bl v_a ∧ Ch (bl v_a) w w') := by
  exact compact_ctr lay_20_67 h_a (by omega)

shelf_lay Lays.n189 Nm 189 at Tryz as lay_189_66
/-- slices.Sort[[]int,int] -/
theorem c_slices_Sort_int_int {w : World} {e_a : Nat} {v_a : Value} {a : List Int} (h_a : Ol ics e_a 1 w v_a a) (hb : a.length ≤ 4194304) :
    Ctr Tryz.prog 66 #[v_a] w (fun v w' => v = .tuple #[] ∧ Ol ics e_a 1 w' v_a (a.mergeSort fun x y => decide (x ≤ y)) ∧ Ch (bl v_a) w w') := by
  exact sort_ctr lay_189_66 h_a (by omega)

/-- impl.ascending -/
theorem c_impl_ascending {w : World} {LL_l _B_l : Nat} {_v_l : Value} {l : List Int} (_h_l : Ls ics 1 w LL_l _B_l _v_l l) (hb : l.length ≤ 4194304) :
    Ctr Tryz.prog 38 #[_v_l] w (fun v w' => Ol ics 3 1 w' v (ascL l) ∧ Lo w.heap.size v ∧ Ch [] w w') := by
  obtain ⟨_A_l, _C_l, _e1_l⟩ := _h_l.val
  subst _e1_l
  have _l_l := _h_l.len
  have _h_l := _h_l.here (by decide)
  have E := Ch.refl [] w
  refine Ctr_of_W (N := 10) (vs0 := [(.slice _A_l l.length _C_l)]) Tryz.func38 rfl rfl rfl ?_
  refine W_seq fun _K_1 _hK_1 => ?_
  refine W_region ?_
  refine WL_step rfl rfl (r_assign rfl) ?_
  refine WL_nil ?_
  refine thn_nrm (_hK_1 _ _ ?_)
  clear _hK_1
  refine W_seq fun _K_2 _hK_2 => ?_
  refine W_region ?_
  refine WL_step rfl rfl (r_move rfl) ?_
  refine WL_s rfl rfl ?_
  refine Step.call (r_call (xs := [.tmp 4]) fk65 rfl) (c_impl_copyInts _h_l (by omega)) fun _v5 _w_3 _q5 => ?_
  obtain ⟨_q5, _lo5, _cw_3⟩ := _q5
  have _cw_3z := _cw_3.size
  have E := E.trans _cw_3
  obtain ⟨_Av5, _Cv5, _ev5⟩ := _q5.val
  subst _ev5
  have _lv5 := _q5.len
  have _hiv5 := _q5.lt
  refine WL_step rfl rfl (r_assign rfl) ?_
  refine WL_nil ?_
  refine thn_nrm (_hK_2 _ _ ?_)
  clear _hK_2
  refine W_seq fun _K_4 _hK_4 => ?_
  refine W_region ?_
  refine WL_step rfl rfl (r_move rfl) ?_
  refine WL_s rfl rfl ?_
  refine Step.call (r_call (xs := [.tmp 6]) fk66 rfl) (c_slices_Sort_int_int _q5 (by first | omega | (simp; omega))) fun _v7 _w_5 _q7 => ?_
  obtain ⟨rfl, _q7, _cw_5⟩ := _q7
  have _cw_5z := _cw_5.size
  have E := E.step _cw_5 (fun i hi => .inl (by have _h1 := _lo5 _ hi; omega))
  refine WL_nil ?_
  refine thn_nrm (_hK_4 _ _ ?_)
  clear _hK_4
  refine W_seq fun _K_6 _hK_6 => ?_
  refine W_region ?_
  refine WL_step rfl rfl (r_move rfl) ?_
  refine WL_s rfl rfl ?_
  refine Step.call (r_call (xs := [.tmp 8]) fk67 rfl) (c_slices_Compact_int_int _q7 (by first | omega | (rw [List.length_mergeSort]; omega))) fun _v9 _w_7 _q9 => ?_
  obtain ⟨_q9, _bb9, _cw_7⟩ := _q9
  have _cw_7z := _cw_7.size
  have E := E.step _cw_7 (fun i hi => .inl (by have _h1 := _lo5 _ hi; omega))
  obtain ⟨_Av9, _Cv9, _ev9⟩ := _q9.val
  subst _ev9
  have _lv9 := _q9.len
  have _hiv9 := _q9.lt
  refine WL_step rfl rfl (r_assign rfl) ?_
  refine WL_nil ?_
  refine thn_nrm (_hK_6 _ _ ?_)
  clear _hK_6
  refine W_ret ?_
  have _o_8 : Ol ics 3 1 _w_7 (.slice _Av9 (Lib.compact (l.mergeSort fun x y => decide (x ≤ y))).length _Cv9) (ascL l) := by
    have hx := _q9
    exact hx
  exact ret_intro [_] ⟨rfl, trivial⟩ ⟨_o_8, Lo.down (fun g hg => _lo5 g (_bb9 ▸ hg)) (by omega), E⟩

/-- impl.Alphabet -/
theorem c_impl_Alphabet {w : World} {LL_e _B_e : Nat} {_v_e : Value} {e : List Token} (_h_e : Ls Token.cs 4 w LL_e _B_e _v_e e) (hb : e.length ≤ 1048576) :
    Ctr Tryz.prog 18 #[(.agg #[_v_e])] w (fun v w' => Ol ics 3 1 w' v (alphR e) ∧ Lo w.heap.size v ∧ Ch [] w w') := by
  obtain ⟨_A_e, _C_e, _e1_e⟩ := _h_e.val
  subst _e1_e
  have _l_e := _h_e.len
  have _h_e := _h_e.here (by decide)
  have E := Ch.refl [] w
  refine Ctr_of_W (N := 28) (vs0 := [(.agg #[(.slice _A_e e.length _C_e)])]) Tryz.func18 rfl rfl rfl ?_
  refine W_seq fun _K_1 _hK_1 => ?_
  refine W_region ?_
  refine WL_s rfl rfl ?_
  refine s_box rfl fun _b1 _w_2 _m1 _cw_2 _e1 => ?_
  have _cw_2z := _cw_2.size
  have E := E.trans _cw_2
  have _z1 := _m1.lt
  replace _m1 : Blk _w_2 _b1 26 [(.slice _A_e e.length _C_e)] := _m1
  refine WL_step rfl rfl (r_assign rfl) ?_
  refine WL_nil ?_
  refine thn_nrm (_hK_1 _ _ ?_)
  clear _hK_1
  refine W_seq fun _K_3 _hK_3 => ?_
  refine W_seq fun _K_4 _hK_4 => ?_
  refine W_region ?_
  refine WL_step rfl rfl (r_loadAtA0 _m1.at_ agg26 sz26 rfl) ?_
  refine WL_s rfl rfl ?_
  have _f_5 := (_h_e.ch0 _cw_2)
  refine Step.call (r_call (xs := [.tmp 6]) fk28 rfl) (c_impl_IsExpr _f_5 (by omega)) fun _v7 _w_6 _q7 => ?_
  obtain ⟨rfl, _cw_6⟩ := _q7
  have _cw_6z := _cw_6.size
  have E := E.trans _cw_6
  refine WL_step rfl rfl (r_not rfl) ?_
  refine WL_nil ?_
  refine thn_nrm (_hK_4 _ _ ?_)
  clear _hK_4
  refine W_cond rfl (fun _h8 => ?_) (fun _h8 => ?_)
  · have _kb_7 := _h8
    have _h8 := bt_n _h8
    refine W_seq fun _K_8 _hK_8 => ?_
    refine W_region ?_
    refine WL_step rfl rfl (r_assign rfl) ?_
    refine WL_nil ?_
    refine thn_nrm (_hK_8 _ _ ?_)
    clear _hK_8
    refine W_ret (thn_ret ?_)
    clear _hK_3
    have _o_9 : Ol ics 3 1 _w_6 (.slice none 0 0) (alphR e) := by
      have hx := (Ol.nil (cs := ics) (e := 3) (k := 1) _w_6)
      first | exact hx.eq (alphR_n2 _h8) | exact hx.eq (alphR_y2 _h8 (by omega))
    exact ret_intro [_] ⟨rfl, trivial⟩ ⟨_o_9, Lo.nil _, E⟩
  · have _kb_7 := _h8
    have _h8 := bf_n _h8
    refine W_skip ?_
    refine thn_nrm (_hK_3 _ _ ?_)
    clear _hK_3
    refine W_seq fun _K_10 _hK_10 => ?_
    refine W_region ?_
    refine WL_s rfl rfl ?_
    refine s_buildSlice0 (k := 1) ics el27 sz3 fun _v9 _w_11 _q9 _lo9 _cw_11 => ?_
    have _cw_11z := _cw_11.size
    have E := E.trans _cw_11
    obtain ⟨_Av9, _Cv9, _ev9⟩ := _q9.val
    subst _ev9
    have _lv9 := _q9.len
    have _hiv9 := _q9.lt
    refine WL_step rfl rfl (r_assign rfl) ?_
    refine WL_nil ?_
    refine thn_nrm (_hK_10 _ _ ?_)
    clear _hK_10
    refine W_seq fun _K_12 _hK_12 => ?_
    refine W_seq fun _K_13 _hK_13 => ?_
    refine W_region ?_
    refine WL_step rfl rfl (r_fieldAddr fa26_0 rfl) ?_
    have _f_14 := ((_m1.ch0 _cw_6).ch0 _cw_11)
    refine WL_step rfl rfl (r_loadAt _f_14.at_ agg24 rfl rfl) ?_
    refine WL_step rfl rfl (r_len (by rw [el24]; rfl) rfl) ?_
    refine WL_step rfl rfl (r_move rfl) ?_
    refine WL_nil ?_
    refine thn_nrm (_hK_13 _ _ ?_)
    clear _hK_13
    refine W_block ?_
    have _oi_15 : Ol ics 3 1 _w_11 (.slice _Av9 (([] : List Int)).length _Cv9) (letL e 0) := by
      have hx := _q9
      simpa [letL] using hx
    have _f_16 := ((_f_5.ch0 _cw_6).ch0 _cw_11)
    refine W_loop (σ := Nat × Value) (fun ⟨i, sv⟩ => [(2, (.slice none 0 0)), (3, sv), (11, (.slice _A_e e.length _C_e)), (12, (.int .i64 ((e.length : Nat) : Int))), (13, (.int .i64 ((i : Nat) : Int)))]) (fun ⟨i, sv⟩ wx => Ch [] w wx ∧ _w_11.heap.size ≤ wx.heap.size ∧ (i ≤ e.length) ∧ Ls Token.cs 4 wx LL_e w.heap.size (.slice _A_e e.length _C_e) e ∧ Ol ics 3 1 wx sv (letL e i) ∧ Lo _w_6.heap.size sv) (fun ⟨i, sv⟩ => e.length - i) (0, (.slice _Av9 (([] : List Int)).length _Cv9)) (Sub.cons rfl (Sub.cons rfl (Sub.cons rfl (Sub.cons rfl (Sub.cons rfl (Sub.nil _)))))) ⟨E, (Nat.le_refl _), (by omega), _f_16, _oi_15, _lo9⟩ ?_
    rintro ⟨i, sv⟩ _wr_17 ⟨E, _zz0, hi, _F0_0, _o0_3, _lo0_3⟩
    have _E0h := E
    have _E0hz := _E0h.size
    obtain ⟨Asv, Csv, esv⟩ := _o0_3.val
    subst esv
    have lsv := _o0_3.len
    have hisv := _o0_3.lt
    refine W_seq fun _K_18 _hK_18 => ?_
    refine W_region ?_
    refine WL_step rfl rfl (r_lss rfl rfl) ?_
    refine WL_nil ?_
    refine thn_nrm (_hK_18 _ _ ?_)
    clear _hK_18
    refine W_seq fun _K_19 _hK_19 => ?_
    refine W_cond rfl (fun _h14 => ?_) (fun _h14 => ?_)
    · have _kb_20 := _h14
      have _h14 := bt_d _h14
      refine W_skip ?_
      refine thn_nrm (_hK_19 _ _ ?_)
      clear _hK_19
      refine W_seq fun _K_21 _hK_21 => ?_
      refine W_block ?_
      refine W_seq fun _K_22 _hK_22 => ?_
      refine W_region ?_
      refine WL_s rfl rfl ?_
      refine (s_index _F0_0 Token.len el24 sz52 rfl rfl rfl (by omega) fun _p15 _y15 _hy15 _a15 => ?_)
      refine WL_step rfl rfl (r_loadAtA0 _a15 agg52 sz52 rfl) ?_
      refine WL_s rfl rfl ?_
      refine s_alloc zr52 fun _b5 _w_23 _m5 _cw_23 _e5 => ?_
      have _cw_23z := _cw_23.size
      have E := E.trans _cw_23
      have _z5 := _m5.lt
      replace _m5 : Blk _w_23 _b5 52 [(.int .i64 0), (.int .i64 0), (.int .i64 0), (.int .i64 0)] := _m5
      refine WL_s rfl rfl ?_
      refine s_storeA (off := 0) 4 _m5 sz52 rfl (us := [(.int .i64 _y15.kind), (.int .i64 _y15.letter), (.int .i64 _y15.low), (.int .i64 _y15.high)]) rfl rfl rfl rfl fun _w_24 _m_25 _cw_24 => ?_
      have _cw_24z := _cw_24.size
      have E := E.step _cw_24 (fun i hi => .inl (by have _h1 := List.mem_singleton.1 hi; omega))
      replace _m_25 : Blk _w_24 _b5 52 [(.int .i64 _y15.kind), (.int .i64 _y15.letter), (.int .i64 _y15.low), (.int .i64 _y15.high)] := _m_25
      refine WL_nil ?_
      refine thn_nrm (_hK_22 _ _ ?_)
      clear _hK_22
      refine W_seq fun _K_26 _hK_26 => ?_
      refine W_region ?_
      refine WL_step rfl rfl (r_fieldAddr fa52_0 rfl) ?_
      refine WL_step rfl rfl (r_loadAt _m_25.at_ agg3 rfl rfl) ?_
      refine WL_step rfl rfl (r_eql rfl rfl) ?_
      refine WL_nil ?_
      refine thn_nrm (_hK_26 _ _ ?_)
      clear _hK_26
      refine W_cond rfl (fun _h19 => ?_) (fun _h19 => ?_)
      · have _kb_27 := _h19
        have _h19 := bt_d _h19
        refine W_region ?_
        refine WL_step rfl rfl (r_move rfl) ?_
        refine WL_step rfl rfl (r_fieldAddr fa52_1 rfl) ?_
        refine WL_step rfl rfl (r_loadAt _m_25.at_ agg3 rfl rfl) ?_
        refine WL_s rfl rfl ?_
        refine s_buildSlice (cs := ics) (parts := [(0, .tmp 22)]) (0 : Int) [_y15.letter] el27 sz3 zr3 ics_len (by decide) rfl rfl rfl (by decide) (by decide) rfl fun _v23 _w_28 _q23 _lo23 _cw_28 => ?_
        have _cw_28z := _cw_28.size
        have E := E.trans _cw_28
        obtain ⟨_Av23, _Cv23, _ev23⟩ := _q23.val
        subst _ev23
        have _lv23 := _q23.len
        have _hiv23 := _q23.lt
        refine WL_s rfl rfl ?_
        have _f_30 := (((_o0_3.ch0 _cw_23).ch _cw_24 (fun g hg hm => by have _h0 := List.mem_singleton.1 hm; have _h2 := _lo0_3 _ hg; have _h3 := hisv _ hg; omega)).ch0 _cw_28)
        refine s_append (cs := ics) el27 sz3 by3 zr3 rfl (by decide) ics_one _f_30 _q23.ls rfl rfl (by have _h9 := letl_len e i; simp only [List.length_singleton]; omega) (by have _h9 := letl_len e i; simp only [List.length_singleton]; omega) _lo0_3 (by omega) fun _v24 _w_29 _q24 _lo24 _ap24 _cw_29 => ?_
        have _cw_29z := _cw_29.size
        have E := E.step _cw_29 (fun i hi => .inl (by have _h1 := _lo0_3 _ hi; omega))
        obtain ⟨_Av24, _Cv24, _ev24⟩ := _q24.val
        subst _ev24
        have _lv24 := _q24.len
        have _hiv24 := _q24.lt
        refine WL_step rfl rfl (r_assign rfl) ?_
        refine WL_nil ?_
        refine inB_nrm ?_
        refine thn_nrm (_hK_21 _ _ ?_)
        clear _hK_21
        refine W_region ?_
        refine WL_step rfl rfl (r_add (by omega) rfl rfl) ?_
        refine WL_step rfl rfl (r_move rfl) ?_
        refine WL_nil ?_
        have _on_31 : Ol ics 3 1 _w_29 (.slice _Av24 ((letL e i ++ [_y15.letter])).length _Cv24) (letL e (i + 1)) := by
          have hx := _q24
          first | exact hx.eq (letl_y _hy15 _h19) | exact hx.eq (letl_n _hy15 _h19)
        have _f_32 := ((((_F0_0.ch0 _cw_23).ch _cw_24 (fun i hi => by have _h1 := List.mem_singleton.1 hi; omega)).ch0 _cw_28).ch _cw_29 (fun i hi => by have _h1 := _lo0_3 _ hi; omega))
        exact thn_nrm (Exists.intro ((i + 1), (.slice _Av24 ((letL e i ++ [_y15.letter])).length _Cv24)) ⟨⟨E, (by omega), (by omega), _f_32, _on_31, (Lo.down _lo24 (by omega))⟩, Sub.cons rfl (Sub.cons rfl (Sub.cons rfl (Sub.cons rfl (Sub.cons rfl (Sub.nil _))))), (by first | omega | (dsimp only; omega))⟩)
      · have _kb_27 := _h19
        have _h19 := bf_d _h19
        refine W_skip ?_
        refine inB_nrm ?_
        refine thn_nrm (_hK_21 _ _ ?_)
        clear _hK_21
        refine W_region ?_
        refine WL_step rfl rfl (r_add (by omega) rfl rfl) ?_
        refine WL_step rfl rfl (r_move rfl) ?_
        refine WL_nil ?_
        have _f_34 := ((_o0_3.ch0 _cw_23).ch _cw_24 (fun g hg hm => by have _h0 := List.mem_singleton.1 hm; have _h2 := _lo0_3 _ hg; have _h3 := hisv _ hg; omega))
        have _on_33 : Ol ics 3 1 _w_24 (.slice Asv (letL e i).length Csv) (letL e (i + 1)) := by
          have hx := _f_34
          first | exact hx.eq (letl_y _hy15 _h19) | exact hx.eq (letl_n _hy15 _h19)
        have _f_35 := ((_F0_0.ch0 _cw_23).ch _cw_24 (fun i hi => by have _h1 := List.mem_singleton.1 hi; omega))
        exact thn_nrm (Exists.intro ((i + 1), (.slice Asv (letL e i).length Csv)) ⟨⟨E, (by omega), (by omega), _f_35, _on_33, (Lo.down _lo0_3 (by omega))⟩, Sub.cons rfl (Sub.cons rfl (Sub.cons rfl (Sub.cons rfl (Sub.cons rfl (Sub.nil _))))), (by first | omega | (dsimp only; omega))⟩)
    · have _kb_20 := _h14
      have _h14 := bf_d _h14
      refine W_exit (thn_exit (thn_exit (inB_hit ?_)))
      refine thn_nrm (_hK_12 _ _ ?_)
      clear _hK_12
      refine W_seq fun _K_36 _hK_36 => ?_
      refine W_region ?_
      refine WL_step rfl rfl (r_move rfl) ?_
      refine WL_s rfl rfl ?_
      refine Step.call (r_call (xs := [.tmp 26]) fk38 rfl) (c_impl_ascending _o0_3.ls (by have _h9 := letl_len e i; omega)) fun _v27 _w_37 _q27 => ?_
      obtain ⟨_q27, _lo27, _cw_37⟩ := _q27
      have _cw_37z := _cw_37.size
      have E := E.trans _cw_37
      obtain ⟨_Av27, _Cv27, _ev27⟩ := _q27.val
      subst _ev27
      have _lv27 := _q27.len
      have _hiv27 := _q27.lt
      refine WL_step rfl rfl (r_assign rfl) ?_
      refine WL_nil ?_
      refine thn_nrm (_hK_36 _ _ ?_)
      clear _hK_36
      refine W_ret ?_
      clear _hK_19
      have _o_38 : Ol ics 3 1 _w_37 (.slice _Av27 (ascL (letL e i)).length _Cv27) (alphR e) := by
        have hx := _q27
        first | exact hx.eq (alphR_n2 _h8) | exact hx.eq (alphR_y2 _h8 (by omega))
      exact ret_intro [_] ⟨rfl, trivial⟩ ⟨_o_38, Lo.down _lo27 (by omega), E⟩

/-- impl.alone -/
theorem c_impl_alone {w : World} {LL_e _B_e : Nat} {_v_e : Value} {e : List Token} (_h_e : Ls Token.cs 4 w LL_e _B_e _v_e e) (kind : Int) :
    Ctr Tryz.prog 75 #[(.agg #[_v_e]), (.int .i64 kind)] w (fun v w' => v = .bool (isK e kind) ∧ Ch [] w w') := by
  obtain ⟨_A_e, _C_e, _e1_e⟩ := _h_e.val
  subst _e1_e
  have _l_e := _h_e.len
  have _h_e := _h_e.here (by decide)
  have E := Ch.refl [] w
  refine Ctr_of_W (N := 18) (vs0 := [(.agg #[(.slice _A_e e.length _C_e)]), (.int .i64 kind)]) Tryz.func75 rfl rfl rfl ?_
  refine W_seq fun _K_1 _hK_1 => ?_
  refine W_region ?_
  refine WL_s rfl rfl ?_
  refine s_box rfl fun _b2 _w_2 _m2 _cw_2 _e2 => ?_
  have _cw_2z := _cw_2.size
  have E := E.trans _cw_2
  have _z2 := _m2.lt
  replace _m2 : Blk _w_2 _b2 26 [(.slice _A_e e.length _C_e)] := _m2
  refine WL_step rfl rfl (r_assign rfl) ?_
  refine WL_nil ?_
  refine thn_nrm (_hK_1 _ _ ?_)
  clear _hK_1
  refine W_seq fun _K_3 _hK_3 => ?_
  refine W_region ?_
  refine WL_step rfl rfl (r_fieldAddr fa26_0 rfl) ?_
  refine WL_step rfl rfl (r_loadAt _m2.at_ agg24 rfl rfl) ?_
  refine WL_step rfl rfl (r_len (by rw [el24]; rfl) rfl) ?_
  refine WL_step rfl rfl (r_eql rfl rfl) ?_
  refine WL_step rfl rfl (r_move rfl) ?_
  refine WL_split (d := 9) rfl (fun _h9 => ?_) (fun _h9 => ?_)
  · have _kb_4 := _h9
    have _h9 := bt_d _h9
    refine WL_step rfl rfl (r_fieldAddr fa26_0 rfl) ?_
    refine WL_step rfl rfl (r_loadAt _m2.at_ agg24 rfl rfl) ?_
    refine WL_s rfl rfl ?_
    have _f_5 := (_h_e.ch0 _cw_2)
    refine (s_index (j := 0) _f_5 Token.len el24 sz52 rfl rfl rfl (by omega) fun _p12 _y12 _hy12 _a12 => ?_)
    refine WL_step rfl rfl (r_fieldAddr fa52_0 rfl) ?_
    refine WL_step rfl rfl (r_loadAt _a12 agg3 rfl rfl) ?_
    refine WL_step rfl rfl (r_move rfl) ?_
    refine WL_step rfl rfl (r_eql rfl rfl) ?_
    refine WL_step rfl rfl (r_pickT rfl rfl) ?_
    refine WL_step rfl rfl (r_assign rfl) ?_
    refine WL_nil ?_
    refine thn_nrm (_hK_3 _ _ ?_)
    clear _hK_3
    refine W_ret ?_
    exact ret_intro [_] ⟨rfl, trivial⟩ ⟨congrArg Value.bool (by first | exact isK_n _h9 | exact isK_y _h9 _hy12 | (cases hb : decide (_y12.kind = kind) <;> rw [← hb] <;> exact isK_y _h9 _hy12)), E⟩
  · have _kb_4 := _h9
    have _h9 := bf_d _h9
    refine WL_skip rfl rfl ?_
    refine WL_skip rfl rfl ?_
    refine WL_skip rfl rfl ?_
    refine WL_skip rfl rfl ?_
    refine WL_skip rfl rfl ?_
    refine WL_skip rfl rfl ?_
    refine WL_skip rfl rfl ?_
    refine WL_step rfl rfl (r_pickF rfl rfl) ?_
    refine WL_step rfl rfl (r_assign rfl) ?_
    refine WL_nil ?_
    refine thn_nrm (_hK_3 _ _ ?_)
    clear _hK_3
    refine W_ret ?_
    exact ret_intro [_] ⟨rfl, trivial⟩ ⟨congrArg Value.bool (by first | exact isK_n _h9 | exact isK_y _h9 _hy12 | (cases hb : decide (_y12.kind = kind) <;> rw [← hb] <;> exact isK_y _h9 _hy12)), E⟩

/-- impl.copyExpr -/
theorem c_impl_copyExpr {w : World} {LL_e _B_e : Nat} {_v_e : Value} {e : List Token} (_h_e : Ls Token.cs 4 w LL_e _B_e _v_e e) (hb : e.length ≤ 4194304) :
    Ctr Tryz.prog 29 #[(.agg #[_v_e])] w (fun v w' => ∃ u, v = .agg #[u] ∧ Ol Token.cs 52 4 w' u (e) ∧ Lo w.heap.size u ∧ Ch [] w w') := by
  obtain ⟨_A_e, _C_e, _e1_e⟩ := _h_e.val
  subst _e1_e
  have _l_e := _h_e.len
  have _h_e := _h_e.here (by decide)
  have E := Ch.refl [] w
  refine Ctr_of_W (N := 8) (vs0 := [(.agg #[(.slice _A_e e.length _C_e)])]) Tryz.func29 rfl rfl rfl ?_
  refine W_seq fun _K_1 _hK_1 => ?_
  refine W_region ?_
  refine WL_s rfl rfl ?_
  refine s_box rfl fun _b1 _w_2 _m1 _cw_2 _e1 => ?_
  have _cw_2z := _cw_2.size
  have E := E.trans _cw_2
  have _z1 := _m1.lt
  replace _m1 : Blk _w_2 _b1 26 [(.slice _A_e e.length _C_e)] := _m1
  refine WL_s rfl rfl ?_
  refine s_alloc zr26 fun _b2 _w_3 _m2 _cw_3 _e2 => ?_
  have _cw_3z := _cw_3.size
  have E := E.trans _cw_3
  have _z2 := _m2.lt
  replace _m2 : Blk _w_3 _b2 26 [(.slice none 0 0)] := _m2
  refine WL_nil ?_
  refine thn_nrm (_hK_1 _ _ ?_)
  clear _hK_1
  refine W_seq fun _K_4 _hK_4 => ?_
  refine W_region ?_
  refine WL_s rfl rfl ?_
  refine s_buildSlice0 (k := 4) Token.cs el24 sz52 fun _v3 _w_5 _q3 _lo3 _cw_5 => ?_
  have _cw_5z := _cw_5.size
  have E := E.trans _cw_5
  obtain ⟨_Av3, _Cv3, _ev3⟩ := _q3.val
  subst _ev3
  have _lv3 := _q3.len
  have _hiv3 := _q3.lt
  refine WL_step rfl rfl (r_fieldAddr fa26_0 rfl) ?_
  have _f_6 := ((_m1.ch0 _cw_3).ch0 _cw_5)
  refine WL_step rfl rfl (r_loadAt _f_6.at_ agg24 rfl rfl) ?_
  refine WL_s rfl rfl ?_
  have _f_8 := (((_h_e.ch0 _cw_2).ch0 _cw_3).ch0 _cw_5)
  refine s_append (cs := Token.cs) el24 sz52 by52 zr52 rfl (by decide) Token.one _q3 _f_8 rfl rfl (by first | omega | (simp only [List.length_append, List.length_nil, List.length_cons, List.length_replicate, List.length_set, List.length_reverse, List.length_map] at *; omega) | (simp at *; omega)) (by first | omega | (simp only [List.length_append, List.length_nil, List.length_cons, List.length_replicate, List.length_set, List.length_reverse, List.length_map] at *; omega) | (simp at *; omega)) _lo3 (by omega) fun _v6 _w_7 _q6 _lo6 _ap6 _cw_7 => ?_
  have _cw_7z := _cw_7.size
  have E := E.step _cw_7 (fun i hi => .inl (by have _h1 := _lo3 _ hi; omega))
  replace _q6 : Ol Token.cs 52 4 _w_7 _v6 e := _q6
  obtain ⟨_Av6, _Cv6, _ev6⟩ := _q6.val
  subst _ev6
  have _lv6 := _q6.len
  have _hiv6 := _q6.lt
  refine WL_step rfl rfl (r_build (parts := [(0, .tmp 6)]) (cells := [(.slice _Av6 (e).length _Cv6)]) zr26 pl26 rfl rfl) ?_
  refine WL_s rfl rfl ?_
  have _f_9 := ((_m2.ch0 _cw_5).ch _cw_7 (fun hm => by have _h1 := _lo3 _ hm; have _h2 := _hiv3 _ hm; omega))
  refine s_storeA (off := 0) 1 _f_9 sz26 rfl (us := [(.slice _Av6 (e).length _Cv6)]) rfl rfl rfl rfl fun _w_10 _m_11 _cw_10 => ?_
  have _cw_10z := _cw_10.size
  have E := E.step _cw_10 (fun i hi => .inl (by have _h1 := List.mem_singleton.1 hi; omega))
  replace _m_11 : Blk _w_10 _b2 26 [(.slice _Av6 (e).length _Cv6)] := _m_11
  refine WL_nil ?_
  refine thn_nrm (_hK_4 _ _ ?_)
  clear _hK_4
  refine W_ret ?_
  have _f_13 := (_q6.ch _cw_10 (fun g hg hm => by have _h0 := List.mem_singleton.1 hm; rcases _ap6 with ea | ea; (rw [ea] at hg; have _h2 := _lo3 _ hg; have _h3 := _hiv3 _ hg; omega); (rw [ea] at hg; have _z1 := List.mem_singleton.1 hg; omega)))
  have _o_12 : Ol Token.cs 52 4 _w_10 (.slice _Av6 (e).length _Cv6) (e) := by
    have hx := _f_13
    first | exact hx | simpa using hx
  exact ret_intro [_] (resOf_loadA _m_11 rfl agg26 sz26 trivial) ⟨_, rfl, _o_12, Lo.down _lo6 (by omega), E⟩

/-- impl.joined -/
theorem c_impl_joined {w : World} (t : Token) {LL_ses _B_ses : Nat} {_v_ses : Value} {ses : List Sv} (_h_ses : Ls Sv.cs 1 w LL_ses _B_ses _v_ses ses) {LR_es BB_es : Nat} {es : List (List Token)} (_rd_es : Rd Token.cs 4 w LR_es BB_es ses es) (hb : es.flatten.length ≤ 4194304) :
    Ctr Tryz.prog 76 #[(.agg #[(.int .i64 t.kind), (.int .i64 t.letter), (.int .i64 t.low), (.int .i64 t.high)]), _v_ses] w (fun v w' => ∃ u, v = .agg #[u] ∧ Ol Token.cs 52 4 w' u (es.flatten ++ [t]) ∧ Lo w.heap.size u ∧ Ch [] w w') := by
  obtain ⟨_A_ses, _C_ses, _e1_ses⟩ := _h_ses.val
  subst _e1_ses
  have _l_ses := _h_ses.len
  have _h_ses := _h_ses.here (by decide)
  have _rd_es := _rd_es.here (by decide)
  have _rl_es := _rd_es.1
  have E := Ch.refl [] w
  refine Ctr_of_W (N := 29) (vs0 := [(.agg #[(.int .i64 t.kind), (.int .i64 t.letter), (.int .i64 t.low), (.int .i64 t.high)]), (.slice _A_ses ses.length _C_ses)]) Tryz.func76 rfl rfl rfl ?_
  refine W_seq fun _K_1 _hK_1 => ?_
  refine W_region ?_
  refine WL_s rfl rfl ?_
  refine s_box rfl fun _b2 _w_2 _m2 _cw_2 _e2 => ?_
  have _cw_2z := _cw_2.size
  have E := E.trans _cw_2
  have _z2 := _m2.lt
  replace _m2 : Blk _w_2 _b2 52 [(.int .i64 t.kind), (.int .i64 t.letter), (.int .i64 t.low), (.int .i64 t.high)] := _m2
  refine WL_s rfl rfl ?_
  refine s_alloc zr26 fun _b4 _w_3 _m4 _cw_3 _e4 => ?_
  have _cw_3z := _cw_3.size
  have E := E.trans _cw_3
  have _z4 := _m4.lt
  replace _m4 : Blk _w_3 _b4 26 [(.slice none 0 0)] := _m4
  refine WL_nil ?_
  refine thn_nrm (_hK_1 _ _ ?_)
  clear _hK_1
  refine W_seq fun _K_4 _hK_4 => ?_
  refine W_region ?_
  refine WL_step rfl rfl (r_build (parts := []) (cells := [(.slice none 0 0)]) zr26 pl26 rfl rfl) ?_
  refine WL_s rfl rfl ?_
  refine s_alloc zr26 fun _b5 _w_5 _m5 _cw_5 _e5 => ?_
  have _cw_5z := _cw_5.size
  have E := E.trans _cw_5
  have _z5 := _m5.lt
  replace _m5 : Blk _w_5 _b5 26 [(.slice none 0 0)] := _m5
  refine WL_s rfl rfl ?_
  refine s_storeA (off := 0) 1 _m5 sz26 rfl (us := [(.slice none 0 0)]) rfl rfl rfl rfl fun _w_6 _m_7 _cw_6 => ?_
  have _cw_6z := _cw_6.size
  have E := E.step _cw_6 (fun i hi => .inl (by have _h1 := List.mem_singleton.1 hi; omega))
  replace _m_7 : Blk _w_6 _b5 26 [(.slice none 0 0)] := _m_7
  refine WL_nil ?_
  refine thn_nrm (_hK_4 _ _ ?_)
  clear _hK_4
  refine W_seq fun _K_8 _hK_8 => ?_
  refine W_seq fun _K_9 _hK_9 => ?_
  refine W_region ?_
  refine WL_step rfl rfl (r_move rfl) ?_
  refine WL_step rfl rfl (r_len (by rw [el97]; rfl) rfl) ?_
  refine WL_step rfl rfl (r_move rfl) ?_
  refine WL_nil ?_
  refine thn_nrm (_hK_9 _ _ ?_)
  clear _hK_9
  refine W_block ?_
  have _oi_10 : Ol Token.cs 52 4 _w_6 (.slice none 0 0) ((es.take 0).flatten) := by
    have hx := (Ol.nil (cs := Token.cs) (e := 52) (k := 4) _w_6)
    simpa using hx
  have _f_11 := (((_m2.ch0 _cw_3).ch0 _cw_5).ch _cw_6 (fun hm => by have _h1 := List.mem_singleton.1 hm; omega))
  have _f_12 := ((_m4.ch0 _cw_5).ch _cw_6 (fun hm => by have _h1 := List.mem_singleton.1 hm; omega))
  refine W_loop (σ := Nat × Value) (fun ⟨k, u⟩ => [(2, (.pointer (some ⟨_b2, 0, none⟩))), (4, (.pointer (some ⟨_b4, 0, none⟩))), (5, (.pointer (some ⟨_b5, 0, none⟩))), (9, (.slice _A_ses ses.length _C_ses)), (10, (.int .i64 ((ses.length : Nat) : Int))), (11, (.int .i64 ((k : Nat) : Int)))]) (fun ⟨k, u⟩ wx => Ch [] w wx ∧ _w_6.heap.size ≤ wx.heap.size ∧ (k ≤ es.length) ∧ Blk wx _b2 52 [(.int .i64 t.kind), (.int .i64 t.letter), (.int .i64 t.low), (.int .i64 t.high)] ∧ Blk wx _b4 26 [(.slice none 0 0)] ∧ Ol Token.cs 52 4 wx u ((es.take k).flatten) ∧ Lo _w_6.heap.size u ∧ Blk wx _b5 26 [u] ∧ (_b5 ∉ bl u)) (fun ⟨k, u⟩ => es.length - k) (0, (.slice none 0 0)) (Sub.cons rfl (Sub.cons rfl (Sub.cons rfl (Sub.cons rfl (Sub.cons rfl (Sub.cons rfl (Sub.nil _))))))) ⟨E, (Nat.le_refl _), (by omega), _f_11, _f_12, _oi_10, (Lo.nil _), _m_7, (fun hm => by cases hm)⟩ ?_
  rintro ⟨k, u⟩ _wr_13 ⟨E, _zz0, _hk, _F0_0, _F0_1, _o0_5, _lo0_5, _m0_5, _nb0_5⟩
  have _E0h := E
  have _E0hz := _E0h.size
  have _F0_0z := _F0_0.lt
  have _F0_1z := _F0_1.lt
  obtain ⟨Au, Cu, eu⟩ := _o0_5.val
  subst eu
  have lu := _o0_5.len
  have hiu := _o0_5.lt
  refine W_seq fun _K_14 _hK_14 => ?_
  refine W_region ?_
  refine WL_step rfl rfl (r_lss rfl rfl) ?_
  refine WL_nil ?_
  refine thn_nrm (_hK_14 _ _ ?_)
  clear _hK_14
  refine W_seq fun _K_15 _hK_15 => ?_
  refine W_cond rfl (fun _h12 => ?_) (fun _h12 => ?_)
  · have _kb_16 := _h12
    have _h12 := bt_d _h12
    refine W_skip ?_
    refine thn_nrm (_hK_15 _ _ ?_)
    clear _hK_15
    refine W_seq fun _K_17 _hK_17 => ?_
    refine W_block ?_
    refine W_seq fun _K_18 _hK_18 => ?_
    refine W_region ?_
    refine WL_s rfl rfl ?_
    have _f_19 := (_h_ses.ch0 _E0h)
    refine (s_index _f_19 Sv.len el97 sz26 rfl rfl rfl (by omega) fun _p13 _y13 _hy13 _a13 => ?_)
    have _f_20 := (_rd_es.ch0 _E0h)
    obtain ⟨_ys13, _hys13, _fs13⟩ := _f_20.get _hy13
    obtain ⟨_A13, _n13, _C13⟩ := _y13
    obtain rfl := _fs13.eqn
    have _l13 := _fs13.len
    replace _fs13 : Ls Token.cs 4 _wr_13 LR_es w.heap.size (.slice _A13 _ys13.length _C13) _ys13 := _fs13
    replace _a13 : At _wr_13 LL_ses w.heap.size _p13 ([(.slice _A13 _ys13.length _C13)]) := _a13
    refine WL_step rfl rfl (r_loadAtA0 _a13 agg26 sz26 rfl) ?_
    refine WL_s rfl rfl ?_
    refine s_alloc zr26 fun _b7 _w_21 _m7 _cw_21 _e7 => ?_
    have _cw_21z := _cw_21.size
    have E := E.trans _cw_21
    have _z7 := _m7.lt
    replace _m7 : Blk _w_21 _b7 26 [(.slice none 0 0)] := _m7
    refine WL_s rfl rfl ?_
    refine s_storeA (off := 0) 1 _m7 sz26 rfl (us := [(.slice _A13 _ys13.length _C13)]) rfl rfl rfl rfl fun _w_22 _m_23 _cw_22 => ?_
    have _cw_22z := _cw_22.size
    have E := E.step _cw_22 (fun i hi => .inl (by have _h1 := List.mem_singleton.1 hi; omega))
    replace _m_23 : Blk _w_22 _b7 26 [(.slice _A13 _ys13.length _C13)] := _m_23
    refine WL_nil ?_
    refine thn_nrm (_hK_18 _ _ ?_)
    clear _hK_18
    refine W_region ?_
    refine WL_step rfl rfl (r_fieldAddr fa26_0 rfl) ?_
    have _f_24 := ((_m0_5.ch0 _cw_21).ch _cw_22 (fun hm => by have _h1 := List.mem_singleton.1 hm; omega))
    refine WL_step rfl rfl (r_loadAt _f_24.at_ agg24 rfl rfl) ?_
    refine WL_step rfl rfl (r_fieldAddr fa26_0 rfl) ?_
    refine WL_step rfl rfl (r_loadAt _m_23.at_ agg24 rfl rfl) ?_
    refine WL_s rfl rfl ?_
    have _f_26 := ((_o0_5.ch0 _cw_21).ch _cw_22 (fun g hg hm => by have _h0 := List.mem_singleton.1 hm; have _h2 := _lo0_5 _ hg; have _h3 := hiu _ hg; omega))
    have _f_27 := ((_fs13.ch0 _cw_21).ch _cw_22 (fun i hi => by have _h1 := List.mem_singleton.1 hi; omega))
    refine s_append (cs := Token.cs) el24 sz52 by52 zr52 rfl (by decide) Token.one _f_26 _f_27 rfl rfl (by have _h9 := fl_le _hys13; omega) (by have _h9 := fl_le _hys13; omega) _lo0_5 (by omega) fun _v19 _w_25 _q19 _lo19 _ap19 _cw_25 => ?_
    have _cw_25z := _cw_25.size
    have E := E.step _cw_25 (fun i hi => .inl (by have _h1 := _lo0_5 _ hi; omega))
    obtain ⟨_Av19, _Cv19, _ev19⟩ := _q19.val
    subst _ev19
    have _lv19 := _q19.len
    have _hiv19 := _q19.lt
    refine WL_step rfl rfl (r_fieldAddr fa26_0 rfl) ?_
    refine WL_s rfl rfl ?_
    have _f_28 := (_f_24.ch _cw_25 (fun hm => by exact _nb0_5 (by first | exact hm | exact _h0 ▸ hm)))
    refine s_store1 (off := 0) _f_28 sz24 rfl rfl rfl rfl fun _w_29 _m_30 _cw_29 => ?_
    have _cw_29z := _cw_29.size
    have E := E.step _cw_29 (fun i hi => .inl (by have _h1 := List.mem_singleton.1 hi; omega))
    replace _m_30 : Blk _w_29 _b5 26 [(.slice _Av19 (((es.take k).flatten ++ _ys13)).length _Cv19)] := _m_30
    refine WL_nil ?_
    refine inB_nrm ?_
    refine thn_nrm (_hK_17 _ _ ?_)
    clear _hK_17
    refine W_region ?_
    refine WL_step rfl rfl (r_add (by omega) rfl rfl) ?_
    refine WL_step rfl rfl (r_move rfl) ?_
    refine WL_nil ?_
    have _f_32 := (_q19.ch _cw_29 (fun g hg hm => by have _h0 := List.mem_singleton.1 hm; rcases _ap19 with ea | ea; (rw [ea] at hg; exact _nb0_5 (by first | exact hg | exact _h0 ▸ hg)); (rw [ea] at hg; have _z1 := List.mem_singleton.1 hg; omega)))
    have _on_31 : Ol Token.cs 52 4 _w_29 (.slice _Av19 (((es.take k).flatten ++ _ys13)).length _Cv19) ((es.take (k + 1)).flatten) := by
      have hx := _f_32
      rw [← fl_step _hys13]; exact hx
    have _f_33 := ((((_F0_0.ch0 _cw_21).ch _cw_22 (fun hm => by have _h1 := List.mem_singleton.1 hm; omega)).ch _cw_25 (fun hm => by have _h1 := _lo0_5 _ hm; have _h2 := hiu _ hm; omega)).ch _cw_29 (fun hm => by have _h1 := List.mem_singleton.1 hm; omega))
    have _f_34 := ((((_F0_1.ch0 _cw_21).ch _cw_22 (fun hm => by have _h1 := List.mem_singleton.1 hm; omega)).ch _cw_25 (fun hm => by have _h1 := _lo0_5 _ hm; have _h2 := hiu _ hm; omega)).ch _cw_29 (fun hm => by have _h1 := List.mem_singleton.1 hm; omega))
    exact thn_nrm (Exists.intro ((k + 1), (.slice _Av19 (((es.take k).flatten ++ _ys13)).length _Cv19)) ⟨⟨E, (by omega), (by omega), _f_33, _f_34, _on_31, (Lo.down _lo19 (by omega)), _m_30, (fun hm => by rcases _ap19 with ea | ea; (rw [ea] at hm; exact _nb0_5 (by first | exact hm | exact _h0 ▸ hm)); (rw [ea] at hm; have _z1 := List.mem_singleton.1 hm; omega))⟩, Sub.cons rfl (Sub.cons rfl (Sub.cons rfl (Sub.cons rfl (Sub.cons rfl (Sub.cons rfl (Sub.nil _)))))), (by first | omega | (dsimp only; omega))⟩)
  · have _kb_16 := _h12
    have _h12 := bf_d _h12
    refine W_exit (thn_exit (thn_exit (inB_hit ?_)))
    refine thn_nrm (_hK_8 _ _ ?_)
    clear _hK_8
    refine W_seq fun _K_35 _hK_35 => ?_
    refine W_region ?_
    refine WL_step rfl rfl (r_fieldAddr fa26_0 rfl) ?_
    refine WL_step rfl rfl (r_loadAt _m0_5.at_ agg24 rfl rfl) ?_
    refine WL_step rfl rfl (r_loadAtA0 _F0_0.at_ agg52 sz52 rfl) ?_
    refine WL_s rfl rfl ?_
    refine s_buildSlice (cs := Token.cs) (parts := [(0, .tmp 24)]) (⟨0, 0, 0, 0⟩ : Token) [t] el24 sz52 zr52 Token.len (by decide) rfl rfl rfl (by decide) (by decide) rfl fun _v25 _w_36 _q25 _lo25 _cw_36 => ?_
    have _cw_36z := _cw_36.size
    have E := E.trans _cw_36
    obtain ⟨_Av25, _Cv25, _ev25⟩ := _q25.val
    subst _ev25
    have _lv25 := _q25.len
    have _hiv25 := _q25.lt
    refine WL_s rfl rfl ?_
    have _f_38 := (_o0_5.ch0 _cw_36)
    refine s_append (cs := Token.cs) el24 sz52 by52 zr52 rfl (by decide) Token.one _f_38 _q25.ls rfl rfl (by have _h9 : (es.take k).flatten.length ≤ es.flatten.length := (by rw [List.take_of_length_le (by omega)]; exact Nat.le_refl _); have _h8 : [t].length = 1 := rfl; omega) (by have _h9 : (es.take k).flatten.length ≤ es.flatten.length := (by rw [List.take_of_length_le (by omega)]; exact Nat.le_refl _); have _h8 : [t].length = 1 := rfl; omega) _lo0_5 (by omega) fun _v26 _w_37 _q26 _lo26 _ap26 _cw_37 => ?_
    have _cw_37z := _cw_37.size
    have E := E.step _cw_37 (fun i hi => .inl (by have _h1 := _lo0_5 _ hi; omega))
    obtain ⟨_Av26, _Cv26, _ev26⟩ := _q26.val
    subst _ev26
    have _lv26 := _q26.len
    have _hiv26 := _q26.lt
    refine WL_step rfl rfl (r_fieldAddr fa26_0 rfl) ?_
    refine WL_s rfl rfl ?_
    have _f_39 := ((_m0_5.ch0 _cw_36).ch _cw_37 (fun hm => by exact _nb0_5 (by first | exact hm | exact _h0 ▸ hm)))
    refine s_store1 (off := 0) _f_39 sz24 rfl rfl rfl rfl fun _w_40 _m_41 _cw_40 => ?_
    have _cw_40z := _cw_40.size
    have E := E.step _cw_40 (fun i hi => .inl (by have _h1 := List.mem_singleton.1 hi; omega))
    replace _m_41 : Blk _w_40 _b5 26 [(.slice _Av26 (((es.take k).flatten ++ [t])).length _Cv26)] := _m_41
    refine WL_nil ?_
    refine thn_nrm (_hK_35 _ _ ?_)
    clear _hK_35
    refine W_seq fun _K_42 _hK_42 => ?_
    refine W_region ?_
    refine WL_step rfl rfl (r_loadAtA0 _m_41.at_ agg26 sz26 rfl) ?_
    refine WL_s rfl rfl ?_
    have _f_43 := (((_F0_1.ch0 _cw_36).ch _cw_37 (fun hm => by have _h1 := _lo0_5 _ hm; have _h2 := hiu _ hm; omega)).ch _cw_40 (fun hm => by have _h1 := List.mem_singleton.1 hm; omega))
    refine s_storeA (off := 0) 1 _f_43 sz26 rfl (us := [(.slice _Av26 (((es.take k).flatten ++ [t])).length _Cv26)]) rfl rfl rfl rfl fun _w_44 _m_45 _cw_44 => ?_
    have _cw_44z := _cw_44.size
    have E := E.step _cw_44 (fun i hi => .inl (by have _h1 := List.mem_singleton.1 hi; omega))
    replace _m_45 : Blk _w_44 _b4 26 [(.slice _Av26 (((es.take k).flatten ++ [t])).length _Cv26)] := _m_45
    refine WL_nil ?_
    refine thn_nrm (_hK_42 _ _ ?_)
    clear _hK_42
    refine W_ret ?_
    clear _hK_15
    have _f_47 := ((_q26.ch _cw_40 (fun g hg hm => by have _h0 := List.mem_singleton.1 hm; rcases _ap26 with ea | ea; (rw [ea] at hg; exact _nb0_5 (by first | exact hg | exact _h0 ▸ hg)); (rw [ea] at hg; have _z1 := List.mem_singleton.1 hg; omega))).ch _cw_44 (fun g hg hm => by have _h0 := List.mem_singleton.1 hm; rcases _ap26 with ea | ea; (rw [ea] at hg; have _h2 := _lo0_5 _ hg; have _h3 := hiu _ hg; omega); (rw [ea] at hg; have _z1 := List.mem_singleton.1 hg; omega)))
    have _o_46 : Ol Token.cs 52 4 _w_44 (.slice _Av26 (((es.take k).flatten ++ [t])).length _Cv26) (es.flatten ++ [t]) := by
      have hx := _f_47
      simpa [List.take_of_length_le (show es.length ≤ k by omega)] using hx
    exact ret_intro [_] (resOf_loadA _m_45 rfl agg26 sz26 trivial) ⟨_, rfl, _o_46, Lo.down _lo26 (by omega), E⟩

/-- impl.single -/
theorem c_impl_single {w : World} (kind : Int) :
    Ctr Tryz.prog 54 #[(.int .i64 kind)] w (fun v w' => ∃ u, v = .agg #[u] ∧ Ol Token.cs 52 4 w' u ([(⟨kind, 0, 0, 0⟩ : Token)]) ∧ Lo w.heap.size u ∧ Ch [] w w') := by
  have E := Ch.refl [] w
  refine Ctr_of_W (N := 7) (vs0 := [(.int .i64 kind)]) Tryz.func54 rfl rfl rfl ?_
  refine W_seq fun _K_1 _hK_1 => ?_
  refine W_region ?_
  refine WL_s rfl rfl ?_
  refine s_alloc zr26 fun _b2 _w_2 _m2 _cw_2 _e2 => ?_
  have _cw_2z := _cw_2.size
  have E := E.trans _cw_2
  have _z2 := _m2.lt
  replace _m2 : Blk _w_2 _b2 26 [(.slice none 0 0)] := _m2
  refine WL_nil ?_
  refine thn_nrm (_hK_1 _ _ ?_)
  clear _hK_1
  refine W_seq fun _K_3 _hK_3 => ?_
  refine W_region ?_
  refine WL_step rfl rfl (r_move rfl) ?_
  refine WL_step rfl rfl (r_build (parts := [(0, .tmp 3)]) (cells := [(.int .i64 kind), (.int .i64 0), (.int .i64 0), (.int .i64 0)]) zr52 pl52 rfl rfl) ?_
  refine WL_s rfl rfl ?_
  refine s_buildSlice (cs := Token.cs) (parts := [(0, .tmp 4)]) (⟨0, 0, 0, 0⟩ : Token) [(⟨kind, 0, 0, 0⟩ : Token)] el24 sz52 zr52 Token.len (by decide) rfl rfl rfl (by decide) (by decide) rfl fun _v5 _w_4 _q5 _lo5 _cw_4 => ?_
  have _cw_4z := _cw_4.size
  have E := E.trans _cw_4
  obtain ⟨_Av5, _Cv5, _ev5⟩ := _q5.val
  subst _ev5
  have _lv5 := _q5.len
  have _hiv5 := _q5.lt
  refine WL_step rfl rfl (r_build (parts := [(0, .tmp 5)]) (cells := [(.slice _Av5 ([(⟨kind, 0, 0, 0⟩ : Token)]).length _Cv5)]) zr26 pl26 rfl rfl) ?_
  refine WL_s rfl rfl ?_
  have _f_5 := (_m2.ch0 _cw_4)
  refine s_storeA (off := 0) 1 _f_5 sz26 rfl (us := [(.slice _Av5 ([(⟨kind, 0, 0, 0⟩ : Token)]).length _Cv5)]) rfl rfl rfl rfl fun _w_6 _m_7 _cw_6 => ?_
  have _cw_6z := _cw_6.size
  have E := E.step _cw_6 (fun i hi => .inl (by have _h1 := List.mem_singleton.1 hi; omega))
  replace _m_7 : Blk _w_6 _b2 26 [(.slice _Av5 ([(⟨kind, 0, 0, 0⟩ : Token)]).length _Cv5)] := _m_7
  refine WL_nil ?_
  refine thn_nrm (_hK_3 _ _ ?_)
  clear _hK_3
  refine W_ret ?_
  have _f_9 := (_q5.ch _cw_6 (fun g hg hm => by have _h0 := List.mem_singleton.1 hm; have _h2 := _lo5 _ hg; have _h3 := _hiv5 _ hg; omega))
  have _o_8 : Ol Token.cs 52 4 _w_6 (.slice _Av5 ([(⟨kind, 0, 0, 0⟩ : Token)]).length _Cv5) ([(⟨kind, 0, 0, 0⟩ : Token)]) := by
    have hx := _f_9
    first | exact hx | simpa using hx
  exact ret_intro [_] (resOf_loadA _m_7 rfl agg26 sz26 trivial) ⟨_, rfl, _o_8, Lo.down _lo5 (by omega), E⟩

/-- impl.ConcatExpr -/
theorem c_impl_ConcatExpr {w : World} {LL_a _B_a : Nat} {_v_a : Value} {a : List Token} (_h_a : Ls Token.cs 4 w LL_a _B_a _v_a a) {LL_b _B_b : Nat} {_v_b : Value} {b : List Token} (_h_b : Ls Token.cs 4 w LL_b _B_b _v_b b) (hb : a.length + b.length ≤ 1048576) :
    Ctr Tryz.prog 55 #[(.agg #[_v_a]), (.agg #[_v_b])] w (fun v w' => ∃ u, v = .agg #[u] ∧ Ol Token.cs 52 4 w' u (catE a b) ∧ Lo w.heap.size u ∧ Ch [] w w') := by
  obtain ⟨_A_a, _C_a, _e1_a⟩ := _h_a.val
  subst _e1_a
  have _l_a := _h_a.len
  have _h_a := _h_a.here (by decide)
  obtain ⟨_A_b, _C_b, _e1_b⟩ := _h_b.val
  subst _e1_b
  have _l_b := _h_b.len
  have _h_b := _h_b.here (by decide)
  have E := Ch.refl [] w
  refine Ctr_of_W (N := 28) (vs0 := [(.agg #[(.slice _A_a a.length _C_a)]), (.agg #[(.slice _A_b b.length _C_b)])]) Tryz.func55 rfl rfl rfl ?_
  refine W_seq fun _K_1 _hK_1 => ?_
  refine W_region ?_
  refine WL_s rfl rfl ?_
  refine s_box rfl fun _b2 _w_2 _m2 _cw_2 _e2 => ?_
  have _cw_2z := _cw_2.size
  have E := E.trans _cw_2
  have _z2 := _m2.lt
  replace _m2 : Blk _w_2 _b2 26 [(.slice _A_a a.length _C_a)] := _m2
  refine WL_s rfl rfl ?_
  refine s_box rfl fun _b3 _w_3 _m3 _cw_3 _e3 => ?_
  have _cw_3z := _cw_3.size
  have E := E.trans _cw_3
  have _z3 := _m3.lt
  replace _m3 : Blk _w_3 _b3 26 [(.slice _A_b b.length _C_b)] := _m3
  refine WL_s rfl rfl ?_
  refine s_alloc zr26 fun _b4 _w_4 _m4 _cw_4 _e4 => ?_
  have _cw_4z := _cw_4.size
  have E := E.trans _cw_4
  have _z4 := _m4.lt
  replace _m4 : Blk _w_4 _b4 26 [(.slice none 0 0)] := _m4
  refine WL_nil ?_
  refine thn_nrm (_hK_1 _ _ ?_)
  clear _hK_1
  refine W_seq fun _K_5 _hK_5 => ?_
  refine W_block ?_
  refine W_seq fun _K_6 _hK_6 => ?_
  refine W_region ?_
  have _f_7 := ((_m2.ch0 _cw_3).ch0 _cw_4)
  refine WL_step rfl rfl (r_loadAtA0 _f_7.at_ agg26 sz26 rfl) ?_
  refine WL_s rfl rfl ?_
  have _f_8 := (((_h_a.ch0 _cw_2).ch0 _cw_3).ch0 _cw_4)
  refine Step.call (r_call (xs := [.tmp 6, .const (Go.Value.int Go.IntKind.i64 1)]) fk75 rfl) (c_impl_alone _f_8 _ ) fun _v7 _w_9 _q7 => ?_
  obtain ⟨rfl, _cw_9⟩ := _q7
  have _cw_9z := _cw_9.size
  have E := E.trans _cw_9
  refine WL_step rfl rfl (r_move rfl) ?_
  refine WL_split (d := 8) rfl (fun _h8 => ?_) (fun _h8 => ?_)
  · have _kb_10 := _h8
    refine WL_skip rfl rfl ?_
    refine WL_skip rfl rfl ?_
    refine WL_step rfl rfl (r_pickT rfl rfl) ?_
    refine WL_step rfl rfl (r_assign rfl) ?_
    refine WL_nil ?_
    refine thn_nrm (_hK_6 _ _ ?_)
    clear _hK_6
    refine W_condT rfl ?_
    refine W_seq fun _K_11 _hK_11 => ?_
    refine W_region ?_
    refine WL_s rfl rfl ?_
    refine Step.call (r_call (xs := [.const (Go.Value.int Go.IntKind.i64 1)]) fk54 rfl) (c_impl_single _ ) fun _v12 _w_12 _q12 => ?_
    obtain ⟨_u12, rfl, _q12, _lo12, _cw_12⟩ := _q12
    have _cw_12z := _cw_12.size
    have E := E.trans _cw_12
    obtain ⟨_Au12, _Cu12, _eu12⟩ := _q12.val
    subst _eu12
    have _lu12 := _q12.len
    have _hiu12 := _q12.lt
    refine WL_s rfl rfl ?_
    have _f_13 := ((_m4.ch0 _cw_9).ch0 _cw_12)
    refine s_storeA (off := 0) 1 _f_13 sz26 rfl (us := [(.slice _Au12 ([(⟨1, 0, 0, 0⟩ : Token)]).length _Cu12)]) rfl rfl rfl rfl fun _w_14 _m_15 _cw_14 => ?_
    have _cw_14z := _cw_14.size
    have E := E.step _cw_14 (fun i hi => .inl (by have _h1 := List.mem_singleton.1 hi; omega))
    replace _m_15 : Blk _w_14 _b4 26 [(.slice _Au12 ([(⟨1, 0, 0, 0⟩ : Token)]).length _Cu12)] := _m_15
    refine WL_nil ?_
    refine thn_nrm (_hK_11 _ _ ?_)
    clear _hK_11
    refine W_ret (inB_ret (thn_ret ?_))
    clear _hK_5
    have _f_17 := (_q12.ch _cw_14 (fun g hg hm => by have _h0 := List.mem_singleton.1 hm; have _h2 := _lo12 _ hg; have _h3 := _hiu12 _ hg; omega))
    have _o_16 : Ol Token.cs 52 4 _w_14 (.slice _Au12 ([(⟨1, 0, 0, 0⟩ : Token)]).length _Cu12) (catE a b) := by
      have hx := _f_17
      (unfold catE; simp_all)
    exact ret_intro [_] (resOf_loadA _m_15 rfl agg26 sz26 trivial) ⟨_, rfl, _o_16, Lo.down _lo12 (by omega), E⟩
  · have _kb_10 := _h8
    have _f_18 := ((_m3.ch0 _cw_4).ch0 _cw_9)
    refine WL_step rfl rfl (r_loadAtA0 _f_18.at_ agg26 sz26 rfl) ?_
    refine WL_s rfl rfl ?_
    have _f_19 := ((((_h_b.ch0 _cw_2).ch0 _cw_3).ch0 _cw_4).ch0 _cw_9)
    refine Step.call (r_call (xs := [.tmp 9, .const (Go.Value.int Go.IntKind.i64 1)]) fk75 rfl) (c_impl_alone _f_19 _ ) fun _v10 _w_20 _q10 => ?_
    obtain ⟨rfl, _cw_20⟩ := _q10
    have _cw_20z := _cw_20.size
    have E := E.trans _cw_20
    refine WL_step rfl rfl (r_pickF rfl rfl) ?_
    refine WL_step rfl rfl (r_assign rfl) ?_
    refine WL_nil ?_
    refine thn_nrm (_hK_6 _ _ ?_)
    clear _hK_6
    refine W_cond rfl (fun _h5 => ?_) (fun _h5 => ?_)
    · have _kb_21 := _h5
      refine W_seq fun _K_22 _hK_22 => ?_
      refine W_region ?_
      refine WL_s rfl rfl ?_
      refine Step.call (r_call (xs := [.const (Go.Value.int Go.IntKind.i64 1)]) fk54 rfl) (c_impl_single _ ) fun _v12 _w_23 _q12 => ?_
      obtain ⟨_u12, rfl, _q12, _lo12, _cw_23⟩ := _q12
      have _cw_23z := _cw_23.size
      have E := E.trans _cw_23
      obtain ⟨_Au12, _Cu12, _eu12⟩ := _q12.val
      subst _eu12
      have _lu12 := _q12.len
      have _hiu12 := _q12.lt
      refine WL_s rfl rfl ?_
      have _f_24 := (((_m4.ch0 _cw_9).ch0 _cw_20).ch0 _cw_23)
      refine s_storeA (off := 0) 1 _f_24 sz26 rfl (us := [(.slice _Au12 ([(⟨1, 0, 0, 0⟩ : Token)]).length _Cu12)]) rfl rfl rfl rfl fun _w_25 _m_26 _cw_25 => ?_
      have _cw_25z := _cw_25.size
      have E := E.step _cw_25 (fun i hi => .inl (by have _h1 := List.mem_singleton.1 hi; omega))
      replace _m_26 : Blk _w_25 _b4 26 [(.slice _Au12 ([(⟨1, 0, 0, 0⟩ : Token)]).length _Cu12)] := _m_26
      refine WL_nil ?_
      refine thn_nrm (_hK_22 _ _ ?_)
      clear _hK_22
      refine W_ret (inB_ret (thn_ret ?_))
      clear _hK_5
      have _f_28 := (_q12.ch _cw_25 (fun g hg hm => by have _h0 := List.mem_singleton.1 hm; have _h2 := _lo12 _ hg; have _h3 := _hiu12 _ hg; omega))
      have _o_27 : Ol Token.cs 52 4 _w_25 (.slice _Au12 ([(⟨1, 0, 0, 0⟩ : Token)]).length _Cu12) (catE a b) := by
        have hx := _f_28
        (unfold catE; simp_all)
      exact ret_intro [_] (resOf_loadA _m_26 rfl agg26 sz26 trivial) ⟨_, rfl, _o_27, Lo.down _lo12 (by omega), E⟩
    · have _kb_21 := _h5
      refine W_seq fun _K_29 _hK_29 => ?_
      refine W_region ?_
      have _f_30 := ((_f_7.ch0 _cw_9).ch0 _cw_20)
      refine WL_step rfl rfl (r_loadAtA0 _f_30.at_ agg26 sz26 rfl) ?_
      refine WL_s rfl rfl ?_
      have _f_31 := ((_f_8.ch0 _cw_9).ch0 _cw_20)
      refine Step.call (r_call (xs := [.tmp 14, .const (Go.Value.int Go.IntKind.i64 2)]) fk75 rfl) (c_impl_alone _f_31 _ ) fun _v15 _w_32 _q15 => ?_
      obtain ⟨rfl, _cw_32⟩ := _q15
      have _cw_32z := _cw_32.size
      have E := E.trans _cw_32
      refine WL_step rfl rfl (r_assign rfl) ?_
      refine WL_nil ?_
      refine thn_nrm (_hK_29 _ _ ?_)
      clear _hK_29
      refine W_cond rfl (fun _h13 => ?_) (fun _h13 => ?_)
      · have _kb_33 := _h13
        refine W_seq fun _K_34 _hK_34 => ?_
        refine W_region ?_
        have _f_35 := ((_f_18.ch0 _cw_20).ch0 _cw_32)
        refine WL_step rfl rfl (r_loadAtA0 _f_35.at_ agg26 sz26 rfl) ?_
        refine WL_s rfl rfl ?_
        have _f_36 := ((_f_19.ch0 _cw_20).ch0 _cw_32)
        refine Step.call (r_call (xs := [.tmp 16]) fk29 rfl) (c_impl_copyExpr _f_36 (by omega)) fun _v17 _w_37 _q17 => ?_
        obtain ⟨_u17, rfl, _q17, _lo17, _cw_37⟩ := _q17
        have _cw_37z := _cw_37.size
        have E := E.trans _cw_37
        obtain ⟨_Au17, _Cu17, _eu17⟩ := _q17.val
        subst _eu17
        have _lu17 := _q17.len
        have _hiu17 := _q17.lt
        refine WL_s rfl rfl ?_
        have _f_38 := ((((_m4.ch0 _cw_9).ch0 _cw_20).ch0 _cw_32).ch0 _cw_37)
        refine s_storeA (off := 0) 1 _f_38 sz26 rfl (us := [(.slice _Au17 (b).length _Cu17)]) rfl rfl rfl rfl fun _w_39 _m_40 _cw_39 => ?_
        have _cw_39z := _cw_39.size
        have E := E.step _cw_39 (fun i hi => .inl (by have _h1 := List.mem_singleton.1 hi; omega))
        replace _m_40 : Blk _w_39 _b4 26 [(.slice _Au17 (b).length _Cu17)] := _m_40
        refine WL_nil ?_
        refine thn_nrm (_hK_34 _ _ ?_)
        clear _hK_34
        refine W_ret (inB_ret (thn_ret ?_))
        clear _hK_5
        have _f_42 := (_q17.ch _cw_39 (fun g hg hm => by have _h0 := List.mem_singleton.1 hm; have _h2 := _lo17 _ hg; have _h3 := _hiu17 _ hg; omega))
        have _o_41 : Ol Token.cs 52 4 _w_39 (.slice _Au17 (b).length _Cu17) (catE a b) := by
          have hx := _f_42
          (unfold catE; simp_all)
        exact ret_intro [_] (resOf_loadA _m_40 rfl agg26 sz26 trivial) ⟨_, rfl, _o_41, Lo.down _lo17 (by omega), E⟩
      · have _kb_33 := _h13
        refine W_seq fun _K_43 _hK_43 => ?_
        refine W_region ?_
        have _f_44 := ((_f_18.ch0 _cw_20).ch0 _cw_32)
        refine WL_step rfl rfl (r_loadAtA0 _f_44.at_ agg26 sz26 rfl) ?_
        refine WL_s rfl rfl ?_
        have _f_45 := ((_f_19.ch0 _cw_20).ch0 _cw_32)
        refine Step.call (r_call (xs := [.tmp 19, .const (Go.Value.int Go.IntKind.i64 2)]) fk75 rfl) (c_impl_alone _f_45 _ ) fun _v20 _w_46 _q20 => ?_
        obtain ⟨rfl, _cw_46⟩ := _q20
        have _cw_46z := _cw_46.size
        have E := E.trans _cw_46
        refine WL_step rfl rfl (r_assign rfl) ?_
        refine WL_nil ?_
        refine thn_nrm (_hK_43 _ _ ?_)
        clear _hK_43
        refine W_cond rfl (fun _h18 => ?_) (fun _h18 => ?_)
        · have _kb_47 := _h18
          refine W_seq fun _K_48 _hK_48 => ?_
          refine W_region ?_
          have _f_49 := ((_f_30.ch0 _cw_32).ch0 _cw_46)
          refine WL_step rfl rfl (r_loadAtA0 _f_49.at_ agg26 sz26 rfl) ?_
          refine WL_s rfl rfl ?_
          have _f_50 := ((_f_31.ch0 _cw_32).ch0 _cw_46)
          refine Step.call (r_call (xs := [.tmp 21]) fk29 rfl) (c_impl_copyExpr _f_50 (by omega)) fun _v22 _w_51 _q22 => ?_
          obtain ⟨_u22, rfl, _q22, _lo22, _cw_51⟩ := _q22
          have _cw_51z := _cw_51.size
          have E := E.trans _cw_51
          obtain ⟨_Au22, _Cu22, _eu22⟩ := _q22.val
          subst _eu22
          have _lu22 := _q22.len
          have _hiu22 := _q22.lt
          refine WL_s rfl rfl ?_
          have _f_52 := (((((_m4.ch0 _cw_9).ch0 _cw_20).ch0 _cw_32).ch0 _cw_46).ch0 _cw_51)
          refine s_storeA (off := 0) 1 _f_52 sz26 rfl (us := [(.slice _Au22 (a).length _Cu22)]) rfl rfl rfl rfl fun _w_53 _m_54 _cw_53 => ?_
          have _cw_53z := _cw_53.size
          have E := E.step _cw_53 (fun i hi => .inl (by have _h1 := List.mem_singleton.1 hi; omega))
          replace _m_54 : Blk _w_53 _b4 26 [(.slice _Au22 (a).length _Cu22)] := _m_54
          refine WL_nil ?_
          refine thn_nrm (_hK_48 _ _ ?_)
          clear _hK_48
          refine W_ret (inB_ret (thn_ret ?_))
          clear _hK_5
          have _f_56 := (_q22.ch _cw_53 (fun g hg hm => by have _h0 := List.mem_singleton.1 hm; have _h2 := _lo22 _ hg; have _h3 := _hiu22 _ hg; omega))
          have _o_55 : Ol Token.cs 52 4 _w_53 (.slice _Au22 (a).length _Cu22) (catE a b) := by
            have hx := _f_56
            (unfold catE; simp_all)
          exact ret_intro [_] (resOf_loadA _m_54 rfl agg26 sz26 trivial) ⟨_, rfl, _o_55, Lo.down _lo22 (by omega), E⟩
        · have _kb_47 := _h18
          refine W_skip ?_
          refine inB_nrm ?_
          refine thn_nrm (_hK_5 _ _ ?_)
          clear _hK_5
          refine W_seq fun _K_57 _hK_57 => ?_
          refine W_region ?_
          refine WL_step rfl rfl (r_build (parts := [(0, .const (Go.Value.int Go.IntKind.i64 4))]) (cells := [(.int .i64 4), (.int .i64 0), (.int .i64 0), (.int .i64 0)]) zr52 pl52 rfl rfl) ?_
          have _f_58 := ((_f_30.ch0 _cw_32).ch0 _cw_46)
          refine WL_step rfl rfl (r_loadAtA0 _f_58.at_ agg26 sz26 rfl) ?_
          have _f_59 := (_f_44.ch0 _cw_46)
          refine WL_step rfl rfl (r_loadAtA0 _f_59.at_ agg26 sz26 rfl) ?_
          refine WL_s rfl rfl ?_
          refine s_buildSlice (cs := Sv.cs) (parts := [(0, .tmp 24), (1, .tmp 25)]) (⟨none, 0, 0⟩ : Sv) [(⟨_A_a, a.length, _C_a⟩ : Sv), (⟨_A_b, b.length, _C_b⟩ : Sv)] el97 sz26 zr26 Sv.len (by decide) rfl rfl rfl (by decide) (by decide) rfl fun _v26 _w_60 _q26 _lo26 _cw_60 => ?_
          have _cw_60z := _cw_60.size
          have E := E.trans _cw_60
          obtain ⟨_Av26, _Cv26, _ev26⟩ := _q26.val
          subst _ev26
          have _lv26 := _q26.len
          have _hiv26 := _q26.lt
          have _f_61 := ((_f_45.ch0 _cw_46).ch0 _cw_60)
          have _f_62 := (((_f_31.ch0 _cw_32).ch0 _cw_46).ch0 _cw_60)
          have _rd26 : Rd Token.cs 4 _w_60 0 _w_60.heap.size ([(⟨_A_a, a.length, _C_a⟩ : Sv), (⟨_A_b, b.length, _C_b⟩ : Sv)]) ([a, b]) := (Rd.cons (_f_62.up (by omega) (by omega)) (Rd.cons (_f_61.up (by omega) (by omega)) Rd.nil))
          refine WL_s rfl rfl ?_
          refine Step.call (r_call (xs := [.tmp 23, .tmp 26]) fk76 rfl) (c_impl_joined ⟨4, 0, 0, 0⟩ _q26.ls _rd26 (by simp <;> omega)) fun _v27 _w_63 _q27 => ?_
          obtain ⟨_u27, rfl, _q27, _lo27, _cw_63⟩ := _q27
          have _cw_63z := _cw_63.size
          have E := E.trans _cw_63
          obtain ⟨_Au27, _Cu27, _eu27⟩ := _q27.val
          subst _eu27
          have _lu27 := _q27.len
          have _hiu27 := _q27.lt
          refine WL_s rfl rfl ?_
          have _f_64 := ((((((_m4.ch0 _cw_9).ch0 _cw_20).ch0 _cw_32).ch0 _cw_46).ch0 _cw_60).ch0 _cw_63)
          refine s_storeA (off := 0) 1 _f_64 sz26 rfl (us := [(.slice _Au27 (([a, b]).flatten ++ [(⟨4, 0, 0, 0⟩ : Token)]).length _Cu27)]) rfl rfl rfl rfl fun _w_65 _m_66 _cw_65 => ?_
          have _cw_65z := _cw_65.size
          have E := E.step _cw_65 (fun i hi => .inl (by have _h1 := List.mem_singleton.1 hi; omega))
          replace _m_66 : Blk _w_65 _b4 26 [(.slice _Au27 (([a, b]).flatten ++ [(⟨4, 0, 0, 0⟩ : Token)]).length _Cu27)] := _m_66
          refine WL_nil ?_
          refine thn_nrm (_hK_57 _ _ ?_)
          clear _hK_57
          refine W_ret ?_
          have _f_68 := (_q27.ch _cw_65 (fun g hg hm => by have _h0 := List.mem_singleton.1 hm; have _h2 := _lo27 _ hg; have _h3 := _hiu27 _ hg; omega))
          have _o_67 : Ol Token.cs 52 4 _w_65 (.slice _Au27 (([a, b]).flatten ++ [(⟨4, 0, 0, 0⟩ : Token)]).length _Cu27) (catE a b) := by
            have hx := _f_68
            (unfold catE; simp_all)
          exact ret_intro [_] (resOf_loadA _m_66 rfl agg26 sz26 trivial) ⟨_, rfl, _o_67, Lo.down _lo27 (by omega), E⟩

/-- impl.RepeatExpr -/
theorem c_impl_RepeatExpr {w : World} {LL_e _B_e : Nat} {_v_e : Value} {e : List Token} (_h_e : Ls Token.cs 4 w LL_e _B_e _v_e e) (low : Int) (high : Int) (hb : e.length ≤ 1048576) :
    Ctr Tryz.prog 58 #[(.agg #[_v_e]), (.int .i64 low), (.int .i64 high)] w (fun v w' => ∃ u, v = .agg #[u] ∧ Ol Token.cs 52 4 w' u (repE e low high) ∧ Lo w.heap.size u ∧ Ch [] w w') := by
  obtain ⟨_A_e, _C_e, _e1_e⟩ := _h_e.val
  subst _e1_e
  have _l_e := _h_e.len
  have _h_e := _h_e.here (by decide)
  have E := Ch.refl [] w
  refine Ctr_of_W (N := 30) (vs0 := [(.agg #[(.slice _A_e e.length _C_e)]), (.int .i64 low), (.int .i64 high)]) Tryz.func58 rfl rfl rfl ?_
  refine W_seq fun _K_1 _hK_1 => ?_
  refine W_region ?_
  refine WL_s rfl rfl ?_
  refine s_box rfl fun _b3 _w_2 _m3 _cw_2 _e3 => ?_
  have _cw_2z := _cw_2.size
  have E := E.trans _cw_2
  have _z3 := _m3.lt
  replace _m3 : Blk _w_2 _b3 26 [(.slice _A_e e.length _C_e)] := _m3
  refine WL_s rfl rfl ?_
  refine s_alloc zr26 fun _b6 _w_3 _m6 _cw_3 _e6 => ?_
  have _cw_3z := _cw_3.size
  have E := E.trans _cw_3
  have _z6 := _m6.lt
  replace _m6 : Blk _w_3 _b6 26 [(.slice none 0 0)] := _m6
  refine WL_nil ?_
  refine thn_nrm (_hK_1 _ _ ?_)
  clear _hK_1
  refine W_seq fun _K_4 _hK_4 => ?_
  refine W_block ?_
  refine W_seq fun _K_5 _hK_5 => ?_
  refine W_region ?_
  refine WL_step rfl rfl (r_move rfl) ?_
  refine WL_step rfl rfl (r_eql rfl rfl) ?_
  refine WL_step rfl rfl (r_move rfl) ?_
  refine WL_split (d := 10) rfl (fun _h10 => ?_) (fun _h10 => ?_)
  · have _kb_6 := _h10
    have _h10 := bt_d _h10
    refine WL_step rfl rfl (r_move rfl) ?_
    refine WL_step rfl rfl (r_eql rfl rfl) ?_
    refine WL_step rfl rfl (r_pickT rfl rfl) ?_
    refine WL_step rfl rfl (r_assign rfl) ?_
    refine WL_nil ?_
    refine thn_nrm (_hK_5 _ _ ?_)
    clear _hK_5
    refine W_cond rfl (fun _h7 => ?_) (fun _h7 => ?_)
    · have _kb_7 := _h7
      have _h7 := bt_d _h7
      refine W_seq fun _K_8 _hK_8 => ?_
      refine W_region ?_
      refine WL_s rfl rfl ?_
      refine Step.call (r_call (xs := [.const (Go.Value.int Go.IntKind.i64 2)]) fk54 rfl) (c_impl_single _ ) fun _v14 _w_9 _q14 => ?_
      obtain ⟨_u14, rfl, _q14, _lo14, _cw_9⟩ := _q14
      have _cw_9z := _cw_9.size
      have E := E.trans _cw_9
      obtain ⟨_Au14, _Cu14, _eu14⟩ := _q14.val
      subst _eu14
      have _lu14 := _q14.len
      have _hiu14 := _q14.lt
      refine WL_s rfl rfl ?_
      have _f_10 := (_m6.ch0 _cw_9)
      refine s_storeA (off := 0) 1 _f_10 sz26 rfl (us := [(.slice _Au14 ([(⟨2, 0, 0, 0⟩ : Token)]).length _Cu14)]) rfl rfl rfl rfl fun _w_11 _m_12 _cw_11 => ?_
      have _cw_11z := _cw_11.size
      have E := E.step _cw_11 (fun i hi => .inl (by have _h1 := List.mem_singleton.1 hi; omega))
      replace _m_12 : Blk _w_11 _b6 26 [(.slice _Au14 ([(⟨2, 0, 0, 0⟩ : Token)]).length _Cu14)] := _m_12
      refine WL_nil ?_
      refine thn_nrm (_hK_8 _ _ ?_)
      clear _hK_8
      refine W_ret (inB_ret (thn_ret ?_))
      clear _hK_4
      have _f_14 := (_q14.ch _cw_11 (fun g hg hm => by have _h0 := List.mem_singleton.1 hm; have _h2 := _lo14 _ hg; have _h3 := _hiu14 _ hg; omega))
      have _o_13 : Ol Token.cs 52 4 _w_11 (.slice _Au14 ([(⟨2, 0, 0, 0⟩ : Token)]).length _Cu14) (repE e low high) := by
        have hx := _f_14
        (unfold repE; simp_all)
      exact ret_intro [_] (resOf_loadA _m_12 rfl agg26 sz26 trivial) ⟨_, rfl, _o_13, Lo.down _lo14 (by omega), E⟩
    · have _kb_7 := _h7
      have _h7 := bf_d _h7
      refine W_seq fun _K_15 _hK_15 => ?_
      refine W_region ?_
      refine WL_step rfl rfl (r_move rfl) ?_
      refine WL_step rfl rfl (r_eql rfl rfl) ?_
      refine WL_step rfl rfl (r_move rfl) ?_
      refine WL_split (d := 18) rfl (fun _h18 => ?_) (fun _h18 => ?_)
      · have _kb_16 := _h18
        have _h18 := bt_d _h18
        refine WL_step rfl rfl (r_move rfl) ?_
        refine WL_step rfl rfl (r_eql rfl rfl) ?_
        refine WL_step rfl rfl (r_pickT rfl rfl) ?_
        refine WL_step rfl rfl (r_assign rfl) ?_
        refine WL_nil ?_
        refine thn_nrm (_hK_15 _ _ ?_)
        clear _hK_15
        refine W_cond rfl (fun _h15 => ?_) (fun _h15 => ?_)
        · have _kb_17 := _h15
          have _h15 := bt_d _h15
          refine W_seq fun _K_18 _hK_18 => ?_
          refine W_region ?_
          have _f_19 := (_m3.ch0 _cw_3)
          refine WL_step rfl rfl (r_loadAtA0 _f_19.at_ agg26 sz26 rfl) ?_
          refine WL_s rfl rfl ?_
          have _f_20 := ((_h_e.ch0 _cw_2).ch0 _cw_3)
          refine Step.call (r_call (xs := [.tmp 22]) fk29 rfl) (c_impl_copyExpr _f_20 (by omega)) fun _v23 _w_21 _q23 => ?_
          obtain ⟨_u23, rfl, _q23, _lo23, _cw_21⟩ := _q23
          have _cw_21z := _cw_21.size
          have E := E.trans _cw_21
          obtain ⟨_Au23, _Cu23, _eu23⟩ := _q23.val
          subst _eu23
          have _lu23 := _q23.len
          have _hiu23 := _q23.lt
          refine WL_s rfl rfl ?_
          have _f_22 := (_m6.ch0 _cw_21)
          refine s_storeA (off := 0) 1 _f_22 sz26 rfl (us := [(.slice _Au23 (e).length _Cu23)]) rfl rfl rfl rfl fun _w_23 _m_24 _cw_23 => ?_
          have _cw_23z := _cw_23.size
          have E := E.step _cw_23 (fun i hi => .inl (by have _h1 := List.mem_singleton.1 hi; omega))
          replace _m_24 : Blk _w_23 _b6 26 [(.slice _Au23 (e).length _Cu23)] := _m_24
          refine WL_nil ?_
          refine thn_nrm (_hK_18 _ _ ?_)
          clear _hK_18
          refine W_ret (inB_ret (thn_ret ?_))
          clear _hK_4
          have _f_26 := (_q23.ch _cw_23 (fun g hg hm => by have _h0 := List.mem_singleton.1 hm; have _h2 := _lo23 _ hg; have _h3 := _hiu23 _ hg; omega))
          have _o_25 : Ol Token.cs 52 4 _w_23 (.slice _Au23 (e).length _Cu23) (repE e low high) := by
            have hx := _f_26
            (unfold repE; simp_all)
          exact ret_intro [_] (resOf_loadA _m_24 rfl agg26 sz26 trivial) ⟨_, rfl, _o_25, Lo.down _lo23 (by omega), E⟩
        · have _kb_17 := _h15
          have _h15 := bf_d _h15
          refine W_skip ?_
          refine inB_nrm ?_
          refine thn_nrm (_hK_4 _ _ ?_)
          clear _hK_4
          refine W_seq fun _K_27 _hK_27 => ?_
          refine W_region ?_
          refine WL_step rfl rfl (r_move rfl) ?_
          refine WL_step rfl rfl (r_move rfl) ?_
          refine WL_step rfl rfl (r_build (parts := [(0, .const (Go.Value.int Go.IntKind.i64 7)), (2, .tmp 24), (3, .tmp 25)]) (cells := [(.int .i64 7), (.int .i64 0), (.int .i64 low), (.int .i64 high)]) zr52 pl52 rfl rfl) ?_
          have _f_28 := (_m3.ch0 _cw_3)
          refine WL_step rfl rfl (r_loadAtA0 _f_28.at_ agg26 sz26 rfl) ?_
          refine WL_s rfl rfl ?_
          refine s_buildSlice (cs := Sv.cs) (parts := [(0, .tmp 27)]) (⟨none, 0, 0⟩ : Sv) [(⟨_A_e, e.length, _C_e⟩ : Sv)] el97 sz26 zr26 Sv.len (by decide) rfl rfl rfl (by decide) (by decide) rfl fun _v28 _w_29 _q28 _lo28 _cw_29 => ?_
          have _cw_29z := _cw_29.size
          have E := E.trans _cw_29
          obtain ⟨_Av28, _Cv28, _ev28⟩ := _q28.val
          subst _ev28
          have _lv28 := _q28.len
          have _hiv28 := _q28.lt
          have _f_30 := (((_h_e.ch0 _cw_2).ch0 _cw_3).ch0 _cw_29)
          have _rd28 : Rd Token.cs 4 _w_29 0 _w_29.heap.size ([(⟨_A_e, e.length, _C_e⟩ : Sv)]) ([e]) := (Rd.cons (_f_30.up (by omega) (by omega)) Rd.nil)
          refine WL_s rfl rfl ?_
          refine Step.call (r_call (xs := [.tmp 26, .tmp 28]) fk76 rfl) (c_impl_joined ⟨7, 0, low, high⟩ _q28.ls _rd28 (by simp <;> omega)) fun _v29 _w_31 _q29 => ?_
          obtain ⟨_u29, rfl, _q29, _lo29, _cw_31⟩ := _q29
          have _cw_31z := _cw_31.size
          have E := E.trans _cw_31
          obtain ⟨_Au29, _Cu29, _eu29⟩ := _q29.val
          subst _eu29
          have _lu29 := _q29.len
          have _hiu29 := _q29.lt
          refine WL_s rfl rfl ?_
          have _f_32 := ((_m6.ch0 _cw_29).ch0 _cw_31)
          refine s_storeA (off := 0) 1 _f_32 sz26 rfl (us := [(.slice _Au29 (([e]).flatten ++ [(⟨7, 0, low, high⟩ : Token)]).length _Cu29)]) rfl rfl rfl rfl fun _w_33 _m_34 _cw_33 => ?_
          have _cw_33z := _cw_33.size
          have E := E.step _cw_33 (fun i hi => .inl (by have _h1 := List.mem_singleton.1 hi; omega))
          replace _m_34 : Blk _w_33 _b6 26 [(.slice _Au29 (([e]).flatten ++ [(⟨7, 0, low, high⟩ : Token)]).length _Cu29)] := _m_34
          refine WL_nil ?_
          refine thn_nrm (_hK_27 _ _ ?_)
          clear _hK_27
          refine W_ret ?_
          have _f_36 := (_q29.ch _cw_33 (fun g hg hm => by have _h0 := List.mem_singleton.1 hm; have _h2 := _lo29 _ hg; have _h3 := _hiu29 _ hg; omega))
          have _o_35 : Ol Token.cs 52 4 _w_33 (.slice _Au29 (([e]).flatten ++ [(⟨7, 0, low, high⟩ : Token)]).length _Cu29) (repE e low high) := by
            have hx := _f_36
            (unfold repE; simp_all)
          exact ret_intro [_] (resOf_loadA _m_34 rfl agg26 sz26 trivial) ⟨_, rfl, _o_35, Lo.down _lo29 (by omega), E⟩
      · have _kb_16 := _h18
        have _h18 := bf_d _h18
        refine WL_skip rfl rfl ?_
        refine WL_skip rfl rfl ?_
        refine WL_step rfl rfl (r_pickF rfl rfl) ?_
        refine WL_step rfl rfl (r_assign rfl) ?_
        refine WL_nil ?_
        refine thn_nrm (_hK_15 _ _ ?_)
        clear _hK_15
        refine W_condF rfl ?_
        refine W_skip ?_
        refine inB_nrm ?_
        refine thn_nrm (_hK_4 _ _ ?_)
        clear _hK_4
        refine W_seq fun _K_37 _hK_37 => ?_
        refine W_region ?_
        refine WL_step rfl rfl (r_move rfl) ?_
        refine WL_step rfl rfl (r_move rfl) ?_
        refine WL_step rfl rfl (r_build (parts := [(0, .const (Go.Value.int Go.IntKind.i64 7)), (2, .tmp 24), (3, .tmp 25)]) (cells := [(.int .i64 7), (.int .i64 0), (.int .i64 low), (.int .i64 high)]) zr52 pl52 rfl rfl) ?_
        have _f_38 := (_m3.ch0 _cw_3)
        refine WL_step rfl rfl (r_loadAtA0 _f_38.at_ agg26 sz26 rfl) ?_
        refine WL_s rfl rfl ?_
        refine s_buildSlice (cs := Sv.cs) (parts := [(0, .tmp 27)]) (⟨none, 0, 0⟩ : Sv) [(⟨_A_e, e.length, _C_e⟩ : Sv)] el97 sz26 zr26 Sv.len (by decide) rfl rfl rfl (by decide) (by decide) rfl fun _v28 _w_39 _q28 _lo28 _cw_39 => ?_
        have _cw_39z := _cw_39.size
        have E := E.trans _cw_39
        obtain ⟨_Av28, _Cv28, _ev28⟩ := _q28.val
        subst _ev28
        have _lv28 := _q28.len
        have _hiv28 := _q28.lt
        have _f_40 := (((_h_e.ch0 _cw_2).ch0 _cw_3).ch0 _cw_39)
        have _rd28 : Rd Token.cs 4 _w_39 0 _w_39.heap.size ([(⟨_A_e, e.length, _C_e⟩ : Sv)]) ([e]) := (Rd.cons (_f_40.up (by omega) (by omega)) Rd.nil)
        refine WL_s rfl rfl ?_
        refine Step.call (r_call (xs := [.tmp 26, .tmp 28]) fk76 rfl) (c_impl_joined ⟨7, 0, low, high⟩ _q28.ls _rd28 (by simp <;> omega)) fun _v29 _w_41 _q29 => ?_
        obtain ⟨_u29, rfl, _q29, _lo29, _cw_41⟩ := _q29
        have _cw_41z := _cw_41.size
        have E := E.trans _cw_41
        obtain ⟨_Au29, _Cu29, _eu29⟩ := _q29.val
        subst _eu29
        have _lu29 := _q29.len
        have _hiu29 := _q29.lt
        refine WL_s rfl rfl ?_
        have _f_42 := ((_m6.ch0 _cw_39).ch0 _cw_41)
        refine s_storeA (off := 0) 1 _f_42 sz26 rfl (us := [(.slice _Au29 (([e]).flatten ++ [(⟨7, 0, low, high⟩ : Token)]).length _Cu29)]) rfl rfl rfl rfl fun _w_43 _m_44 _cw_43 => ?_
        have _cw_43z := _cw_43.size
        have E := E.step _cw_43 (fun i hi => .inl (by have _h1 := List.mem_singleton.1 hi; omega))
        replace _m_44 : Blk _w_43 _b6 26 [(.slice _Au29 (([e]).flatten ++ [(⟨7, 0, low, high⟩ : Token)]).length _Cu29)] := _m_44
        refine WL_nil ?_
        refine thn_nrm (_hK_37 _ _ ?_)
        clear _hK_37
        refine W_ret ?_
        have _f_46 := (_q29.ch _cw_43 (fun g hg hm => by have _h0 := List.mem_singleton.1 hm; have _h2 := _lo29 _ hg; have _h3 := _hiu29 _ hg; omega))
        have _o_45 : Ol Token.cs 52 4 _w_43 (.slice _Au29 (([e]).flatten ++ [(⟨7, 0, low, high⟩ : Token)]).length _Cu29) (repE e low high) := by
          have hx := _f_46
          (unfold repE; simp_all)
        exact ret_intro [_] (resOf_loadA _m_44 rfl agg26 sz26 trivial) ⟨_, rfl, _o_45, Lo.down _lo29 (by omega), E⟩
  · have _kb_6 := _h10
    have _h10 := bf_d _h10
    refine WL_skip rfl rfl ?_
    refine WL_skip rfl rfl ?_
    refine WL_step rfl rfl (r_pickF rfl rfl) ?_
    refine WL_step rfl rfl (r_assign rfl) ?_
    refine WL_nil ?_
    refine thn_nrm (_hK_5 _ _ ?_)
    clear _hK_5
    refine W_condF rfl ?_
    refine W_seq fun _K_47 _hK_47 => ?_
    refine W_region ?_
    refine WL_step rfl rfl (r_move rfl) ?_
    refine WL_step rfl rfl (r_eql rfl rfl) ?_
    refine WL_step rfl rfl (r_move rfl) ?_
    refine WL_split (d := 18) rfl (fun _h18 => ?_) (fun _h18 => ?_)
    · have _kb_48 := _h18
      have _h18 := bt_d _h18
      refine WL_step rfl rfl (r_move rfl) ?_
      refine WL_step rfl rfl (r_eql rfl rfl) ?_
      refine WL_step rfl rfl (r_pickT rfl rfl) ?_
      refine WL_step rfl rfl (r_assign rfl) ?_
      refine WL_nil ?_
      refine thn_nrm (_hK_47 _ _ ?_)
      clear _hK_47
      refine W_cond rfl (fun _h15 => ?_) (fun _h15 => ?_)
      · have _kb_49 := _h15
        have _h15 := bt_d _h15
        refine W_seq fun _K_50 _hK_50 => ?_
        refine W_region ?_
        have _f_51 := (_m3.ch0 _cw_3)
        refine WL_step rfl rfl (r_loadAtA0 _f_51.at_ agg26 sz26 rfl) ?_
        refine WL_s rfl rfl ?_
        have _f_52 := ((_h_e.ch0 _cw_2).ch0 _cw_3)
        refine Step.call (r_call (xs := [.tmp 22]) fk29 rfl) (c_impl_copyExpr _f_52 (by omega)) fun _v23 _w_53 _q23 => ?_
        obtain ⟨_u23, rfl, _q23, _lo23, _cw_53⟩ := _q23
        have _cw_53z := _cw_53.size
        have E := E.trans _cw_53
        obtain ⟨_Au23, _Cu23, _eu23⟩ := _q23.val
        subst _eu23
        have _lu23 := _q23.len
        have _hiu23 := _q23.lt
        refine WL_s rfl rfl ?_
        have _f_54 := (_m6.ch0 _cw_53)
        refine s_storeA (off := 0) 1 _f_54 sz26 rfl (us := [(.slice _Au23 (e).length _Cu23)]) rfl rfl rfl rfl fun _w_55 _m_56 _cw_55 => ?_
        have _cw_55z := _cw_55.size
        have E := E.step _cw_55 (fun i hi => .inl (by have _h1 := List.mem_singleton.1 hi; omega))
        replace _m_56 : Blk _w_55 _b6 26 [(.slice _Au23 (e).length _Cu23)] := _m_56
        refine WL_nil ?_
        refine thn_nrm (_hK_50 _ _ ?_)
        clear _hK_50
        refine W_ret (inB_ret (thn_ret ?_))
        clear _hK_4
        have _f_58 := (_q23.ch _cw_55 (fun g hg hm => by have _h0 := List.mem_singleton.1 hm; have _h2 := _lo23 _ hg; have _h3 := _hiu23 _ hg; omega))
        have _o_57 : Ol Token.cs 52 4 _w_55 (.slice _Au23 (e).length _Cu23) (repE e low high) := by
          have hx := _f_58
          (unfold repE; simp_all)
        exact ret_intro [_] (resOf_loadA _m_56 rfl agg26 sz26 trivial) ⟨_, rfl, _o_57, Lo.down _lo23 (by omega), E⟩
      · have _kb_49 := _h15
        have _h15 := bf_d _h15
        refine W_skip ?_
        refine inB_nrm ?_
        refine thn_nrm (_hK_4 _ _ ?_)
        clear _hK_4
        refine W_seq fun _K_59 _hK_59 => ?_
        refine W_region ?_
        refine WL_step rfl rfl (r_move rfl) ?_
        refine WL_step rfl rfl (r_move rfl) ?_
        refine WL_step rfl rfl (r_build (parts := [(0, .const (Go.Value.int Go.IntKind.i64 7)), (2, .tmp 24), (3, .tmp 25)]) (cells := [(.int .i64 7), (.int .i64 0), (.int .i64 low), (.int .i64 high)]) zr52 pl52 rfl rfl) ?_
        have _f_60 := (_m3.ch0 _cw_3)
        refine WL_step rfl rfl (r_loadAtA0 _f_60.at_ agg26 sz26 rfl) ?_
        refine WL_s rfl rfl ?_
        refine s_buildSlice (cs := Sv.cs) (parts := [(0, .tmp 27)]) (⟨none, 0, 0⟩ : Sv) [(⟨_A_e, e.length, _C_e⟩ : Sv)] el97 sz26 zr26 Sv.len (by decide) rfl rfl rfl (by decide) (by decide) rfl fun _v28 _w_61 _q28 _lo28 _cw_61 => ?_
        have _cw_61z := _cw_61.size
        have E := E.trans _cw_61
        obtain ⟨_Av28, _Cv28, _ev28⟩ := _q28.val
        subst _ev28
        have _lv28 := _q28.len
        have _hiv28 := _q28.lt
        have _f_62 := (((_h_e.ch0 _cw_2).ch0 _cw_3).ch0 _cw_61)
        have _rd28 : Rd Token.cs 4 _w_61 0 _w_61.heap.size ([(⟨_A_e, e.length, _C_e⟩ : Sv)]) ([e]) := (Rd.cons (_f_62.up (by omega) (by omega)) Rd.nil)
        refine WL_s rfl rfl ?_
        refine Step.call (r_call (xs := [.tmp 26, .tmp 28]) fk76 rfl) (c_impl_joined ⟨7, 0, low, high⟩ _q28.ls _rd28 (by simp <;> omega)) fun _v29 _w_63 _q29 => ?_
        obtain ⟨_u29, rfl, _q29, _lo29, _cw_63⟩ := _q29
        have _cw_63z := _cw_63.size
        have E := E.trans _cw_63
        obtain ⟨_Au29, _Cu29, _eu29⟩ := _q29.val
        subst _eu29
        have _lu29 := _q29.len
        have _hiu29 := _q29.lt
        refine WL_s rfl rfl ?_
        have _f_64 := ((_m6.ch0 _cw_61).ch0 _cw_63)
        refine s_storeA (off := 0) 1 _f_64 sz26 rfl (us := [(.slice _Au29 (([e]).flatten ++ [(⟨7, 0, low, high⟩ : Token)]).length _Cu29)]) rfl rfl rfl rfl fun _w_65 _m_66 _cw_65 => ?_
        have _cw_65z := _cw_65.size
        have E := E.step _cw_65 (fun i hi => .inl (by have _h1 := List.mem_singleton.1 hi; omega))
        replace _m_66 : Blk _w_65 _b6 26 [(.slice _Au29 (([e]).flatten ++ [(⟨7, 0, low, high⟩ : Token)]).length _Cu29)] := _m_66
        refine WL_nil ?_
        refine thn_nrm (_hK_59 _ _ ?_)
        clear _hK_59
        refine W_ret ?_
        have _f_68 := (_q29.ch _cw_65 (fun g hg hm => by have _h0 := List.mem_singleton.1 hm; have _h2 := _lo29 _ hg; have _h3 := _hiu29 _ hg; omega))
        have _o_67 : Ol Token.cs 52 4 _w_65 (.slice _Au29 (([e]).flatten ++ [(⟨7, 0, low, high⟩ : Token)]).length _Cu29) (repE e low high) := by
          have hx := _f_68
          (unfold repE; simp_all)
        exact ret_intro [_] (resOf_loadA _m_66 rfl agg26 sz26 trivial) ⟨_, rfl, _o_67, Lo.down _lo29 (by omega), E⟩
    · have _kb_48 := _h18
      have _h18 := bf_d _h18
      refine WL_skip rfl rfl ?_
      refine WL_skip rfl rfl ?_
      refine WL_step rfl rfl (r_pickF rfl rfl) ?_
      refine WL_step rfl rfl (r_assign rfl) ?_
      refine WL_nil ?_
      refine thn_nrm (_hK_47 _ _ ?_)
      clear _hK_47
      refine W_condF rfl ?_
      refine W_skip ?_
      refine inB_nrm ?_
      refine thn_nrm (_hK_4 _ _ ?_)
      clear _hK_4
      refine W_seq fun _K_69 _hK_69 => ?_
      refine W_region ?_
      refine WL_step rfl rfl (r_move rfl) ?_
      refine WL_step rfl rfl (r_move rfl) ?_
      refine WL_step rfl rfl (r_build (parts := [(0, .const (Go.Value.int Go.IntKind.i64 7)), (2, .tmp 24), (3, .tmp 25)]) (cells := [(.int .i64 7), (.int .i64 0), (.int .i64 low), (.int .i64 high)]) zr52 pl52 rfl rfl) ?_
      have _f_70 := (_m3.ch0 _cw_3)
      refine WL_step rfl rfl (r_loadAtA0 _f_70.at_ agg26 sz26 rfl) ?_
      refine WL_s rfl rfl ?_
      refine s_buildSlice (cs := Sv.cs) (parts := [(0, .tmp 27)]) (⟨none, 0, 0⟩ : Sv) [(⟨_A_e, e.length, _C_e⟩ : Sv)] el97 sz26 zr26 Sv.len (by decide) rfl rfl rfl (by decide) (by decide) rfl fun _v28 _w_71 _q28 _lo28 _cw_71 => ?_
      have _cw_71z := _cw_71.size
      have E := E.trans _cw_71
      obtain ⟨_Av28, _Cv28, _ev28⟩ := _q28.val
      subst _ev28
      have _lv28 := _q28.len
      have _hiv28 := _q28.lt
      have _f_72 := (((_h_e.ch0 _cw_2).ch0 _cw_3).ch0 _cw_71)
      have _rd28 : Rd Token.cs 4 _w_71 0 _w_71.heap.size ([(⟨_A_e, e.length, _C_e⟩ : Sv)]) ([e]) := (Rd.cons (_f_72.up (by omega) (by omega)) Rd.nil)
      refine WL_s rfl rfl ?_
      refine Step.call (r_call (xs := [.tmp 26, .tmp 28]) fk76 rfl) (c_impl_joined ⟨7, 0, low, high⟩ _q28.ls _rd28 (by simp <;> omega)) fun _v29 _w_73 _q29 => ?_
      obtain ⟨_u29, rfl, _q29, _lo29, _cw_73⟩ := _q29
      have _cw_73z := _cw_73.size
      have E := E.trans _cw_73
      obtain ⟨_Au29, _Cu29, _eu29⟩ := _q29.val
      subst _eu29
      have _lu29 := _q29.len
      have _hiu29 := _q29.lt
      refine WL_s rfl rfl ?_
      have _f_74 := ((_m6.ch0 _cw_71).ch0 _cw_73)
      refine s_storeA (off := 0) 1 _f_74 sz26 rfl (us := [(.slice _Au29 (([e]).flatten ++ [(⟨7, 0, low, high⟩ : Token)]).length _Cu29)]) rfl rfl rfl rfl fun _w_75 _m_76 _cw_75 => ?_
      have _cw_75z := _cw_75.size
      have E := E.step _cw_75 (fun i hi => .inl (by have _h1 := List.mem_singleton.1 hi; omega))
      replace _m_76 : Blk _w_75 _b6 26 [(.slice _Au29 (([e]).flatten ++ [(⟨7, 0, low, high⟩ : Token)]).length _Cu29)] := _m_76
      refine WL_nil ?_
      refine thn_nrm (_hK_69 _ _ ?_)
      clear _hK_69
      refine W_ret ?_
      have _f_78 := (_q29.ch _cw_75 (fun g hg hm => by have _h0 := List.mem_singleton.1 hm; have _h2 := _lo29 _ hg; have _h3 := _hiu29 _ hg; omega))
      have _o_77 : Ol Token.cs 52 4 _w_75 (.slice _Au29 (([e]).flatten ++ [(⟨7, 0, low, high⟩ : Token)]).length _Cu29) (repE e low high) := by
        have hx := _f_78
        (unfold repE; simp_all)
      exact ret_intro [_] (resOf_loadA _m_76 rfl agg26 sz26 trivial) ⟨_, rfl, _o_77, Lo.down _lo29 (by omega), E⟩

/-- slices.Equal[[]impl.Token,impl.Token] -/
theorem c_slices_Equal_impl_Token_impl_Token {w : World} {LL_a _B_a : Nat} {_v_a : Value} {a : List Token} (_h_a : Ls Token.cs 4 w LL_a _B_a _v_a a) {LL_b _B_b : Nat} {_v_b : Value} {b : List Token} (_h_b : Ls Token.cs 4 w LL_b _B_b _v_b b) :
    Ctr Tryz.prog 86 #[_v_a, _v_b] w (fun v w' => v = .bool (decide (a = b)) ∧ Ch [] w w') := by
  obtain ⟨_A_a, _C_a, _e1_a⟩ := _h_a.val
  subst _e1_a
  have _l_a := _h_a.len
  have _h_a := _h_a.here (by decide)
  obtain ⟨_A_b, _C_b, _e1_b⟩ := _h_b.val
  subst _e1_b
  have _l_b := _h_b.len
  have _h_b := _h_b.here (by decide)
  have E := Ch.refl [] w
  refine Ctr_of_W (N := 26) (vs0 := [(.slice _A_a a.length _C_a), (.slice _A_b b.length _C_b)]) Tryz.func86 rfl rfl rfl ?_
  refine W_seq fun _K_1 _hK_1 => ?_
  refine W_region ?_
  refine WL_step rfl rfl (r_assign rfl) ?_
  refine WL_nil ?_
  refine thn_nrm (_hK_1 _ _ ?_)
  clear _hK_1
  refine W_seq fun _K_2 _hK_2 => ?_
  refine W_seq fun _K_3 _hK_3 => ?_
  refine W_region ?_
  refine WL_step rfl rfl (r_move rfl) ?_
  refine WL_step rfl rfl (r_len (by rw [el24]; rfl) rfl) ?_
  refine WL_step rfl rfl (r_move rfl) ?_
  refine WL_step rfl rfl (r_len (by rw [el24]; rfl) rfl) ?_
  refine WL_step rfl rfl (r_neq rfl rfl) ?_
  refine WL_nil ?_
  refine thn_nrm (_hK_3 _ _ ?_)
  clear _hK_3
  refine W_cond rfl (fun _h10 => ?_) (fun _h10 => ?_)
  · have _kb_4 := _h10
    have _h10 := bf_d (bt_n _h10)
    refine W_seq fun _K_5 _hK_5 => ?_
    refine W_region ?_
    refine WL_step rfl rfl (r_assign rfl) ?_
    refine WL_nil ?_
    refine thn_nrm (_hK_5 _ _ ?_)
    clear _hK_5
    refine W_ret (thn_ret ?_)
    clear _hK_2
    exact ret_intro [_] ⟨rfl, trivial⟩ ⟨congrArg Value.bool (decide_eq_false (fun e => _h10 (by rw [e]))).symm, E⟩
  · have _kb_4 := _h10
    have _h10 := bt_d (bf_n _h10)
    refine W_skip ?_
    refine thn_nrm (_hK_2 _ _ ?_)
    clear _hK_2
    refine W_seq fun _K_6 _hK_6 => ?_
    refine W_seq fun _K_7 _hK_7 => ?_
    refine W_region ?_
    refine WL_step rfl rfl (r_move rfl) ?_
    refine WL_step rfl rfl (r_len (by rw [el24]; rfl) rfl) ?_
    refine WL_step rfl rfl (r_move rfl) ?_
    refine WL_nil ?_
    refine thn_nrm (_hK_7 _ _ ?_)
    clear _hK_7
    refine W_block ?_
    refine W_loop (σ := Nat) (fun (k : Nat) => [(0, (.slice _A_a a.length _C_a)), (1, (.slice _A_b b.length _C_b)), (12, (.int .i64 ((a.length : Nat) : Int))), (13, (.int .i64 ((k : Nat) : Int)))]) (fun (k : Nat) wx => Ch [] w wx ∧ w.heap.size ≤ wx.heap.size ∧ (k ≤ a.length) ∧ (a.take k = b.take k)) (fun (k : Nat) => a.length - k) 0 (Sub.cons rfl (Sub.cons rfl (Sub.cons rfl (Sub.cons rfl (Sub.nil _))))) ⟨E, (Nat.le_refl _), (by omega), rfl⟩ ?_
    rintro k _wr_8 ⟨E, _zz0, _hk, _ht⟩
    have _E0h := E
    have _E0hz := _E0h.size
    refine W_seq fun _K_9 _hK_9 => ?_
    refine W_region ?_
    refine WL_step rfl rfl (r_lss rfl rfl) ?_
    refine WL_nil ?_
    refine thn_nrm (_hK_9 _ _ ?_)
    clear _hK_9
    refine W_seq fun _K_10 _hK_10 => ?_
    refine W_cond rfl (fun _h14 => ?_) (fun _h14 => ?_)
    · have _kb_11 := _h14
      have _h14 := bt_d _h14
      refine W_skip ?_
      refine thn_nrm (_hK_10 _ _ ?_)
      clear _hK_10
      refine W_seq fun _K_12 _hK_12 => ?_
      refine W_block ?_
      refine W_seq fun _K_13 _hK_13 => ?_
      refine W_region ?_
      refine WL_step rfl rfl (r_move rfl) ?_
      refine WL_step rfl rfl (r_assign rfl) ?_
      refine WL_nil ?_
      refine thn_nrm (_hK_13 _ _ ?_)
      clear _hK_13
      refine W_seq fun _K_14 _hK_14 => ?_
      refine W_drawC [] 9 mixed rfl fun _w_15 _cw_15 => ?_
      have _cw_15z := _cw_15.size
      have E := E.trans _cw_15
      refine DR_s 0 rfl (by kernel_rfl) rfl rfl (t_v (fun _ => (r_move rfl)) ?_)
      refine DR_s 1 rfl (by kernel_rfl) rfl rfl (t_v (fun _ => (r_move rfl)) ?_)
      have _f_16 := ((_h_a.ch0 _E0h).ch0 _cw_15)
      refine DR_s 2 rfl (by kernel_rfl) rfl rfl (t_index _f_16 Token.len el24 sz52 rfl rfl rfl (by omega) fun _p18 _y18 _hy18 _a18 => ?_)
      refine DR_s 3 rfl (by kernel_rfl) rfl rfl (t_loadAtA0 _a18 (fun i hi => absurd hi List.not_mem_nil) agg52 sz52 rfl ?_)
      refine DR_s 4 rfl (by kernel_rfl) rfl rfl (t_v (fun _ => (r_move rfl)) ?_)
      refine DR_s 5 rfl (by kernel_rfl) rfl rfl (t_v (fun _ => (r_move rfl)) ?_)
      have _f_17 := ((_h_b.ch0 _E0h).ch0 _cw_15)
      refine DR_s 6 rfl (by kernel_rfl) rfl rfl (t_index _f_17 Token.len el24 sz52 rfl rfl rfl (by omega) fun _p22 _y22 _hy22 _a22 => ?_)
      refine DR_s 7 rfl (by kernel_rfl) rfl rfl (t_loadAtA0 _a22 (fun i hi => absurd hi List.not_mem_nil) agg52 sz52 rfl ?_)
      refine DR_s 8 rfl (by kernel_rfl) rfl rfl (t_v (fun _ => (r_neqI [_y18.kind, _y18.letter, _y18.low, _y18.high] [_y22.kind, _y22.letter, _y22.low, _y22.high] ist52 rfl rfl rfl)) ?_)
      refine DR_done (by kernel_rfl) ?_
      refine thn_nrm (_hK_14 _ _ ?_)
      clear _hK_14
      refine W_cond rfl (fun _h24 => ?_) (fun _h24 => ?_)
      · have _kb_18 := _h24
        have _h24 := bf_d (bt_n _h24)
        refine W_seq fun _K_19 _hK_19 => ?_
        refine W_region ?_
        refine WL_step rfl rfl (r_assign rfl) ?_
        refine WL_nil ?_
        refine thn_nrm (_hK_19 _ _ ?_)
        clear _hK_19
        refine W_ret (inB_ret (thn_ret (thn_ret (inB_ret (thn_ret ?_)))))
        clear _hK_6 _hK_12
        exact ret_intro [_] ⟨rfl, trivial⟩ ⟨congrArg Value.bool (decide_eq_false (ne_of_get _hy18 _hy22 (fun e => _h24 (by rw [e])))).symm, E⟩
      · have _kb_18 := _h24
        have _h24 := bt_d (bf_n _h24)
        refine W_skip ?_
        refine inB_nrm ?_
        refine thn_nrm (_hK_12 _ _ ?_)
        clear _hK_12
        refine W_region ?_
        refine WL_step rfl rfl (r_add (by omega) rfl rfl) ?_
        refine WL_step rfl rfl (r_move rfl) ?_
        refine WL_nil ?_
        exact thn_nrm (Exists.intro (k + 1) ⟨⟨E, (by omega), (by omega), (take_eq_succ _ht _hy18 _hy22 (Token.inj _h24))⟩, Sub.cons rfl (Sub.cons rfl (Sub.cons rfl (Sub.cons rfl (Sub.nil _)))), (by first | omega | (dsimp only; omega))⟩)
    · have _kb_11 := _h14
      have _h14 := bf_d _h14
      refine W_exit (thn_exit (thn_exit (inB_hit ?_)))
      refine thn_nrm (_hK_6 _ _ ?_)
      clear _hK_6
      refine W_seq fun _K_20 _hK_20 => ?_
      refine W_region ?_
      refine WL_step rfl rfl (r_assign rfl) ?_
      refine WL_nil ?_
      refine thn_nrm (_hK_20 _ _ ?_)
      clear _hK_20
      refine W_ret ?_
      clear _hK_10
      exact ret_intro [_] ⟨rfl, trivial⟩ ⟨congrArg Value.bool (decide_eq_true (eq_of_take _ht (by omega) (by omega))).symm, E⟩

/-- impl.EqualExprs -/
theorem c_impl_EqualExprs {w : World} {LL_a _B_a : Nat} {_v_a : Value} {a : List Token} (_h_a : Ls Token.cs 4 w LL_a _B_a _v_a a) {LL_b _B_b : Nat} {_v_b : Value} {b : List Token} (_h_b : Ls Token.cs 4 w LL_b _B_b _v_b b) :
    Ctr Tryz.prog 78 #[(.agg #[_v_a]), (.agg #[_v_b])] w (fun v w' => v = .bool (decide (a = b)) ∧ Ch [] w w') := by
  obtain ⟨_A_a, _C_a, _e1_a⟩ := _h_a.val
  subst _e1_a
  have _l_a := _h_a.len
  have _h_a := _h_a.here (by decide)
  obtain ⟨_A_b, _C_b, _e1_b⟩ := _h_b.val
  subst _e1_b
  have _l_b := _h_b.len
  have _h_b := _h_b.here (by decide)
  have E := Ch.refl [] w
  refine Ctr_of_W (N := 10) (vs0 := [(.agg #[(.slice _A_a a.length _C_a)]), (.agg #[(.slice _A_b b.length _C_b)])]) Tryz.func78 rfl rfl rfl ?_
  refine W_seq fun _K_1 _hK_1 => ?_
  refine W_region ?_
  refine WL_s rfl rfl ?_
  refine s_box rfl fun _b2 _w_2 _m2 _cw_2 _e2 => ?_
  have _cw_2z := _cw_2.size
  have E := E.trans _cw_2
  have _z2 := _m2.lt
  replace _m2 : Blk _w_2 _b2 26 [(.slice _A_a a.length _C_a)] := _m2
  refine WL_s rfl rfl ?_
  refine s_box rfl fun _b3 _w_3 _m3 _cw_3 _e3 => ?_
  have _cw_3z := _cw_3.size
  have E := E.trans _cw_3
  have _z3 := _m3.lt
  replace _m3 : Blk _w_3 _b3 26 [(.slice _A_b b.length _C_b)] := _m3
  refine WL_step rfl rfl (r_assign rfl) ?_
  refine WL_nil ?_
  refine thn_nrm (_hK_1 _ _ ?_)
  clear _hK_1
  refine W_seq fun _K_4 _hK_4 => ?_
  refine W_region ?_
  refine WL_step rfl rfl (r_fieldAddr fa26_0 rfl) ?_
  have _f_5 := (_m2.ch0 _cw_3)
  refine WL_step rfl rfl (r_loadAt _f_5.at_ agg24 rfl rfl) ?_
  refine WL_step rfl rfl (r_fieldAddr fa26_0 rfl) ?_
  refine WL_step rfl rfl (r_loadAt _m3.at_ agg24 rfl rfl) ?_
  refine WL_s rfl rfl ?_
  have _f_6 := ((_h_a.ch0 _cw_2).ch0 _cw_3)
  have _f_7 := ((_h_b.ch0 _cw_2).ch0 _cw_3)
  refine Step.call (r_call (xs := [.tmp 6, .tmp 8]) fk86 rfl) (c_slices_Equal_impl_Token_impl_Token _f_6 _f_7 ) fun _v9 _w_8 _q9 => ?_
  obtain ⟨rfl, _cw_8⟩ := _q9
  have _cw_8z := _cw_8.size
  have E := E.trans _cw_8
  refine WL_step rfl rfl (r_assign rfl) ?_
  refine WL_nil ?_
  refine thn_nrm (_hK_4 _ _ ?_)
  clear _hK_4
  refine W_ret ?_
  exact ret_intro [_] ⟨rfl, trivial⟩ ⟨congrArg Value.bool rfl, E⟩

/-- impl.UnionExpr -/
theorem c_impl_UnionExpr {w : World} {LL_a _B_a : Nat} {_v_a : Value} {a : List Token} (_h_a : Ls Token.cs 4 w LL_a _B_a _v_a a) {LL_b _B_b : Nat} {_v_b : Value} {b : List Token} (_h_b : Ls Token.cs 4 w LL_b _B_b _v_b b) (hb : a.length + b.length ≤ 1048576) :
    Ctr Tryz.prog 57 #[(.agg #[_v_a]), (.agg #[_v_b])] w (fun v w' => ∃ u, v = .agg #[u] ∧ Ol Token.cs 52 4 w' u (uniE a b) ∧ Lo w.heap.size u ∧ Ch [] w w') := by
  obtain ⟨_A_a, _C_a, _e1_a⟩ := _h_a.val
  subst _e1_a
  have _l_a := _h_a.len
  have _h_a := _h_a.here (by decide)
  obtain ⟨_A_b, _C_b, _e1_b⟩ := _h_b.val
  subst _e1_b
  have _l_b := _h_b.len
  have _h_b := _h_b.here (by decide)
  have E := Ch.refl [] w
  refine Ctr_of_W (N := 25) (vs0 := [(.agg #[(.slice _A_a a.length _C_a)]), (.agg #[(.slice _A_b b.length _C_b)])]) Tryz.func57 rfl rfl rfl ?_
  refine W_seq fun _K_1 _hK_1 => ?_
  refine W_region ?_
  refine WL_s rfl rfl ?_
  refine s_box rfl fun _b2 _w_2 _m2 _cw_2 _e2 => ?_
  have _cw_2z := _cw_2.size
  have E := E.trans _cw_2
  have _z2 := _m2.lt
  replace _m2 : Blk _w_2 _b2 26 [(.slice _A_a a.length _C_a)] := _m2
  refine WL_s rfl rfl ?_
  refine s_box rfl fun _b3 _w_3 _m3 _cw_3 _e3 => ?_
  have _cw_3z := _cw_3.size
  have E := E.trans _cw_3
  have _z3 := _m3.lt
  replace _m3 : Blk _w_3 _b3 26 [(.slice _A_b b.length _C_b)] := _m3
  refine WL_s rfl rfl ?_
  refine s_alloc zr26 fun _b4 _w_4 _m4 _cw_4 _e4 => ?_
  have _cw_4z := _cw_4.size
  have E := E.trans _cw_4
  have _z4 := _m4.lt
  replace _m4 : Blk _w_4 _b4 26 [(.slice none 0 0)] := _m4
  refine WL_nil ?_
  refine thn_nrm (_hK_1 _ _ ?_)
  clear _hK_1
  refine W_seq fun _K_5 _hK_5 => ?_
  refine W_block ?_
  refine W_seq fun _K_6 _hK_6 => ?_
  refine W_region ?_
  have _f_7 := ((_m2.ch0 _cw_3).ch0 _cw_4)
  refine WL_step rfl rfl (r_loadAtA0 _f_7.at_ agg26 sz26 rfl) ?_
  refine WL_s rfl rfl ?_
  have _f_8 := (((_h_a.ch0 _cw_2).ch0 _cw_3).ch0 _cw_4)
  refine Step.call (r_call (xs := [.tmp 6, .const (Go.Value.int Go.IntKind.i64 1)]) fk75 rfl) (c_impl_alone _f_8 _ ) fun _v7 _w_9 _q7 => ?_
  obtain ⟨rfl, _cw_9⟩ := _q7
  have _cw_9z := _cw_9.size
  have E := E.trans _cw_9
  refine WL_step rfl rfl (r_move rfl) ?_
  refine WL_split (d := 8) rfl (fun _h8 => ?_) (fun _h8 => ?_)
  · have _kb_10 := _h8
    refine WL_skip rfl rfl ?_
    refine WL_skip rfl rfl ?_
    refine WL_skip rfl rfl ?_
    refine WL_step rfl rfl (r_pickT rfl rfl) ?_
    refine WL_step rfl rfl (r_assign rfl) ?_
    refine WL_nil ?_
    refine thn_nrm (_hK_6 _ _ ?_)
    clear _hK_6
    refine W_condT rfl ?_
    refine W_seq fun _K_11 _hK_11 => ?_
    refine W_region ?_
    have _f_12 := ((_m3.ch0 _cw_4).ch0 _cw_9)
    refine WL_step rfl rfl (r_loadAtA0 _f_12.at_ agg26 sz26 rfl) ?_
    refine WL_s rfl rfl ?_
    have _f_13 := ((((_h_b.ch0 _cw_2).ch0 _cw_3).ch0 _cw_4).ch0 _cw_9)
    refine Step.call (r_call (xs := [.tmp 13]) fk29 rfl) (c_impl_copyExpr _f_13 (by omega)) fun _v14 _w_14 _q14 => ?_
    obtain ⟨_u14, rfl, _q14, _lo14, _cw_14⟩ := _q14
    have _cw_14z := _cw_14.size
    have E := E.trans _cw_14
    obtain ⟨_Au14, _Cu14, _eu14⟩ := _q14.val
    subst _eu14
    have _lu14 := _q14.len
    have _hiu14 := _q14.lt
    refine WL_s rfl rfl ?_
    have _f_15 := ((_m4.ch0 _cw_9).ch0 _cw_14)
    refine s_storeA (off := 0) 1 _f_15 sz26 rfl (us := [(.slice _Au14 (b).length _Cu14)]) rfl rfl rfl rfl fun _w_16 _m_17 _cw_16 => ?_
    have _cw_16z := _cw_16.size
    have E := E.step _cw_16 (fun i hi => .inl (by have _h1 := List.mem_singleton.1 hi; omega))
    replace _m_17 : Blk _w_16 _b4 26 [(.slice _Au14 (b).length _Cu14)] := _m_17
    refine WL_nil ?_
    refine thn_nrm (_hK_11 _ _ ?_)
    clear _hK_11
    refine W_ret (inB_ret (thn_ret ?_))
    clear _hK_5
    have _f_19 := (_q14.ch _cw_16 (fun g hg hm => by have _h0 := List.mem_singleton.1 hm; have _h2 := _lo14 _ hg; have _h3 := _hiu14 _ hg; omega))
    have _o_18 : Ol Token.cs 52 4 _w_16 (.slice _Au14 (b).length _Cu14) (uniE a b) := by
      have hx := _f_19
      (unfold uniE; simp_all)
    exact ret_intro [_] (resOf_loadA _m_17 rfl agg26 sz26 trivial) ⟨_, rfl, _o_18, Lo.down _lo14 (by omega), E⟩
  · have _kb_10 := _h8
    have _f_20 := (_f_7.ch0 _cw_9)
    refine WL_step rfl rfl (r_loadAtA0 _f_20.at_ agg26 sz26 rfl) ?_
    have _f_21 := ((_m3.ch0 _cw_4).ch0 _cw_9)
    refine WL_step rfl rfl (r_loadAtA0 _f_21.at_ agg26 sz26 rfl) ?_
    refine WL_s rfl rfl ?_
    have _f_22 := (_f_8.ch0 _cw_9)
    have _f_23 := ((((_h_b.ch0 _cw_2).ch0 _cw_3).ch0 _cw_4).ch0 _cw_9)
    refine Step.call (r_call (xs := [.tmp 9, .tmp 10]) fk78 rfl) (c_impl_EqualExprs _f_22 _f_23 ) fun _v11 _w_24 _q11 => ?_
    obtain ⟨rfl, _cw_24⟩ := _q11
    have _cw_24z := _cw_24.size
    have E := E.trans _cw_24
    refine WL_step rfl rfl (r_pickF rfl rfl) ?_
    refine WL_step rfl rfl (r_assign rfl) ?_
    refine WL_nil ?_
    refine thn_nrm (_hK_6 _ _ ?_)
    clear _hK_6
    refine W_cond rfl (fun _h5 => ?_) (fun _h5 => ?_)
    · have _kb_25 := _h5
      have _h5 := bt_d _h5
      refine W_seq fun _K_26 _hK_26 => ?_
      refine W_region ?_
      have _f_27 := (_f_21.ch0 _cw_24)
      refine WL_step rfl rfl (r_loadAtA0 _f_27.at_ agg26 sz26 rfl) ?_
      refine WL_s rfl rfl ?_
      have _f_28 := (_f_23.ch0 _cw_24)
      refine Step.call (r_call (xs := [.tmp 13]) fk29 rfl) (c_impl_copyExpr _f_28 (by omega)) fun _v14 _w_29 _q14 => ?_
      obtain ⟨_u14, rfl, _q14, _lo14, _cw_29⟩ := _q14
      have _cw_29z := _cw_29.size
      have E := E.trans _cw_29
      obtain ⟨_Au14, _Cu14, _eu14⟩ := _q14.val
      subst _eu14
      have _lu14 := _q14.len
      have _hiu14 := _q14.lt
      refine WL_s rfl rfl ?_
      have _f_30 := (((_m4.ch0 _cw_9).ch0 _cw_24).ch0 _cw_29)
      refine s_storeA (off := 0) 1 _f_30 sz26 rfl (us := [(.slice _Au14 (b).length _Cu14)]) rfl rfl rfl rfl fun _w_31 _m_32 _cw_31 => ?_
      have _cw_31z := _cw_31.size
      have E := E.step _cw_31 (fun i hi => .inl (by have _h1 := List.mem_singleton.1 hi; omega))
      replace _m_32 : Blk _w_31 _b4 26 [(.slice _Au14 (b).length _Cu14)] := _m_32
      refine WL_nil ?_
      refine thn_nrm (_hK_26 _ _ ?_)
      clear _hK_26
      refine W_ret (inB_ret (thn_ret ?_))
      clear _hK_5
      have _f_34 := (_q14.ch _cw_31 (fun g hg hm => by have _h0 := List.mem_singleton.1 hm; have _h2 := _lo14 _ hg; have _h3 := _hiu14 _ hg; omega))
      have _o_33 : Ol Token.cs 52 4 _w_31 (.slice _Au14 (b).length _Cu14) (uniE a b) := by
        have hx := _f_34
        (unfold uniE; simp_all)
      exact ret_intro [_] (resOf_loadA _m_32 rfl agg26 sz26 trivial) ⟨_, rfl, _o_33, Lo.down _lo14 (by omega), E⟩
    · have _kb_25 := _h5
      have _h5 := bf_d _h5
      refine W_seq fun _K_35 _hK_35 => ?_
      refine W_region ?_
      have _f_36 := (_f_21.ch0 _cw_24)
      refine WL_step rfl rfl (r_loadAtA0 _f_36.at_ agg26 sz26 rfl) ?_
      refine WL_s rfl rfl ?_
      have _f_37 := (_f_23.ch0 _cw_24)
      refine Step.call (r_call (xs := [.tmp 16, .const (Go.Value.int Go.IntKind.i64 1)]) fk75 rfl) (c_impl_alone _f_37 _ ) fun _v17 _w_38 _q17 => ?_
      obtain ⟨rfl, _cw_38⟩ := _q17
      have _cw_38z := _cw_38.size
      have E := E.trans _cw_38
      refine WL_step rfl rfl (r_assign rfl) ?_
      refine WL_nil ?_
      refine thn_nrm (_hK_35 _ _ ?_)
      clear _hK_35
      refine W_cond rfl (fun _h15 => ?_) (fun _h15 => ?_)
      · have _kb_39 := _h15
        refine W_seq fun _K_40 _hK_40 => ?_
        refine W_region ?_
        have _f_41 := ((_f_20.ch0 _cw_24).ch0 _cw_38)
        refine WL_step rfl rfl (r_loadAtA0 _f_41.at_ agg26 sz26 rfl) ?_
        refine WL_s rfl rfl ?_
        have _f_42 := ((_f_22.ch0 _cw_24).ch0 _cw_38)
        refine Step.call (r_call (xs := [.tmp 18]) fk29 rfl) (c_impl_copyExpr _f_42 (by omega)) fun _v19 _w_43 _q19 => ?_
        obtain ⟨_u19, rfl, _q19, _lo19, _cw_43⟩ := _q19
        have _cw_43z := _cw_43.size
        have E := E.trans _cw_43
        obtain ⟨_Au19, _Cu19, _eu19⟩ := _q19.val
        subst _eu19
        have _lu19 := _q19.len
        have _hiu19 := _q19.lt
        refine WL_s rfl rfl ?_
        have _f_44 := ((((_m4.ch0 _cw_9).ch0 _cw_24).ch0 _cw_38).ch0 _cw_43)
        refine s_storeA (off := 0) 1 _f_44 sz26 rfl (us := [(.slice _Au19 (a).length _Cu19)]) rfl rfl rfl rfl fun _w_45 _m_46 _cw_45 => ?_
        have _cw_45z := _cw_45.size
        have E := E.step _cw_45 (fun i hi => .inl (by have _h1 := List.mem_singleton.1 hi; omega))
        replace _m_46 : Blk _w_45 _b4 26 [(.slice _Au19 (a).length _Cu19)] := _m_46
        refine WL_nil ?_
        refine thn_nrm (_hK_40 _ _ ?_)
        clear _hK_40
        refine W_ret (inB_ret (thn_ret ?_))
        clear _hK_5
        have _f_48 := (_q19.ch _cw_45 (fun g hg hm => by have _h0 := List.mem_singleton.1 hm; have _h2 := _lo19 _ hg; have _h3 := _hiu19 _ hg; omega))
        have _o_47 : Ol Token.cs 52 4 _w_45 (.slice _Au19 (a).length _Cu19) (uniE a b) := by
          have hx := _f_48
          (unfold uniE; simp_all)
        exact ret_intro [_] (resOf_loadA _m_46 rfl agg26 sz26 trivial) ⟨_, rfl, _o_47, Lo.down _lo19 (by omega), E⟩
      · have _kb_39 := _h15
        refine W_skip ?_
        refine inB_nrm ?_
        refine thn_nrm (_hK_5 _ _ ?_)
        clear _hK_5
        refine W_seq fun _K_49 _hK_49 => ?_
        refine W_region ?_
        refine WL_step rfl rfl (r_build (parts := [(0, .const (Go.Value.int Go.IntKind.i64 5))]) (cells := [(.int .i64 5), (.int .i64 0), (.int .i64 0), (.int .i64 0)]) zr52 pl52 rfl rfl) ?_
        have _f_50 := ((_f_20.ch0 _cw_24).ch0 _cw_38)
        refine WL_step rfl rfl (r_loadAtA0 _f_50.at_ agg26 sz26 rfl) ?_
        have _f_51 := (_f_36.ch0 _cw_38)
        refine WL_step rfl rfl (r_loadAtA0 _f_51.at_ agg26 sz26 rfl) ?_
        refine WL_s rfl rfl ?_
        refine s_buildSlice (cs := Sv.cs) (parts := [(0, .tmp 21), (1, .tmp 22)]) (⟨none, 0, 0⟩ : Sv) [(⟨_A_a, a.length, _C_a⟩ : Sv), (⟨_A_b, b.length, _C_b⟩ : Sv)] el97 sz26 zr26 Sv.len (by decide) rfl rfl rfl (by decide) (by decide) rfl fun _v23 _w_52 _q23 _lo23 _cw_52 => ?_
        have _cw_52z := _cw_52.size
        have E := E.trans _cw_52
        obtain ⟨_Av23, _Cv23, _ev23⟩ := _q23.val
        subst _ev23
        have _lv23 := _q23.len
        have _hiv23 := _q23.lt
        have _f_53 := ((_f_37.ch0 _cw_38).ch0 _cw_52)
        have _f_54 := (((_f_22.ch0 _cw_24).ch0 _cw_38).ch0 _cw_52)
        have _rd23 : Rd Token.cs 4 _w_52 0 _w_52.heap.size ([(⟨_A_a, a.length, _C_a⟩ : Sv), (⟨_A_b, b.length, _C_b⟩ : Sv)]) ([a, b]) := (Rd.cons (_f_54.up (by omega) (by omega)) (Rd.cons (_f_53.up (by omega) (by omega)) Rd.nil))
        refine WL_s rfl rfl ?_
        refine Step.call (r_call (xs := [.tmp 20, .tmp 23]) fk76 rfl) (c_impl_joined ⟨5, 0, 0, 0⟩ _q23.ls _rd23 (by simp <;> omega)) fun _v24 _w_55 _q24 => ?_
        obtain ⟨_u24, rfl, _q24, _lo24, _cw_55⟩ := _q24
        have _cw_55z := _cw_55.size
        have E := E.trans _cw_55
        obtain ⟨_Au24, _Cu24, _eu24⟩ := _q24.val
        subst _eu24
        have _lu24 := _q24.len
        have _hiu24 := _q24.lt
        refine WL_s rfl rfl ?_
        have _f_56 := (((((_m4.ch0 _cw_9).ch0 _cw_24).ch0 _cw_38).ch0 _cw_52).ch0 _cw_55)
        refine s_storeA (off := 0) 1 _f_56 sz26 rfl (us := [(.slice _Au24 (([a, b]).flatten ++ [(⟨5, 0, 0, 0⟩ : Token)]).length _Cu24)]) rfl rfl rfl rfl fun _w_57 _m_58 _cw_57 => ?_
        have _cw_57z := _cw_57.size
        have E := E.step _cw_57 (fun i hi => .inl (by have _h1 := List.mem_singleton.1 hi; omega))
        replace _m_58 : Blk _w_57 _b4 26 [(.slice _Au24 (([a, b]).flatten ++ [(⟨5, 0, 0, 0⟩ : Token)]).length _Cu24)] := _m_58
        refine WL_nil ?_
        refine thn_nrm (_hK_49 _ _ ?_)
        clear _hK_49
        refine W_ret ?_
        have _f_60 := (_q24.ch _cw_57 (fun g hg hm => by have _h0 := List.mem_singleton.1 hm; have _h2 := _lo24 _ hg; have _h3 := _hiu24 _ hg; omega))
        have _o_59 : Ol Token.cs 52 4 _w_57 (.slice _Au24 (([a, b]).flatten ++ [(⟨5, 0, 0, 0⟩ : Token)]).length _Cu24) (uniE a b) := by
          have hx := _f_60
          (unfold uniE; simp_all)
        exact ret_intro [_] (resOf_loadA _m_58 rfl agg26 sz26 trivial) ⟨_, rfl, _o_59, Lo.down _lo24 (by omega), E⟩

/-- impl.tree).collect -/
theorem c_impl_tree_collect_n : ∀ (n : Nat) {w : World} {LT_x L_out : Nat} {p_x : Addr} {x : Tr} (_h_x : TrAt w LT_x L_out p_x x) {b_out t_out : Nat} {_v_out0 : Value} {out0 : List Token} (m_out : Blk w b_out t_out [_v_out0]) (_lb_out : L_out ≤ b_out) (_h_out0 : Ol Token.cs 52 4 w _v_out0 out0) (_nb_out0 : b_out ∉ bl _v_out0) (_ll_out0 : Lo L_out _v_out0) (hb : out0.length + x.sz ≤ 4194304) (hsz : x.sz < n),
    Ctr Tryz.prog 77 #[(.pointer (some p_x)), (.pointer (some ⟨b_out, 0, none⟩))] w (fun v w' => ∃ (zout0 : Value), v = .tuple #[] ∧ Blk w' b_out t_out [zout0] ∧ Ol Token.cs 52 4 w' zout0 (out0 ++ x.flat) ∧ (∀ g ∈ bl zout0, w.heap.size ≤ g ∨ g ∈ (b_out :: bl _v_out0)) ∧ b_out ∉ bl zout0 ∧ Ch (b_out :: bl _v_out0) w w') := by
  intro n
  induction n with
  | zero => intros; omega
  | succ n ih =>
  intro w LT_x L_out p_x x _h_x b_out t_out _v_out0 out0 m_out _lb_out _h_out0 _nb_out0 _ll_out0 hb hsz
  obtain ⟨_A_x, _C_x, _ps_x, _hc_x, _hk_x, _kd_x⟩ := _h_x.open
  have _kl_x := _kd_x.1
  obtain ⟨_A_out0, _C_out0, _e1_out0⟩ := _h_out0.val
  subst _e1_out0
  have _l_out0 := _h_out0.len
  have _lt_out0 := _h_out0.lt
  have _zb_out := m_out.lt
  have E := Ch.refl (b_out :: bl (.slice _A_out0 out0.length _C_out0)) w
  have k2 := x.kids_le
  refine Ctr_of_W (N := 32) (vs0 := [(.pointer (some p_x)), (.pointer (some ⟨b_out, 0, none⟩))]) Tryz.func77 rfl rfl rfl ?_
  refine W_seq fun _K_1 _hK_1 => ?_
  refine W_seq fun _K_2 _hK_2 => ?_
  refine W_region ?_
  refine WL_step rfl rfl (r_move rfl) ?_
  refine WL_step rfl rfl (r_nilCheck rfl) ?_
  refine WL_step rfl rfl (r_fieldAddr fa67_1 rfl) ?_
  refine WL_step rfl rfl (r_loadAt _hc_x agg63 rfl rfl) ?_
  refine WL_step rfl rfl (r_len (by rw [el63]; rfl) rfl) ?_
  refine WL_step rfl rfl (r_move rfl) ?_
  refine WL_nil ?_
  refine thn_nrm (_hK_2 _ _ ?_)
  clear _hK_2
  refine W_block ?_
  have _oi_3 : Ol Token.cs 52 4 w (.slice _A_out0 out0.length _C_out0) (out0 ++ flats (x.kids.take 0)) := by
    have hx := _h_out0
    simpa [flats] using hx
  refine W_loop (σ := Nat × Value) (fun ⟨i, sv⟩ => [(0, (.pointer (some p_x))), (1, (.pointer (some ⟨b_out, 0, none⟩))), (9, (.slice _A_x _ps_x.length _C_x)), (10, (.int .i64 ((_ps_x.length : Nat) : Int))), (11, (.int .i64 ((i : Nat) : Int)))]) (fun ⟨i, sv⟩ wx => Ch (b_out :: bl (.slice _A_out0 out0.length _C_out0)) w wx ∧ w.heap.size ≤ wx.heap.size ∧ (i ≤ x.kids.length) ∧ Ol Token.cs 52 4 wx sv (out0 ++ flats (x.kids.take i)) ∧ Lo L_out sv ∧ Blk wx b_out t_out [sv] ∧ (∀ g ∈ bl sv, w.heap.size ≤ g ∨ g ∈ (b_out :: bl (.slice _A_out0 out0.length _C_out0))) ∧ (b_out ∉ bl sv)) (fun ⟨i, sv⟩ => x.kids.length - i) (0, (.slice _A_out0 out0.length _C_out0)) (Sub.cons rfl (Sub.cons rfl (Sub.cons rfl (Sub.cons rfl (Sub.cons rfl (Sub.nil _)))))) ⟨E, (Nat.le_refl _), (by omega), _oi_3, _ll_out0, m_out, (fun g hm => by exact (.inr (List.mem_cons_of_mem _ hm))), (fun hm => by exact _nb_out0 (by first | exact hm | exact _h0 ▸ hm))⟩ ?_
  rintro ⟨i, sv⟩ _wr_4 ⟨E, _zz0, hi, _o0_1, _lo0_1, _m0_1, _in0_1_0, _nb0_1⟩
  have _E0h := E
  have _E0hz := _E0h.size
  obtain ⟨Asv, Csv, esv⟩ := _o0_1.val
  subst esv
  have lsv := _o0_1.len
  have hisv := _o0_1.lt
  refine W_seq fun _K_5 _hK_5 => ?_
  refine W_region ?_
  refine WL_step rfl rfl (r_lss rfl rfl) ?_
  refine WL_nil ?_
  refine thn_nrm (_hK_5 _ _ ?_)
  clear _hK_5
  refine W_seq fun _K_6 _hK_6 => ?_
  refine W_cond rfl (fun _h12 => ?_) (fun _h12 => ?_)
  · have _kb_7 := _h12
    have _h12 := bt_d _h12
    refine W_skip ?_
    refine thn_nrm (_hK_6 _ _ ?_)
    clear _hK_6
    refine W_seq fun _K_8 _hK_8 => ?_
    refine W_block ?_
    refine W_seq fun _K_9 _hK_9 => ?_
    refine W_region ?_
    refine WL_s rfl rfl ?_
    have _f_10 := (_hk_x.ch _E0h (fun i hm => by rcases List.mem_cons.1 hm with _h0 | hm; (omega); (have _h1 := _ll_out0 _ hm; have _h2 := _lt_out0 _ hm; omega)))
    refine (s_index _f_10 acs_len el63 sz46 rfl rfl rfl (by omega) fun _p13 _y13 _hy13 _a13 => ?_)
    have _f_11 := (_kd_x.ch _E0h (fun i hm => by rcases List.mem_cons.1 hm with _h0 | hm; (omega); (have _h1 := _ll_out0 _ hm; have _h2 := _lt_out0 _ hm; omega)))
    obtain ⟨_t13, ht13, _tr13⟩ := _f_11.get _hy13
    obtain ⟨_A_13, _C_13, _ps_13, _hc_13, _hk_13, _kd_13⟩ := _tr13.open
    have _kl_13 := _kd_13.1
    replace _a13 : At _wr_4 LT_x L_out _p13 ([(.pointer (some _y13))]) := _a13
    refine WL_step rfl rfl (r_loadAt0 _a13 agg46 rfl rfl) ?_
    refine WL_step rfl rfl (r_assign rfl) ?_
    refine WL_nil ?_
    refine thn_nrm (_hK_9 _ _ ?_)
    clear _hK_9
    refine W_region ?_
    refine WL_step rfl rfl (r_move rfl) ?_
    refine WL_step rfl rfl (r_move rfl) ?_
    refine WL_s rfl rfl ?_
    refine Step.call (r_call (xs := [.tmp 15, .tmp 16]) fk77 rfl) (ih _tr13 _m0_1 (by omega) _o0_1 (fun hm => by exact _nb0_1 (by first | exact hm | exact _h0 ▸ hm)) (Lo.down _lo0_1 (by omega)) (by have _h1 := flats_bd ht13; simp only [List.length_append]; omega) (by have := Tr.kid_sz ht13; omega)) fun _v17 _w_12 _q17 => ?_
    obtain ⟨_z17_0, rfl, _m17, _qz17_0, _inz17_0, _nbz17_0, _cw_12⟩ := _q17
    have _cw_12z := _cw_12.size
    have E := E.step _cw_12 (fun i hm => by rcases List.mem_cons.1 hm with _h0 | hm; (right; exact _h0 ▸ List.mem_cons_self ..); (exact _in0_1_0 _ hm))
    obtain ⟨Az17_0, Cz17_0, ez17_0⟩ := _qz17_0.val
    subst ez17_0
    have lz17_0 := _qz17_0.len
    have hiz17_0 := _qz17_0.lt
    have _loz17_0 : Lo L_out (.slice Az17_0 ((out0 ++ flats (x.kids.take i)) ++ _t13.flat).length Cz17_0) := loOld _inz17_0 _nbz17_0 (by omega) _lo0_1
    have _inz17q_z17_0 : ∀ g ∈ bl (.slice Az17_0 ((out0 ++ flats (x.kids.take i)) ++ _t13.flat).length Cz17_0), w.heap.size ≤ g ∨ g ∈ (b_out :: bl (.slice _A_out0 out0.length _C_out0)) := inOld (m := w.heap.size) (W := (b_out :: bl (.slice _A_out0 out0.length _C_out0))) _inz17_0 _nbz17_0 (by omega) (fun g hm => _in0_1_0 _ hm)
    replace _m17 : Blk _w_12 b_out t_out [(.slice Az17_0 ((out0 ++ flats (x.kids.take i)) ++ _t13.flat).length Cz17_0)] := _m17
    refine WL_nil ?_
    refine inB_nrm ?_
    refine thn_nrm (_hK_8 _ _ ?_)
    clear _hK_8
    refine W_region ?_
    refine WL_step rfl rfl (r_add (by omega) rfl rfl) ?_
    refine WL_step rfl rfl (r_move rfl) ?_
    refine WL_nil ?_
    have _on_13 : Ol Token.cs 52 4 _w_12 (.slice Az17_0 ((out0 ++ flats (x.kids.take i)) ++ _t13.flat).length Cz17_0) (out0 ++ flats (x.kids.take (i + 1))) := by
      have hx := _qz17_0
      exact hx.eq (by rw [List.append_assoc, ← flats_take ht13])
    exact thn_nrm (Exists.intro ((i + 1), (.slice Az17_0 ((out0 ++ flats (x.kids.take i)) ++ _t13.flat).length Cz17_0)) ⟨⟨E, (by omega), (by omega), _on_13, (Lo.down _loz17_0 (by omega)), _m17, (fun g hm => by exact (_inz17q_z17_0 _ hm)), (fun hm => by exact _nbz17_0 (by first | exact hm | exact _h0 ▸ hm))⟩, Sub.cons rfl (Sub.cons rfl (Sub.cons rfl (Sub.cons rfl (Sub.cons rfl (Sub.nil _))))), (by first | omega | (dsimp only; omega))⟩)
  · have _kb_7 := _h12
    have _h12 := bf_d _h12
    refine W_exit (thn_exit (thn_exit (inB_hit ?_)))
    refine thn_nrm (_hK_1 _ _ ?_)
    clear _hK_1
    refine W_drawC ((bl (.slice Asv (out0 ++ flats (x.kids.take i)).length Csv)) ++ [b_out]) 14 mixed rfl fun _w_14 _cw_14 => ?_
    have _cw_14z := _cw_14.size
    have E := E.trans _cw_14.of_nil
    refine DR_s 0 rfl (by kernel_rfl) rfl rfl (t_v (fun _ => (r_move rfl)) ?_)
    refine DR_s 1 rfl (by kernel_rfl) rfl rfl (t_v (fun _ => (r_move rfl)) ?_)
    refine DR_s 2 rfl (by kernel_rfl) rfl rfl (t_v (fun _ => (r_nilCheck rfl)) ?_)
    refine DR_s 3 rfl (by kernel_rfl) rfl rfl (t_v (fun _ => (r_fieldAddr fa26_0 rfl)) ?_)
    refine DR_s 5 rfl (by kernel_rfl) rfl rfl (t_v (fun _ => (r_move rfl)) ?_)
    refine DR_s 6 rfl (by kernel_rfl) rfl rfl (t_v (fun _ => (r_nilCheck rfl)) ?_)
    refine DR_s 7 rfl (by kernel_rfl) rfl rfl (t_v (fun _ => (r_fieldAddr fa67_0 rfl)) ?_)
    have _f_15 := ((_hc_x.ch _E0h (fun i hm => by rcases List.mem_cons.1 hm with _h0 | hm; (omega); (have _h1 := _ll_out0 _ hm; have _h2 := _lt_out0 _ hm; omega))).ch0 _cw_14)
    refine DR_s 8 rfl (by kernel_rfl) rfl rfl (t_loadAtA 4 _f_15 (fun i hm => by rcases List.mem_append.1 hm with hm | hm; (have _h1 := _lo0_1 _ hm; have _h2 := hisv _ hm; omega); (have _h1 := List.mem_singleton.1 hm; omega)) agg52 sz52 rfl rfl ?_)
    refine DR_two 4 9 (by kernel_rfl) ?_ ?_
    · refine DO_s rfl rfl rfl ?_
      have _f_16 := (_m0_1.ch0 _cw_14)
      refine s_v (r_loadAt _f_16.at_ agg24 rfl rfl) ?_
      refine ⟨(Ch.refl _ _), ?_⟩
      refine DR_one 9 (by kernel_rfl) ?_
      refine DO_s rfl rfl rfl ?_
      refine s_buildSlice (cs := Token.cs) (parts := [(0, .tmp 27)]) (⟨0, 0, 0, 0⟩ : Token) [x.tok] el24 sz52 zr52 Token.len (by decide) rfl rfl rfl (by decide) (by decide) rfl fun _v28 _w_17 _q28 _lo28 _cw_17 => ?_
      have _cw_17z := _cw_17.size
      have E := E.trans _cw_17.of_nil
      obtain ⟨_Av28, _Cv28, _ev28⟩ := _q28.val
      subst _ev28
      have _lv28 := _q28.len
      have _hiv28 := _q28.lt
      have _S_18 : Ch ((bl (.slice Asv (out0 ++ flats (x.kids.take i)).length Csv)) ++ [b_out]) _w_14 _w_17 := ((Ch.refl _ _).trans _cw_17.of_nil)
      refine ⟨_S_18, ?_⟩
      refine DR_one 10 (by kernel_rfl) ?_
      refine DO_s rfl rfl rfl ?_
      have _f_20 := ((_o0_1.ch0 _cw_14).ch0 _cw_17)
      refine s_append (cs := Token.cs) el24 sz52 by52 zr52 rfl (by decide) Token.one _f_20 _q28.ls rfl rfl (by have _h1 := flats_bd2 x i; simp only [List.length_append, List.length_singleton]; omega) (by have _h1 := flats_bd2 x i; simp only [List.length_append, List.length_singleton]; omega) _lo0_1 (by omega) fun _v29 _w_19 _q29 _lo29 _ap29 _cw_19 => ?_
      have _cw_19z := _cw_19.size
      have E := E.step _cw_19 (fun i hm => by exact _in0_1_0 _ hm)
      obtain ⟨_Av29, _Cv29, _ev29⟩ := _q29.val
      subst _ev29
      have _lv29 := _q29.len
      have _hiv29 := _q29.lt
      have _S_21 : Ch ((bl (.slice Asv (out0 ++ flats (x.kids.take i)).length Csv)) ++ [b_out]) _w_14 _w_19 := (_S_18.step _cw_19 (fun i hm => by exact .inr (List.mem_append_left _ hm)))
      refine ⟨_S_21, ?_⟩
      refine DR_s 11 rfl (by kernel_rfl) rfl rfl (t_v (fun _ => (r_nilCheck rfl)) ?_)
      refine DR_s 12 rfl (by kernel_rfl) rfl rfl (t_v (fun _ => (r_fieldAddr fa26_0 rfl)) ?_)
      refine DR_one 13 (by kernel_rfl) ?_
      refine DO_s rfl rfl rfl ?_
      have _f_22 := ((_f_16.ch0 _cw_17).ch _cw_19 (fun hm => by exact _nb0_1 (by first | exact hm | exact _h0 ▸ hm)))
      refine s_store1 (off := 0) _f_22 sz24 rfl rfl rfl rfl fun _w_23 _m_24 _cw_23 => ?_
      have _cw_23z := _cw_23.size
      have E := E.step _cw_23 (fun i hm => by have _h0 := List.mem_singleton.1 hm; right; exact _h0 ▸ List.mem_cons_self ..)
      replace _m_24 : Blk _w_23 b_out t_out [(.slice _Av29 ((out0 ++ flats (x.kids.take i) ++ [x.tok])).length _Cv29)] := _m_24
      have _S_25 : Ch ((bl (.slice Asv (out0 ++ flats (x.kids.take i)).length Csv)) ++ [b_out]) _w_14 _w_23 := (_S_21.step _cw_23 (fun i hm => by have _h0 := List.mem_singleton.1 hm; exact .inr (by rw [_h0]; exact (List.mem_append_right _ (List.mem_singleton.2 rfl)))))
      refine ⟨_S_25, ?_⟩
      refine DR_done (by kernel_rfl) ?_
      clear _hK_6
      have _f_26 := (_q29.ch _cw_23 (fun g hg hm => by have _h0 := List.mem_singleton.1 hm; rcases _ap29 with ea | ea; (rw [ea] at hg; exact _nb0_1 (by first | exact hg | exact _h0 ▸ hg)); (rw [ea] at hg; have _z1 := List.mem_singleton.1 hg; omega)))
      have _o_27 : Ol Token.cs 52 4 _w_23 (.slice _Av29 ((out0 ++ flats (x.kids.take i) ++ [x.tok])).length _Cv29) (out0 ++ x.flat) := by
        have hx := _f_26
        exact hx.eq (by rw [List.append_assoc, flats_all (by omega)])
      exact end_intro [] trivial ⟨(.slice _Av29 ((out0 ++ flats (x.kids.take i) ++ [x.tok])).length _Cv29), rfl, _m_24, _o_27, (fun g hm => by rcases _ap29 with ea | ea; (rw [ea] at hm; exact _in0_1_0 _ hm); (rw [ea] at hm; have _z1 := List.mem_singleton.1 hm; left; omega)), (fun hm => by rcases _ap29 with ea | ea; (rw [ea] at hm; exact _nb0_1 (by first | exact hm | exact _h0 ▸ hm)); (rw [ea] at hm; have _z1 := List.mem_singleton.1 hm; omega)), E⟩
    · refine DO_s rfl rfl rfl ?_
      refine s_buildSlice (cs := Token.cs) (parts := [(0, .tmp 27)]) (⟨0, 0, 0, 0⟩ : Token) [x.tok] el24 sz52 zr52 Token.len (by decide) rfl rfl rfl (by decide) (by decide) rfl fun _v28 _w_28 _q28 _lo28 _cw_28 => ?_
      have _cw_28z := _cw_28.size
      have E := E.trans _cw_28.of_nil
      obtain ⟨_Av28, _Cv28, _ev28⟩ := _q28.val
      subst _ev28
      have _lv28 := _q28.len
      have _hiv28 := _q28.lt
      have _S_29 : Ch ((bl (.slice Asv (out0 ++ flats (x.kids.take i)).length Csv)) ++ [b_out]) _w_14 _w_28 := ((Ch.refl _ _).trans _cw_28.of_nil)
      refine ⟨_S_29, ?_⟩
      refine DR_one 4 (by kernel_rfl) ?_
      refine DO_s rfl rfl rfl ?_
      have _f_30 := ((_m0_1.ch0 _cw_14).ch0 _cw_28)
      refine s_v (r_loadAt _f_30.at_ agg24 rfl rfl) ?_
      refine ⟨_S_29, ?_⟩
      refine DR_one 10 (by kernel_rfl) ?_
      refine DO_s rfl rfl rfl ?_
      have _f_32 := ((_o0_1.ch0 _cw_14).ch0 _cw_28)
      refine s_append (cs := Token.cs) el24 sz52 by52 zr52 rfl (by decide) Token.one _f_32 _q28.ls rfl rfl (by have _h1 := flats_bd2 x i; simp only [List.length_append, List.length_singleton]; omega) (by have _h1 := flats_bd2 x i; simp only [List.length_append, List.length_singleton]; omega) _lo0_1 (by omega) fun _v29 _w_31 _q29 _lo29 _ap29 _cw_31 => ?_
      have _cw_31z := _cw_31.size
      have E := E.step _cw_31 (fun i hm => by exact _in0_1_0 _ hm)
      obtain ⟨_Av29, _Cv29, _ev29⟩ := _q29.val
      subst _ev29
      have _lv29 := _q29.len
      have _hiv29 := _q29.lt
      have _S_33 : Ch ((bl (.slice Asv (out0 ++ flats (x.kids.take i)).length Csv)) ++ [b_out]) _w_14 _w_31 := (_S_29.step _cw_31 (fun i hm => by exact .inr (List.mem_append_left _ hm)))
      refine ⟨_S_33, ?_⟩
      refine DR_s 11 rfl (by kernel_rfl) rfl rfl (t_v (fun _ => (r_nilCheck rfl)) ?_)
      refine DR_s 12 rfl (by kernel_rfl) rfl rfl (t_v (fun _ => (r_fieldAddr fa26_0 rfl)) ?_)
      refine DR_one 13 (by kernel_rfl) ?_
      refine DO_s rfl rfl rfl ?_
      have _f_34 := (_f_30.ch _cw_31 (fun hm => by exact _nb0_1 (by first | exact hm | exact _h0 ▸ hm)))
      refine s_store1 (off := 0) _f_34 sz24 rfl rfl rfl rfl fun _w_35 _m_36 _cw_35 => ?_
      have _cw_35z := _cw_35.size
      have E := E.step _cw_35 (fun i hm => by have _h0 := List.mem_singleton.1 hm; right; exact _h0 ▸ List.mem_cons_self ..)
      replace _m_36 : Blk _w_35 b_out t_out [(.slice _Av29 ((out0 ++ flats (x.kids.take i) ++ [x.tok])).length _Cv29)] := _m_36
      have _S_37 : Ch ((bl (.slice Asv (out0 ++ flats (x.kids.take i)).length Csv)) ++ [b_out]) _w_14 _w_35 := (_S_33.step _cw_35 (fun i hm => by have _h0 := List.mem_singleton.1 hm; exact .inr (by rw [_h0]; exact (List.mem_append_right _ (List.mem_singleton.2 rfl)))))
      refine ⟨_S_37, ?_⟩
      refine DR_done (by kernel_rfl) ?_
      clear _hK_6
      have _f_38 := (_q29.ch _cw_35 (fun g hg hm => by have _h0 := List.mem_singleton.1 hm; rcases _ap29 with ea | ea; (rw [ea] at hg; exact _nb0_1 (by first | exact hg | exact _h0 ▸ hg)); (rw [ea] at hg; have _z1 := List.mem_singleton.1 hg; omega)))
      have _o_39 : Ol Token.cs 52 4 _w_35 (.slice _Av29 ((out0 ++ flats (x.kids.take i) ++ [x.tok])).length _Cv29) (out0 ++ x.flat) := by
        have hx := _f_38
        exact hx.eq (by rw [List.append_assoc, flats_all (by omega)])
      exact end_intro [] trivial ⟨(.slice _Av29 ((out0 ++ flats (x.kids.take i) ++ [x.tok])).length _Cv29), rfl, _m_36, _o_39, (fun g hm => by rcases _ap29 with ea | ea; (rw [ea] at hm; exact _in0_1_0 _ hm); (rw [ea] at hm; have _z1 := List.mem_singleton.1 hm; left; omega)), (fun hm => by rcases _ap29 with ea | ea; (rw [ea] at hm; exact _nb0_1 (by first | exact hm | exact _h0 ▸ hm)); (rw [ea] at hm; have _z1 := List.mem_singleton.1 hm; omega)), E⟩
theorem c_impl_tree_collect {w : World} {LT_x L_out : Nat} {p_x : Addr} {x : Tr} (_h_x : TrAt w LT_x L_out p_x x) {b_out t_out : Nat} {_v_out0 : Value} {out0 : List Token} (m_out : Blk w b_out t_out [_v_out0]) (_lb_out : L_out ≤ b_out) (_h_out0 : Ol Token.cs 52 4 w _v_out0 out0) (_nb_out0 : b_out ∉ bl _v_out0) (_ll_out0 : Lo L_out _v_out0) (hb : out0.length + x.sz ≤ 4194304) :
    Ctr Tryz.prog 77 #[(.pointer (some p_x)), (.pointer (some ⟨b_out, 0, none⟩))] w (fun v w' => ∃ (zout0 : Value), v = .tuple #[] ∧ Blk w' b_out t_out [zout0] ∧ Ol Token.cs 52 4 w' zout0 (out0 ++ x.flat) ∧ (∀ g ∈ bl zout0, w.heap.size ≤ g ∨ g ∈ (b_out :: bl _v_out0)) ∧ b_out ∉ bl zout0 ∧ Ch (b_out :: bl _v_out0) w w') := c_impl_tree_collect_n _ _h_x m_out _lb_out _h_out0 _nb_out0 _ll_out0 hb (Nat.lt_succ_self _)

/-- impl.tree).expr -/
theorem c_impl_tree_expr {w : World} {LT_x _B_x : Nat} {p_x : Addr} {x : Tr} (_h_x : TrAt w LT_x _B_x p_x x) (hb : x.sz ≤ 4194304) :
    Ctr Tryz.prog 56 #[(.pointer (some p_x))] w (fun v w' => ∃ u, v = .agg #[u] ∧ Ol Token.cs 52 4 w' u (x.flat) ∧ Lo w.heap.size u ∧ Ch [] w w') := by
  have _h_x := _h_x.here
  obtain ⟨_A_x, _C_x, _ps_x, _hc_x, _hk_x, _kd_x⟩ := _h_x.open
  have _kl_x := _kd_x.1
  have E := Ch.refl [] w
  refine Ctr_of_W (N := 8) (vs0 := [(.pointer (some p_x))]) Tryz.func56 rfl rfl rfl ?_
  refine W_seq fun _K_1 _hK_1 => ?_
  refine W_region ?_
  refine WL_s rfl rfl ?_
  refine s_alloc zr26 fun _b2 _w_2 _m2 _cw_2 _e2 => ?_
  have _cw_2z := _cw_2.size
  have E := E.trans _cw_2
  have _z2 := _m2.lt
  replace _m2 : Blk _w_2 _b2 26 [(.slice none 0 0)] := _m2
  refine WL_nil ?_
  refine thn_nrm (_hK_1 _ _ ?_)
  clear _hK_1
  refine W_seq fun _K_3 _hK_3 => ?_
  refine W_region ?_
  refine WL_step rfl rfl (r_build (parts := []) (cells := [(.slice none 0 0)]) zr26 pl26 rfl rfl) ?_
  refine WL_s rfl rfl ?_
  refine s_alloc zr26 fun _b3 _w_4 _m3 _cw_4 _e3 => ?_
  have _cw_4z := _cw_4.size
  have E := E.trans _cw_4
  have _z3 := _m3.lt
  replace _m3 : Blk _w_4 _b3 26 [(.slice none 0 0)] := _m3
  refine WL_s rfl rfl ?_
  refine s_storeA (off := 0) 1 _m3 sz26 rfl (us := [(.slice none 0 0)]) rfl rfl rfl rfl fun _w_5 _m_6 _cw_5 => ?_
  have _cw_5z := _cw_5.size
  have E := E.step _cw_5 (fun i hi => .inl (by have _h1 := List.mem_singleton.1 hi; omega))
  replace _m_6 : Blk _w_5 _b3 26 [(.slice none 0 0)] := _m_6
  refine WL_nil ?_
  refine thn_nrm (_hK_3 _ _ ?_)
  clear _hK_3
  refine W_seq fun _K_7 _hK_7 => ?_
  refine W_region ?_
  refine WL_step rfl rfl (r_move rfl) ?_
  refine WL_s rfl rfl ?_
  have _f_8 := (((_h_x.ch0 _cw_2).ch0 _cw_4).ch _cw_5 (fun i hi => by have _h1 := List.mem_singleton.1 hi; omega))
  refine Step.call (r_call (xs := [.tmp 5, .tmp 3]) fk77 rfl) (c_impl_tree_collect _f_8 _m_6 (by omega) (Ol.nil (cs := Token.cs) (e := 52) (k := 4) _w_5) (fun hm => by cases hm) (Lo.nil _) (by simp only [List.length_nil]; omega)) fun _v6 _w_9 _q6 => ?_
  obtain ⟨_z6_0, rfl, _m6, _qz6_0, _inz6_0, _nbz6_0, _cw_9⟩ := _q6
  have _cw_9z := _cw_9.size
  have E := E.step _cw_9 (fun i hm => .inl (by rcases List.mem_cons.1 hm with _h0 | hm; (omega); (cases hm)))
  obtain ⟨Az6_0, Cz6_0, ez6_0⟩ := _qz6_0.val
  subst ez6_0
  have lz6_0 := _qz6_0.len
  have hiz6_0 := _qz6_0.lt
  have _loz6_0 : Lo _w_5.heap.size (.slice Az6_0 ([] ++ x.flat).length Cz6_0) := loOld _inz6_0 _nbz6_0 (by omega) (fun g hm => by cases hm)
  have _nbz6q_z6_0_b2 := nbOld _inz6_0 _nbz6_0 (show _b2 < _ by omega) (fun hm => by cases hm)
  replace _m6 : Blk _w_9 _b3 26 [(.slice Az6_0 ([] ++ x.flat).length Cz6_0)] := _m6
  refine WL_nil ?_
  refine thn_nrm (_hK_7 _ _ ?_)
  clear _hK_7
  refine W_seq fun _K_10 _hK_10 => ?_
  refine W_region ?_
  refine WL_step rfl rfl (r_loadAtA0 _m6.at_ agg26 sz26 rfl) ?_
  refine WL_s rfl rfl ?_
  have _f_11 := (((_m2.ch0 _cw_4).ch _cw_5 (fun hm => by have _h1 := List.mem_singleton.1 hm; omega)).ch _cw_9 (fun hm => by rcases List.mem_cons.1 hm with _h0 | hm; (omega); (cases hm)))
  refine s_storeA (off := 0) 1 _f_11 sz26 rfl (us := [(.slice Az6_0 ([] ++ x.flat).length Cz6_0)]) rfl rfl rfl rfl fun _w_12 _m_13 _cw_12 => ?_
  have _cw_12z := _cw_12.size
  have E := E.step _cw_12 (fun i hi => .inl (by have _h1 := List.mem_singleton.1 hi; omega))
  replace _m_13 : Blk _w_12 _b2 26 [(.slice Az6_0 ([] ++ x.flat).length Cz6_0)] := _m_13
  refine WL_nil ?_
  refine thn_nrm (_hK_10 _ _ ?_)
  clear _hK_10
  refine W_ret ?_
  have _f_15 := (_qz6_0.ch _cw_12 (fun g hg hm => by have _h0 := List.mem_singleton.1 hm; exact _nbz6q_z6_0_b2 (by first | exact hg | exact _h0 ▸ hg)))
  have _o_14 : Ol Token.cs 52 4 _w_12 (.slice Az6_0 ([] ++ x.flat).length Cz6_0) (x.flat) := by
    have hx := _f_15
    simpa using hx
  exact ret_intro [_] (resOf_loadA _m_13 rfl agg26 sz26 trivial) ⟨_, rfl, _o_14, Lo.down _loz6_0 (by omega), E⟩

/-- impl.tree).nullable -/
theorem c_impl_tree_nullable_n : ∀ (n : Nat) {w : World} {LT_x _B_x : Nat} {p_x : Addr} {x : Tr} (_h_x : TrAt w LT_x _B_x p_x x) (hok : Okd x) (hsz : x.sz < n),
    Ctr Tryz.prog 33 #[(.pointer (some p_x))] w (fun v w' => v = .bool (nullT x) ∧ Ch [] w w') := by
  intro n
  induction n with
  | zero => intros; omega
  | succ n ih =>
  intro w LT_x _B_x p_x x _h_x hok hsz
  have _h_x := _h_x.here
  obtain ⟨_A_x, _C_x, _ps_x, _hc_x, _hk_x, _kd_x⟩ := _h_x.open
  have _kl_x := _kd_x.1
  have E := Ch.refl [] w
  have ol := hok.len
  refine Ctr_of_W (N := 64) (vs0 := [(.pointer (some p_x))]) Tryz.func33 rfl rfl rfl ?_
  refine W_seq fun _K_1 _hK_1 => ?_
  refine W_region ?_
  refine WL_step rfl rfl (r_assign rfl) ?_
  refine WL_nil ?_
  refine thn_nrm (_hK_1 _ _ ?_)
  clear _hK_1
  refine W_seq fun _K_2 _hK_2 => ?_
  refine W_seq fun _K_3 _hK_3 => ?_
  refine W_region ?_
  refine WL_step rfl rfl (r_move rfl) ?_
  refine WL_step rfl rfl (r_nilCheck rfl) ?_
  refine WL_step rfl rfl (r_fieldAddr fa67_0 rfl) ?_
  refine WL_step rfl rfl (r_fieldAddrN (n := 0) fa52_0 rfl rfl) ?_
  refine WL_step rfl rfl (r_loadAt _hc_x agg3 rfl rfl) ?_
  refine WL_nil ?_
  refine thn_nrm (_hK_3 _ _ ?_)
  clear _hK_3
  refine W_block ?_
  refine W_seq fun _K_4 _hK_4 => ?_
  refine W_seq fun _K_5 _hK_5 => ?_
  refine W_region ?_
  refine WL_step rfl rfl (r_eql rfl rfl) ?_
  refine WL_step rfl rfl (r_assign rfl) ?_
  refine WL_nil ?_
  refine thn_nrm (_hK_5 _ _ ?_)
  clear _hK_5
  refine W_cond rfl (fun _h8 => ?_) (fun _h8 => ?_)
  · have _kb_6 := _h8
    have _h8 := bt_d _h8
    refine W_skip ?_
    refine thn_nrm (_hK_4 _ _ ?_)
    clear _hK_4
    refine W_condTk rfl _kb_6 ?_
    refine W_seq fun _K_7 _hK_7 => ?_
    refine W_region ?_
    refine WL_step rfl rfl (r_assign rfl) ?_
    refine WL_nil ?_
    refine thn_nrm (_hK_7 _ _ ?_)
    clear _hK_7
    refine W_ret (inB_ret (thn_ret ?_))
    clear _hK_2
    exact ret_intro [_] ⟨rfl, trivial⟩ ⟨congrArg Value.bool (by first | exact null26 hok (by omega) | exact null0 hok (by omega) | exact null4f hok (by omega) ht17 _h20 | exact null4t hok (by omega) ht17 ht25 _h20 | exact null5t hok (by omega) ht35 _h38 | exact null5f hok (by omega) ht35 ht43 _h38 | exact null7t hok (by omega) (by omega) | exact null7f hok (by omega) ht60 (by omega)), E⟩
  · have _kb_6 := _h8
    have _h8 := bf_d _h8
    refine W_region ?_
    refine WL_step rfl rfl (r_eql rfl rfl) ?_
    refine WL_step rfl rfl (r_assign rfl) ?_
    refine WL_nil ?_
    refine thn_nrm (_hK_4 _ _ ?_)
    clear _hK_4
    refine W_cond rfl (fun _h8 => ?_) (fun _h8 => ?_)
    · have _kb_8 := _h8
      have _h8 := bt_d _h8
      refine W_seq fun _K_9 _hK_9 => ?_
      refine W_region ?_
      refine WL_step rfl rfl (r_assign rfl) ?_
      refine WL_nil ?_
      refine thn_nrm (_hK_9 _ _ ?_)
      clear _hK_9
      refine W_ret (inB_ret (thn_ret ?_))
      clear _hK_2
      exact ret_intro [_] ⟨rfl, trivial⟩ ⟨congrArg Value.bool (by first | exact null26 hok (by omega) | exact null0 hok (by omega) | exact null4f hok (by omega) ht17 _h20 | exact null4t hok (by omega) ht17 ht25 _h20 | exact null5t hok (by omega) ht35 _h38 | exact null5f hok (by omega) ht35 ht43 _h38 | exact null7t hok (by omega) (by omega) | exact null7f hok (by omega) ht60 (by omega)), E⟩
    · have _kb_8 := _h8
      have _h8 := bf_d _h8
      refine W_seq fun _K_10 _hK_10 => ?_
      refine W_region ?_
      refine WL_step rfl rfl (r_eql rfl rfl) ?_
      refine WL_step rfl rfl (r_assign rfl) ?_
      refine WL_nil ?_
      refine thn_nrm (_hK_10 _ _ ?_)
      clear _hK_10
      refine W_cond rfl (fun _h11 => ?_) (fun _h11 => ?_)
      · have _kb_11 := _h11
        have _h11 := bt_d _h11
        refine W_seq fun _K_12 _hK_12 => ?_
        refine W_region ?_
        refine WL_step rfl rfl (r_move rfl) ?_
        refine WL_step rfl rfl (r_nilCheck rfl) ?_
        refine WL_step rfl rfl (r_fieldAddr fa67_1 rfl) ?_
        refine WL_step rfl rfl (r_loadAt _hc_x agg63 rfl rfl) ?_
        refine WL_s rfl rfl ?_
        refine (s_index (j := 0) _hk_x acs_len el63 sz46 rfl rfl rfl (by omega) fun _p17 _y17 _hy17 _a17 => ?_)
        obtain ⟨_t17, ht17, _tr17⟩ := _kd_x.get _hy17
        obtain ⟨_A_17, _C_17, _ps_17, _hc_17, _hk_17, _kd_17⟩ := _tr17.open
        have _kl_17 := _kd_17.1
        replace _a17 : At w LT_x w.heap.size _p17 ([(.pointer (some _y17))]) := _a17
        refine WL_step rfl rfl (r_loadAt0 _a17 agg46 rfl rfl) ?_
        refine WL_s rfl rfl ?_
        refine Step.call (r_call (xs := [.tmp 18]) fk33 rfl) (ih _tr17 (hok.kid ht17) (by have := Tr.kid_sz ht17; omega)) fun _v19 _w_13 _q19 => ?_
        obtain ⟨rfl, _cw_13⟩ := _q19
        have _cw_13z := _cw_13.size
        have E := E.trans _cw_13
        refine WL_step rfl rfl (r_move rfl) ?_
        refine WL_split (d := 20) rfl (fun _h20 => ?_) (fun _h20 => ?_)
        · have _kb_14 := _h20
          refine WL_step rfl rfl (r_move rfl) ?_
          refine WL_step rfl rfl (r_nilCheck rfl) ?_
          refine WL_step rfl rfl (r_fieldAddr fa67_1 rfl) ?_
          have _f_15 := (_hc_x.ch0 _cw_13)
          refine WL_step rfl rfl (r_loadAt _f_15 agg63 rfl rfl) ?_
          refine WL_s rfl rfl ?_
          have _f_16 := (_hk_x.ch0 _cw_13)
          refine (s_index (j := 1) _f_16 acs_len el63 sz46 rfl rfl rfl (by omega) fun _p25 _y25 _hy25 _a25 => ?_)
          have _f_17 := (_kd_x.ch0 _cw_13)
          obtain ⟨_t25, ht25, _tr25⟩ := _f_17.get _hy25
          obtain ⟨_A_25, _C_25, _ps_25, _hc_25, _hk_25, _kd_25⟩ := _tr25.open
          have _kl_25 := _kd_25.1
          replace _a25 : At _w_13 LT_x w.heap.size _p25 ([(.pointer (some _y25))]) := _a25
          refine WL_step rfl rfl (r_loadAt0 _a25 agg46 rfl rfl) ?_
          refine WL_s rfl rfl ?_
          refine Step.call (r_call (xs := [.tmp 26]) fk33 rfl) (ih _tr25 (hok.kid ht25) (by have := Tr.kid_sz ht25; omega)) fun _v27 _w_18 _q27 => ?_
          obtain ⟨rfl, _cw_18⟩ := _q27
          have _cw_18z := _cw_18.size
          have E := E.trans _cw_18
          refine WL_step rfl rfl (r_pickT rfl rfl) ?_
          refine WL_step rfl rfl (r_assign rfl) ?_
          refine WL_nil ?_
          refine thn_nrm (_hK_12 _ _ ?_)
          clear _hK_12
          refine W_ret (inB_ret (thn_ret ?_))
          clear _hK_2
          exact ret_intro [_] ⟨rfl, trivial⟩ ⟨congrArg Value.bool (by first | exact null26 hok (by omega) | exact null0 hok (by omega) | exact null4f hok (by omega) ht17 _h20 | exact null4t hok (by omega) ht17 ht25 _h20 | exact null5t hok (by omega) ht35 _h38 | exact null5f hok (by omega) ht35 ht43 _h38 | exact null7t hok (by omega) (by omega) | exact null7f hok (by omega) ht60 (by omega)), E⟩
        · have _kb_14 := _h20
          refine WL_skip rfl rfl ?_
          refine WL_skip rfl rfl ?_
          refine WL_skip rfl rfl ?_
          refine WL_skip rfl rfl ?_
          refine WL_skip rfl rfl ?_
          refine WL_skip rfl rfl ?_
          refine WL_skip rfl rfl ?_
          refine WL_step rfl rfl (r_pickF rfl rfl) ?_
          refine WL_step rfl rfl (r_assign rfl) ?_
          refine WL_nil ?_
          refine thn_nrm (_hK_12 _ _ ?_)
          clear _hK_12
          refine W_ret (inB_ret (thn_ret ?_))
          clear _hK_2
          exact ret_intro [_] ⟨rfl, trivial⟩ ⟨congrArg Value.bool (by first | exact null26 hok (by omega) | exact null0 hok (by omega) | exact null4f hok (by omega) ht17 _h20 | exact null4t hok (by omega) ht17 ht25 _h20 | exact null5t hok (by omega) ht35 _h38 | exact null5f hok (by omega) ht35 ht43 _h38 | exact null7t hok (by omega) (by omega) | exact null7f hok (by omega) ht60 (by omega)), E⟩
      · have _kb_11 := _h11
        have _h11 := bf_d _h11
        refine W_seq fun _K_19 _hK_19 => ?_
        refine W_region ?_
        refine WL_step rfl rfl (r_eql rfl rfl) ?_
        refine WL_step rfl rfl (r_assign rfl) ?_
        refine WL_nil ?_
        refine thn_nrm (_hK_19 _ _ ?_)
        clear _hK_19
        refine W_cond rfl (fun _h29 => ?_) (fun _h29 => ?_)
        · have _kb_20 := _h29
          have _h29 := bt_d _h29
          refine W_seq fun _K_21 _hK_21 => ?_
          refine W_region ?_
          refine WL_step rfl rfl (r_move rfl) ?_
          refine WL_step rfl rfl (r_nilCheck rfl) ?_
          refine WL_step rfl rfl (r_fieldAddr fa67_1 rfl) ?_
          refine WL_step rfl rfl (r_loadAt _hc_x agg63 rfl rfl) ?_
          refine WL_s rfl rfl ?_
          refine (s_index (j := 0) _hk_x acs_len el63 sz46 rfl rfl rfl (by omega) fun _p35 _y35 _hy35 _a35 => ?_)
          obtain ⟨_t35, ht35, _tr35⟩ := _kd_x.get _hy35
          obtain ⟨_A_35, _C_35, _ps_35, _hc_35, _hk_35, _kd_35⟩ := _tr35.open
          have _kl_35 := _kd_35.1
          replace _a35 : At w LT_x w.heap.size _p35 ([(.pointer (some _y35))]) := _a35
          refine WL_step rfl rfl (r_loadAt0 _a35 agg46 rfl rfl) ?_
          refine WL_s rfl rfl ?_
          refine Step.call (r_call (xs := [.tmp 36]) fk33 rfl) (ih _tr35 (hok.kid ht35) (by have := Tr.kid_sz ht35; omega)) fun _v37 _w_22 _q37 => ?_
          obtain ⟨rfl, _cw_22⟩ := _q37
          have _cw_22z := _cw_22.size
          have E := E.trans _cw_22
          refine WL_step rfl rfl (r_move rfl) ?_
          refine WL_split (d := 38) rfl (fun _h38 => ?_) (fun _h38 => ?_)
          · have _kb_23 := _h38
            refine WL_skip rfl rfl ?_
            refine WL_skip rfl rfl ?_
            refine WL_skip rfl rfl ?_
            refine WL_skip rfl rfl ?_
            refine WL_skip rfl rfl ?_
            refine WL_skip rfl rfl ?_
            refine WL_skip rfl rfl ?_
            refine WL_step rfl rfl (r_pickT rfl rfl) ?_
            refine WL_step rfl rfl (r_assign rfl) ?_
            refine WL_nil ?_
            refine thn_nrm (_hK_21 _ _ ?_)
            clear _hK_21
            refine W_ret (inB_ret (thn_ret ?_))
            clear _hK_2
            exact ret_intro [_] ⟨rfl, trivial⟩ ⟨congrArg Value.bool (by first | exact null26 hok (by omega) | exact null0 hok (by omega) | exact null4f hok (by omega) ht17 _h20 | exact null4t hok (by omega) ht17 ht25 _h20 | exact null5t hok (by omega) ht35 _h38 | exact null5f hok (by omega) ht35 ht43 _h38 | exact null7t hok (by omega) (by omega) | exact null7f hok (by omega) ht60 (by omega)), E⟩
          · have _kb_23 := _h38
            refine WL_step rfl rfl (r_move rfl) ?_
            refine WL_step rfl rfl (r_nilCheck rfl) ?_
            refine WL_step rfl rfl (r_fieldAddr fa67_1 rfl) ?_
            have _f_24 := (_hc_x.ch0 _cw_22)
            refine WL_step rfl rfl (r_loadAt _f_24 agg63 rfl rfl) ?_
            refine WL_s rfl rfl ?_
            have _f_25 := (_hk_x.ch0 _cw_22)
            refine (s_index (j := 1) _f_25 acs_len el63 sz46 rfl rfl rfl (by omega) fun _p43 _y43 _hy43 _a43 => ?_)
            have _f_26 := (_kd_x.ch0 _cw_22)
            obtain ⟨_t43, ht43, _tr43⟩ := _f_26.get _hy43
            obtain ⟨_A_43, _C_43, _ps_43, _hc_43, _hk_43, _kd_43⟩ := _tr43.open
            have _kl_43 := _kd_43.1
            replace _a43 : At _w_22 LT_x w.heap.size _p43 ([(.pointer (some _y43))]) := _a43
            refine WL_step rfl rfl (r_loadAt0 _a43 agg46 rfl rfl) ?_
            refine WL_s rfl rfl ?_
            refine Step.call (r_call (xs := [.tmp 44]) fk33 rfl) (ih _tr43 (hok.kid ht43) (by have := Tr.kid_sz ht43; omega)) fun _v45 _w_27 _q45 => ?_
            obtain ⟨rfl, _cw_27⟩ := _q45
            have _cw_27z := _cw_27.size
            have E := E.trans _cw_27
            refine WL_step rfl rfl (r_pickF rfl rfl) ?_
            refine WL_step rfl rfl (r_assign rfl) ?_
            refine WL_nil ?_
            refine thn_nrm (_hK_21 _ _ ?_)
            clear _hK_21
            refine W_ret (inB_ret (thn_ret ?_))
            clear _hK_2
            exact ret_intro [_] ⟨rfl, trivial⟩ ⟨congrArg Value.bool (by first | exact null26 hok (by omega) | exact null0 hok (by omega) | exact null4f hok (by omega) ht17 _h20 | exact null4t hok (by omega) ht17 ht25 _h20 | exact null5t hok (by omega) ht35 _h38 | exact null5f hok (by omega) ht35 ht43 _h38 | exact null7t hok (by omega) (by omega) | exact null7f hok (by omega) ht60 (by omega)), E⟩
        · have _kb_20 := _h29
          have _h29 := bf_d _h29
          refine W_seq fun _K_28 _hK_28 => ?_
          refine W_region ?_
          refine WL_step rfl rfl (r_eql rfl rfl) ?_
          refine WL_step rfl rfl (r_assign rfl) ?_
          refine WL_nil ?_
          refine thn_nrm (_hK_28 _ _ ?_)
          clear _hK_28
          refine W_cond rfl (fun _h47 => ?_) (fun _h47 => ?_)
          · have _kb_29 := _h47
            have _h47 := bt_d _h47
            refine W_seq fun _K_30 _hK_30 => ?_
            refine W_region ?_
            refine WL_step rfl rfl (r_move rfl) ?_
            refine WL_step rfl rfl (r_nilCheck rfl) ?_
            refine WL_step rfl rfl (r_fieldAddr fa67_0 rfl) ?_
            refine WL_step rfl rfl (r_fieldAddrN (n := 2) fa52_2 rfl rfl) ?_
            refine WL_step rfl rfl (r_loadAt _hc_x agg3 rfl rfl) ?_
            refine WL_step rfl rfl (r_eql rfl rfl) ?_
            refine WL_step rfl rfl (r_move rfl) ?_
            refine WL_split (d := 55) rfl (fun _h55 => ?_) (fun _h55 => ?_)
            · have _kb_31 := _h55
              have _h55 := bt_d _h55
              refine WL_skip rfl rfl ?_
              refine WL_skip rfl rfl ?_
              refine WL_skip rfl rfl ?_
              refine WL_skip rfl rfl ?_
              refine WL_skip rfl rfl ?_
              refine WL_skip rfl rfl ?_
              refine WL_skip rfl rfl ?_
              refine WL_step rfl rfl (r_pickT rfl rfl) ?_
              refine WL_step rfl rfl (r_assign rfl) ?_
              refine WL_nil ?_
              refine thn_nrm (_hK_30 _ _ ?_)
              clear _hK_30
              refine W_ret (inB_ret (thn_ret ?_))
              clear _hK_2
              exact ret_intro [_] ⟨rfl, trivial⟩ ⟨congrArg Value.bool (by first | exact null26 hok (by omega) | exact null0 hok (by omega) | exact null4f hok (by omega) ht17 _h20 | exact null4t hok (by omega) ht17 ht25 _h20 | exact null5t hok (by omega) ht35 _h38 | exact null5f hok (by omega) ht35 ht43 _h38 | exact null7t hok (by omega) (by omega) | exact null7f hok (by omega) ht60 (by omega)), E⟩
            · have _kb_31 := _h55
              have _h55 := bf_d _h55
              refine WL_step rfl rfl (r_move rfl) ?_
              refine WL_step rfl rfl (r_nilCheck rfl) ?_
              refine WL_step rfl rfl (r_fieldAddr fa67_1 rfl) ?_
              refine WL_step rfl rfl (r_loadAt _hc_x agg63 rfl rfl) ?_
              refine WL_s rfl rfl ?_
              refine (s_index (j := 0) _hk_x acs_len el63 sz46 rfl rfl rfl (by omega) fun _p60 _y60 _hy60 _a60 => ?_)
              obtain ⟨_t60, ht60, _tr60⟩ := _kd_x.get _hy60
              obtain ⟨_A_60, _C_60, _ps_60, _hc_60, _hk_60, _kd_60⟩ := _tr60.open
              have _kl_60 := _kd_60.1
              replace _a60 : At w LT_x w.heap.size _p60 ([(.pointer (some _y60))]) := _a60
              refine WL_step rfl rfl (r_loadAt0 _a60 agg46 rfl rfl) ?_
              refine WL_s rfl rfl ?_
              refine Step.call (r_call (xs := [.tmp 61]) fk33 rfl) (ih _tr60 (hok.kid ht60) (by have := Tr.kid_sz ht60; omega)) fun _v62 _w_32 _q62 => ?_
              obtain ⟨rfl, _cw_32⟩ := _q62
              have _cw_32z := _cw_32.size
              have E := E.trans _cw_32
              refine WL_step rfl rfl (r_pickF rfl rfl) ?_
              refine WL_step rfl rfl (r_assign rfl) ?_
              refine WL_nil ?_
              refine thn_nrm (_hK_30 _ _ ?_)
              clear _hK_30
              refine W_ret (inB_ret (thn_ret ?_))
              clear _hK_2
              exact ret_intro [_] ⟨rfl, trivial⟩ ⟨congrArg Value.bool (by first | exact null26 hok (by omega) | exact null0 hok (by omega) | exact null4f hok (by omega) ht17 _h20 | exact null4t hok (by omega) ht17 ht25 _h20 | exact null5t hok (by omega) ht35 _h38 | exact null5f hok (by omega) ht35 ht43 _h38 | exact null7t hok (by omega) (by omega) | exact null7f hok (by omega) ht60 (by omega)), E⟩
          · have _kb_29 := _h47
            have _h47 := bf_d _h47
            refine W_skip ?_
            refine inB_nrm ?_
            refine thn_nrm (_hK_2 _ _ ?_)
            clear _hK_2
            refine W_seq fun _K_33 _hK_33 => ?_
            refine W_region ?_
            refine WL_step rfl rfl (r_assign rfl) ?_
            refine WL_nil ?_
            refine thn_nrm (_hK_33 _ _ ?_)
            clear _hK_33
            refine W_ret ?_
            exact ret_intro [_] ⟨rfl, trivial⟩ ⟨congrArg Value.bool (by first | exact null26 hok (by omega) | exact null0 hok (by omega) | exact null4f hok (by omega) ht17 _h20 | exact null4t hok (by omega) ht17 ht25 _h20 | exact null5t hok (by omega) ht35 _h38 | exact null5f hok (by omega) ht35 ht43 _h38 | exact null7t hok (by omega) (by omega) | exact null7f hok (by omega) ht60 (by omega)), E⟩
theorem c_impl_tree_nullable {w : World} {LT_x _B_x : Nat} {p_x : Addr} {x : Tr} (_h_x : TrAt w LT_x _B_x p_x x) (hok : Okd x) :
    Ctr Tryz.prog 33 #[(.pointer (some p_x))] w (fun v w' => v = .bool (nullT x) ∧ Ch [] w w') := c_impl_tree_nullable_n _ _h_x hok (Nat.lt_succ_self _)

end Go.Proofs.YtholldndjafnpaaGreat
