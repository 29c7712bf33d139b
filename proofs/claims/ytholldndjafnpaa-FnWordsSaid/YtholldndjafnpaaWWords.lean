/- Walks of functions that FnWords reaches: what each returns, and that it leaves the memory that was there alone. -/
import Derived.Test.YtholldndjafnpaaLibA
import Derived.Test.YtholldndjafnpaaLibB
import Derived.Test.YtholldndjafnpaaProg
namespace Go.Proofs.Ytholldndjafnpaa
open Go.KLib Go.Shelf
set_option maxHeartbeats 1000000
set_option maxRecDepth 20000
set_option linter.unusedVariables false
set_option linter.unusedSimpArgs false
namespace TWords
theorem agg126 : aggB Try.prog 126 = some true := by kernel_rfl
theorem agg129 : aggB Try.prog 129 = some false := by kernel_rfl
theorem agg189 : aggB Try.prog 189 = some false := by kernel_rfl
theorem agg24 : aggB Try.prog 24 = some false := by kernel_rfl
theorem agg3 : aggB Try.prog 3 = some false := by kernel_rfl
theorem agg30 : aggB Try.prog 30 = some false := by kernel_rfl
theorem agg4 : aggB Try.prog 4 = some false := by kernel_rfl
theorem agg65 : aggB Try.prog 65 = some false := by kernel_rfl
theorem agg67 : aggB Try.prog 67 = some true := by kernel_rfl
theorem by129 : bytesB Try.prog 129 = some 8 := by kernel_rfl
theorem by24 : bytesB Try.prog 24 = some 24 := by kernel_rfl
theorem by3 : bytesB Try.prog 3 = some 8 := by kernel_rfl
theorem by30 : bytesB Try.prog 30 = some 24 := by kernel_rfl
theorem by4 : bytesB Try.prog 4 = some 1 := by kernel_rfl
theorem el189 : elB Try.prog 189 = some 129 := by kernel_rfl
theorem el194 : elB Try.prog 194 = some 24 := by kernel_rfl
theorem el22 : elB Try.prog 22 = some 5 := by kernel_rfl
theorem el24 : elB Try.prog 24 = some 4 := by kernel_rfl
theorem el25 : elB Try.prog 25 = some 30 := by kernel_rfl
theorem el30 : elB Try.prog 30 = some 3 := by kernel_rfl
theorem el65 : elB Try.prog 65 = some 126 := by kernel_rfl
theorem fa126_0 : faB Try.prog 126 0 = some 0 := by kernel_rfl
theorem fa126_1 : faB Try.prog 126 1 = some 1 := by kernel_rfl
theorem fa126_2 : faB Try.prog 126 2 = some 2 := by kernel_rfl
theorem fa126_3 : faB Try.prog 126 3 = some 3 := by kernel_rfl
theorem fa193_0 : faB Try.prog 193 0 = some 0 := by kernel_rfl
theorem fa193_1 : faB Try.prog 193 1 = some 4 := by kernel_rfl
theorem fa67_0 : faB Try.prog 67 0 = some 0 := by kernel_rfl
theorem fk122 : fnB Try.prog 122 = true := by kernel_rfl
theorem fk128 : fnB Try.prog 128 = true := by kernel_rfl
theorem fk129 : fnB Try.prog 129 = true := by kernel_rfl
theorem fk130 : fnB Try.prog 130 = true := by kernel_rfl
theorem fk132 : fnB Try.prog 132 = true := by kernel_rfl
theorem fk145 : fnB Try.prog 145 = true := by kernel_rfl
theorem fk149 : fnB Try.prog 149 = true := by kernel_rfl
theorem fk174 : fnB Try.prog 174 = true := by kernel_rfl
theorem fk175 : fnB Try.prog 175 = true := by kernel_rfl
theorem fk179 : fnB Try.prog 179 = true := by kernel_rfl
theorem fk203 : fnB Try.prog 203 = true := by kernel_rfl
theorem fk204 : fnB Try.prog 204 = true := by kernel_rfl
theorem fk205 : fnB Try.prog 205 = true := by kernel_rfl
theorem fk53 : fnB Try.prog 53 = true := by kernel_rfl
theorem fk78 : fnB Try.prog 78 = true := by kernel_rfl
theorem ist126 : intStructB Try.prog 126 4 = true := by kernel_rfl
theorem mixed : Try.prog.follows .mixedOrders = true := by kernel_rfl
theorem pl126 : placesB Try.prog 126 = some [(0, 1), (1, 1), (2, 1), (3, 1)] := by kernel_rfl
theorem pl193 : placesB Try.prog 193 = some [(0, 4), (4, 1)] := by kernel_rfl
theorem ptr129 : ptrB Try.prog 129 = true := by kernel_rfl
theorem sz126 : sizeB Try.prog 126 = some 4 := by kernel_rfl
theorem sz129 : sizeB Try.prog 129 = some 1 := by kernel_rfl
theorem sz24 : sizeB Try.prog 24 = some 1 := by kernel_rfl
theorem sz3 : sizeB Try.prog 3 = some 1 := by kernel_rfl
theorem sz30 : sizeB Try.prog 30 = some 1 := by kernel_rfl
theorem sz4 : sizeB Try.prog 4 = some 1 := by kernel_rfl
theorem sz67 : sizeB Try.prog 67 = some 1 := by kernel_rfl
theorem zr126 : zeroB Try.prog 126 = some (.agg #[.int .i64 0, .int .i64 0, .int .i64 0, .int .i64 0]) := by kernel_rfl
theorem zr129 : zeroB Try.prog 129 = some (.pointer none) := by kernel_rfl
theorem zr193 : zeroB Try.prog 193 = some (.agg #[.int .i64 0, .int .i64 0, .int .i64 0, .int .i64 0, .slice none 0 0]) := by kernel_rfl
theorem zr24 : zeroB Try.prog 24 = some (.slice none 0 0) := by kernel_rfl
theorem zr3 : zeroB Try.prog 3 = some (.int .i64 0) := by kernel_rfl
theorem zr30 : zeroB Try.prog 30 = some (.slice none 0 0) := by kernel_rfl
theorem zr4 : zeroB Try.prog 4 = some (.bool false) := by kernel_rfl
end TWords
open TWords

/-- impl.within -/
theorem c_impl_within {w : World} (n : Int) (a : Int) (b : Int) :
    Ctr Try.prog 78 #[(.int .i64 n), (.int .i64 a), (.int .i64 b)] w (fun v w' => v = .bool (decide (a ≤ n ∧ n ≤ b)) ∧ Ch [] w w') := by
  have E := Ch.refl [] w
  refine Ctr_of_W (N := 15) (vs0 := [(.int .i64 n), (.int .i64 a), (.int .i64 b)]) Try.func78 rfl rfl rfl ?_
  refine W_seq fun _K_1 _hK_1 => ?_
  refine W_region ?_
  refine WL_step rfl rfl (r_assign rfl) ?_
  refine WL_nil ?_
  refine thn_nrm (_hK_1 _ _ ?_)
  clear _hK_1
  refine W_seq fun _K_2 _hK_2 => ?_
  refine W_region ?_
  refine WL_step rfl rfl (r_move rfl) ?_
  refine WL_step rfl rfl (r_move rfl) ?_
  refine WL_step rfl rfl (r_geq rfl rfl) ?_
  refine WL_step rfl rfl (r_move rfl) ?_
  refine WL_split (d := 10) rfl (fun _h10 => ?_) (fun _h10 => ?_)
  · have _kb_3 := _h10
    have _h10 := bt_d _h10
    refine WL_step rfl rfl (r_move rfl) ?_
    refine WL_step rfl rfl (r_move rfl) ?_
    refine WL_step rfl rfl (r_leq rfl rfl) ?_
    refine WL_step rfl rfl (r_pickT rfl rfl) ?_
    refine WL_step rfl rfl (r_assign rfl) ?_
    refine WL_nil ?_
    refine thn_nrm (_hK_2 _ _ ?_)
    clear _hK_2
    refine W_ret ?_
    exact ret_intro [_] ⟨rfl, trivial⟩ ⟨congrArg Value.bool (by first | rfl | (rw [Bool.eq_iff_iff]; simp <;> omega) | (rw [Bool.eq_iff_iff]; simp_all; done) | simp_all), E⟩
  · have _kb_3 := _h10
    have _h10 := bf_d _h10
    refine WL_skip rfl rfl ?_
    refine WL_skip rfl rfl ?_
    refine WL_skip rfl rfl ?_
    refine WL_step rfl rfl (r_pickF rfl rfl) ?_
    refine WL_step rfl rfl (r_assign rfl) ?_
    refine WL_nil ?_
    refine thn_nrm (_hK_2 _ _ ?_)
    clear _hK_2
    refine W_ret ?_
    exact ret_intro [_] ⟨rfl, trivial⟩ ⟨congrArg Value.bool (by first | rfl | (rw [Bool.eq_iff_iff]; simp <;> omega) | (rw [Bool.eq_iff_iff]; simp_all; done) | simp_all), E⟩

/-- impl.isLetter -/
theorem c_impl_isLetter {w : World} (n : Int) :
    Ctr Try.prog 145 #[(.int .i64 n)] w (fun v w' => v = .bool (decide (0 ≤ n ∧ n ≤ 8)) ∧ Ch [] w w') := by
  have E := Ch.refl [] w
  refine Ctr_of_W (N := 5) (vs0 := [(.int .i64 n)]) Try.func145 rfl rfl rfl ?_
  refine W_seq fun _K_1 _hK_1 => ?_
  refine W_region ?_
  refine WL_step rfl rfl (r_assign rfl) ?_
  refine WL_nil ?_
  refine thn_nrm (_hK_1 _ _ ?_)
  clear _hK_1
  refine W_seq fun _K_2 _hK_2 => ?_
  refine W_region ?_
  refine WL_step rfl rfl (r_move rfl) ?_
  refine WL_s rfl rfl ?_
  refine Step.call (r_call (xs := [.tmp 3, .const (Go.Value.int Go.IntKind.i64 0), .const (Go.Value.int Go.IntKind.i64 8)]) fk78 rfl) (c_impl_within _ _ _ ) fun _v4 _w_3 _q4 => ?_
  obtain ⟨rfl, _cw_3⟩ := _q4
  have _cw_3z := _cw_3.size
  have E := E.trans _cw_3
  refine WL_step rfl rfl (r_assign rfl) ?_
  refine WL_nil ?_
  refine thn_nrm (_hK_2 _ _ ?_)
  clear _hK_2
  refine W_ret ?_
  exact ret_intro [_] ⟨rfl, trivial⟩ ⟨congrArg Value.bool rfl, E⟩

/-- impl.tokenOk -/
theorem c_impl_tokenOk {w : World} (t : Token) :
    Ctr Try.prog 174 #[(.agg #[(.int .i64 t.kind), (.int .i64 t.letter), (.int .i64 t.low), (.int .i64 t.high)])] w (fun v w' => v = .bool (tokOk t) ∧ Ch [] w w') := by
  have E := Ch.refl [] w
  refine Ctr_of_W (N := 48) (vs0 := [(.agg #[(.int .i64 t.kind), (.int .i64 t.letter), (.int .i64 t.low), (.int .i64 t.high)])]) Try.func174 rfl rfl rfl ?_
  refine W_seq fun _K_1 _hK_1 => ?_
  refine W_region ?_
  refine WL_s rfl rfl ?_
  refine s_box rfl fun _b1 _w_2 _m1 _cw_2 _e1 => ?_
  have _cw_2z := _cw_2.size
  have E := E.trans _cw_2
  have _z1 := _m1.lt
  replace _m1 : Blk _w_2 _b1 126 [(.int .i64 t.kind), (.int .i64 t.letter), (.int .i64 t.low), (.int .i64 t.high)] := _m1
  refine WL_step rfl rfl (r_assign rfl) ?_
  refine WL_nil ?_
  refine thn_nrm (_hK_1 _ _ ?_)
  clear _hK_1
  refine W_seq fun _K_3 _hK_3 => ?_
  refine W_seq fun _K_4 _hK_4 => ?_
  refine W_region ?_
  refine WL_step rfl rfl (r_fieldAddr fa126_0 rfl) ?_
  refine WL_step rfl rfl (r_loadAt _m1.at_ agg3 rfl rfl) ?_
  refine WL_nil ?_
  refine thn_nrm (_hK_4 _ _ ?_)
  clear _hK_4
  refine W_block ?_
  refine W_seq fun _K_5 _hK_5 => ?_
  refine W_region ?_
  refine WL_step rfl rfl (r_eql rfl rfl) ?_
  refine WL_step rfl rfl (r_assign rfl) ?_
  refine WL_nil ?_
  refine thn_nrm (_hK_5 _ _ ?_)
  clear _hK_5
  refine W_cond rfl (fun _h5 => ?_) (fun _h5 => ?_)
  · have _kb_6 := _h5
    have _h5 := bt_d _h5
    refine W_seq fun _K_7 _hK_7 => ?_
    refine W_region ?_
    refine WL_step rfl rfl (r_fieldAddr fa126_1 rfl) ?_
    refine WL_step rfl rfl (r_loadAt _m1.at_ agg3 rfl rfl) ?_
    refine WL_s rfl rfl ?_
    refine Step.call (r_call (xs := [.tmp 8]) fk145 rfl) (c_impl_isLetter _ ) fun _v9 _w_8 _q9 => ?_
    obtain ⟨rfl, _cw_8⟩ := _q9
    have _cw_8z := _cw_8.size
    have E := E.trans _cw_8
    refine WL_step rfl rfl (r_move rfl) ?_
    refine WL_split (d := 10) rfl (fun _h10 => ?_) (fun _h10 => ?_)
    · have _kb_9 := _h10
      have _h10 := bt_d _h10
      refine WL_step rfl rfl (r_fieldAddr fa126_2 rfl) ?_
      have _f_10 := (_m1.ch0 _cw_8)
      refine WL_step rfl rfl (r_loadAt _f_10.at_ agg3 rfl rfl) ?_
      refine WL_step rfl rfl (r_eql rfl rfl) ?_
      refine WL_step rfl rfl (r_pickT rfl rfl) ?_
      refine WL_step rfl rfl (r_move rfl) ?_
      refine WL_split (d := 15) rfl (fun _h15 => ?_) (fun _h15 => ?_)
      · have _kb_11 := _h15
        have _h15 := bt_d _h15
        refine WL_step rfl rfl (r_fieldAddr fa126_3 rfl) ?_
        refine WL_step rfl rfl (r_loadAt _f_10.at_ agg3 rfl rfl) ?_
        refine WL_step rfl rfl (r_eql rfl rfl) ?_
        refine WL_step rfl rfl (r_pickT rfl rfl) ?_
        refine WL_step rfl rfl (r_assign rfl) ?_
        refine WL_nil ?_
        refine thn_nrm (_hK_7 _ _ ?_)
        clear _hK_7
        refine W_ret (inB_ret (thn_ret ?_))
        clear _hK_3
        exact ret_intro [_] ⟨rfl, trivial⟩ ⟨congrArg Value.bool (by rw [Bool.eq_iff_iff]; simp only [tokOk, decide_eq_true_eq, Bool.false_eq_true, false_iff, true_iff, Bool.and_eq_true, List.cons.injEq, and_true, true_and, Int.not_le]; unfold arT; (repeat' split) <;> omega), E⟩
      · have _kb_11 := _h15
        have _h15 := bf_d _h15
        refine WL_skip rfl rfl ?_
        refine WL_skip rfl rfl ?_
        refine WL_skip rfl rfl ?_
        refine WL_step rfl rfl (r_pickF rfl rfl) ?_
        refine WL_step rfl rfl (r_assign rfl) ?_
        refine WL_nil ?_
        refine thn_nrm (_hK_7 _ _ ?_)
        clear _hK_7
        refine W_ret (inB_ret (thn_ret ?_))
        clear _hK_3
        exact ret_intro [_] ⟨rfl, trivial⟩ ⟨congrArg Value.bool (by rw [Bool.eq_iff_iff]; simp only [tokOk, decide_eq_true_eq, Bool.false_eq_true, false_iff, true_iff, Bool.and_eq_true, List.cons.injEq, and_true, true_and, Int.not_le]; unfold arT; (repeat' split) <;> omega), E⟩
    · have _kb_9 := _h10
      have _h10 := bf_d _h10
      refine WL_skip rfl rfl ?_
      refine WL_skip rfl rfl ?_
      refine WL_skip rfl rfl ?_
      refine WL_step rfl rfl (r_pickF rfl rfl) ?_
      refine WL_step rfl rfl (r_move rfl) ?_
      refine WL_skip rfl rfl ?_
      refine WL_skip rfl rfl ?_
      refine WL_skip rfl rfl ?_
      refine WL_step rfl rfl (r_pickF rfl rfl) ?_
      refine WL_step rfl rfl (r_assign rfl) ?_
      refine WL_nil ?_
      refine thn_nrm (_hK_7 _ _ ?_)
      clear _hK_7
      refine W_ret (inB_ret (thn_ret ?_))
      clear _hK_3
      exact ret_intro [_] ⟨rfl, trivial⟩ ⟨congrArg Value.bool (by rw [Bool.eq_iff_iff]; simp only [tokOk, decide_eq_true_eq, Bool.false_eq_true, false_iff, true_iff, Bool.and_eq_true, List.cons.injEq, and_true, true_and, Int.not_le]; unfold arT; (repeat' split) <;> omega), E⟩
  · have _kb_6 := _h5
    have _h5 := bf_d _h5
    refine W_seq fun _K_12 _hK_12 => ?_
    refine W_region ?_
    refine WL_step rfl rfl (r_eql rfl rfl) ?_
    refine WL_step rfl rfl (r_assign rfl) ?_
    refine WL_nil ?_
    refine thn_nrm (_hK_12 _ _ ?_)
    clear _hK_12
    refine W_cond rfl (fun _h20 => ?_) (fun _h20 => ?_)
    · have _kb_13 := _h20
      have _h20 := bt_d _h20
      refine W_seq fun _K_14 _hK_14 => ?_
      refine W_region ?_
      refine WL_step rfl rfl (r_fieldAddr fa126_1 rfl) ?_
      refine WL_step rfl rfl (r_loadAt _m1.at_ agg3 rfl rfl) ?_
      refine WL_step rfl rfl (r_eql rfl rfl) ?_
      refine WL_step rfl rfl (r_move rfl) ?_
      refine WL_split (d := 25) rfl (fun _h25 => ?_) (fun _h25 => ?_)
      · have _kb_15 := _h25
        have _h25 := bt_d _h25
        refine WL_step rfl rfl (r_fieldAddr fa126_2 rfl) ?_
        refine WL_step rfl rfl (r_loadAt _m1.at_ agg3 rfl rfl) ?_
        refine WL_step rfl rfl (r_fieldAddr fa126_3 rfl) ?_
        refine WL_step rfl rfl (r_loadAt _m1.at_ agg3 rfl rfl) ?_
        refine WL_s rfl rfl ?_
        refine Step.call (r_call (xs := [.tmp 27, .const (Go.Value.int Go.IntKind.i64 0), .tmp 29]) fk78 rfl) (c_impl_within _ _ _ ) fun _v30 _w_16 _q30 => ?_
        obtain ⟨rfl, _cw_16⟩ := _q30
        have _cw_16z := _cw_16.size
        have E := E.trans _cw_16
        refine WL_step rfl rfl (r_pickT rfl rfl) ?_
        refine WL_step rfl rfl (r_move rfl) ?_
        refine WL_split (d := 32) rfl (fun _h32 => ?_) (fun _h32 => ?_)
        · have _kb_17 := _h32
          have _h32 := bt_d _h32
          refine WL_step rfl rfl (r_fieldAddr fa126_3 rfl) ?_
          have _f_18 := (_m1.ch0 _cw_16)
          refine WL_step rfl rfl (r_loadAt _f_18.at_ agg3 rfl rfl) ?_
          refine WL_s rfl rfl ?_
          refine Step.call (r_call (xs := [.tmp 34, .const (Go.Value.int Go.IntKind.i64 1), .const (Go.Value.int Go.IntKind.i64 3)]) fk78 rfl) (c_impl_within _ _ _ ) fun _v35 _w_19 _q35 => ?_
          obtain ⟨rfl, _cw_19⟩ := _q35
          have _cw_19z := _cw_19.size
          have E := E.trans _cw_19
          refine WL_step rfl rfl (r_pickT rfl rfl) ?_
          refine WL_step rfl rfl (r_assign rfl) ?_
          refine WL_nil ?_
          refine thn_nrm (_hK_14 _ _ ?_)
          clear _hK_14
          refine W_ret (inB_ret (thn_ret ?_))
          clear _hK_3
          exact ret_intro [_] ⟨rfl, trivial⟩ ⟨congrArg Value.bool (by rw [Bool.eq_iff_iff]; simp only [tokOk, decide_eq_true_eq, Bool.false_eq_true, false_iff, true_iff, Bool.and_eq_true, List.cons.injEq, and_true, true_and, Int.not_le]; unfold arT; (repeat' split) <;> omega), E⟩
        · have _kb_17 := _h32
          have _h32 := bf_d _h32
          refine WL_skip rfl rfl ?_
          refine WL_skip rfl rfl ?_
          refine WL_skip rfl rfl ?_
          refine WL_step rfl rfl (r_pickF rfl rfl) ?_
          refine WL_step rfl rfl (r_assign rfl) ?_
          refine WL_nil ?_
          refine thn_nrm (_hK_14 _ _ ?_)
          clear _hK_14
          refine W_ret (inB_ret (thn_ret ?_))
          clear _hK_3
          exact ret_intro [_] ⟨rfl, trivial⟩ ⟨congrArg Value.bool (by rw [Bool.eq_iff_iff]; simp only [tokOk, decide_eq_true_eq, Bool.false_eq_true, false_iff, true_iff, Bool.and_eq_true, List.cons.injEq, and_true, true_and, Int.not_le]; unfold arT; (repeat' split) <;> omega), E⟩
      · have _kb_15 := _h25
        have _h25 := bf_d _h25
        refine WL_skip rfl rfl ?_
        refine WL_skip rfl rfl ?_
        refine WL_skip rfl rfl ?_
        refine WL_skip rfl rfl ?_
        refine WL_skip rfl rfl ?_
        refine WL_step rfl rfl (r_pickF rfl rfl) ?_
        refine WL_step rfl rfl (r_move rfl) ?_
        refine WL_skip rfl rfl ?_
        refine WL_skip rfl rfl ?_
        refine WL_skip rfl rfl ?_
        refine WL_step rfl rfl (r_pickF rfl rfl) ?_
        refine WL_step rfl rfl (r_assign rfl) ?_
        refine WL_nil ?_
        refine thn_nrm (_hK_14 _ _ ?_)
        clear _hK_14
        refine W_ret (inB_ret (thn_ret ?_))
        clear _hK_3
        exact ret_intro [_] ⟨rfl, trivial⟩ ⟨congrArg Value.bool (by rw [Bool.eq_iff_iff]; simp only [tokOk, decide_eq_true_eq, Bool.false_eq_true, false_iff, true_iff, Bool.and_eq_true, List.cons.injEq, and_true, true_and, Int.not_le]; unfold arT; (repeat' split) <;> omega), E⟩
    · have _kb_13 := _h20
      have _h20 := bf_d _h20
      refine W_seq fun _K_20 _hK_20 => ?_
      refine W_seq fun _K_21 _hK_21 => ?_
      refine W_region ?_
      refine WL_step rfl rfl (r_eql rfl rfl) ?_
      refine WL_step rfl rfl (r_assign rfl) ?_
      refine WL_nil ?_
      refine thn_nrm (_hK_21 _ _ ?_)
      clear _hK_21
      refine W_cond rfl (fun _h37 => ?_) (fun _h37 => ?_)
      · have _kb_22 := _h37
        have _h37 := bt_d _h37
        refine W_skip ?_
        refine thn_nrm (_hK_20 _ _ ?_)
        clear _hK_20
        refine W_condTk rfl _kb_22 ?_
        refine W_seq fun _K_23 _hK_23 => ?_
        refine W_region ?_
        refine WL_step rfl rfl (r_loadAtA0 _m1.at_ agg126 sz126 rfl) ?_
        refine WL_step rfl rfl (r_fieldAddr fa126_0 rfl) ?_
        refine WL_step rfl rfl (r_loadAt _m1.at_ agg3 rfl rfl) ?_
        refine WL_step rfl rfl (r_build (parts := [(0, .tmp 45)]) (cells := [(.int .i64 t.kind), (.int .i64 0), (.int .i64 0), (.int .i64 0)]) zr126 pl126 rfl rfl) ?_
        refine WL_step rfl rfl (r_eqlI [t.kind, t.letter, t.low, t.high] [t.kind, 0, 0, 0] ist126 rfl rfl rfl) ?_
        refine WL_step rfl rfl (r_assign rfl) ?_
        refine WL_nil ?_
        refine thn_nrm (_hK_23 _ _ ?_)
        clear _hK_23
        refine W_ret (inB_ret (thn_ret ?_))
        clear _hK_3
        exact ret_intro [_] ⟨rfl, trivial⟩ ⟨congrArg Value.bool (by rw [Bool.eq_iff_iff]; simp only [tokOk, decide_eq_true_eq, Bool.false_eq_true, false_iff, true_iff, Bool.and_eq_true, List.cons.injEq, and_true, true_and, Int.not_le]; unfold arT; (repeat' split) <;> omega), E⟩
      · have _kb_22 := _h37
        have _h37 := bf_d _h37
        refine W_seq fun _K_24 _hK_24 => ?_
        refine W_region ?_
        refine WL_step rfl rfl (r_eql rfl rfl) ?_
        refine WL_step rfl rfl (r_assign rfl) ?_
        refine WL_nil ?_
        refine thn_nrm (_hK_24 _ _ ?_)
        clear _hK_24
        refine W_cond rfl (fun _h37 => ?_) (fun _h37 => ?_)
        · have _kb_25 := _h37
          have _h37 := bt_d _h37
          refine W_skip ?_
          refine thn_nrm (_hK_20 _ _ ?_)
          clear _hK_20
          refine W_condTk rfl _kb_25 ?_
          refine W_seq fun _K_26 _hK_26 => ?_
          refine W_region ?_
          refine WL_step rfl rfl (r_loadAtA0 _m1.at_ agg126 sz126 rfl) ?_
          refine WL_step rfl rfl (r_fieldAddr fa126_0 rfl) ?_
          refine WL_step rfl rfl (r_loadAt _m1.at_ agg3 rfl rfl) ?_
          refine WL_step rfl rfl (r_build (parts := [(0, .tmp 45)]) (cells := [(.int .i64 t.kind), (.int .i64 0), (.int .i64 0), (.int .i64 0)]) zr126 pl126 rfl rfl) ?_
          refine WL_step rfl rfl (r_eqlI [t.kind, t.letter, t.low, t.high] [t.kind, 0, 0, 0] ist126 rfl rfl rfl) ?_
          refine WL_step rfl rfl (r_assign rfl) ?_
          refine WL_nil ?_
          refine thn_nrm (_hK_26 _ _ ?_)
          clear _hK_26
          refine W_ret (inB_ret (thn_ret ?_))
          clear _hK_3
          exact ret_intro [_] ⟨rfl, trivial⟩ ⟨congrArg Value.bool (by rw [Bool.eq_iff_iff]; simp only [tokOk, decide_eq_true_eq, Bool.false_eq_true, false_iff, true_iff, Bool.and_eq_true, List.cons.injEq, and_true, true_and, Int.not_le]; unfold arT; (repeat' split) <;> omega), E⟩
        · have _kb_25 := _h37
          have _h37 := bf_d _h37
          refine W_seq fun _K_27 _hK_27 => ?_
          refine W_region ?_
          refine WL_step rfl rfl (r_eql rfl rfl) ?_
          refine WL_step rfl rfl (r_assign rfl) ?_
          refine WL_nil ?_
          refine thn_nrm (_hK_27 _ _ ?_)
          clear _hK_27
          refine W_cond rfl (fun _h37 => ?_) (fun _h37 => ?_)
          · have _kb_28 := _h37
            have _h37 := bt_d _h37
            refine W_skip ?_
            refine thn_nrm (_hK_20 _ _ ?_)
            clear _hK_20
            refine W_condTk rfl _kb_28 ?_
            refine W_seq fun _K_29 _hK_29 => ?_
            refine W_region ?_
            refine WL_step rfl rfl (r_loadAtA0 _m1.at_ agg126 sz126 rfl) ?_
            refine WL_step rfl rfl (r_fieldAddr fa126_0 rfl) ?_
            refine WL_step rfl rfl (r_loadAt _m1.at_ agg3 rfl rfl) ?_
            refine WL_step rfl rfl (r_build (parts := [(0, .tmp 45)]) (cells := [(.int .i64 t.kind), (.int .i64 0), (.int .i64 0), (.int .i64 0)]) zr126 pl126 rfl rfl) ?_
            refine WL_step rfl rfl (r_eqlI [t.kind, t.letter, t.low, t.high] [t.kind, 0, 0, 0] ist126 rfl rfl rfl) ?_
            refine WL_step rfl rfl (r_assign rfl) ?_
            refine WL_nil ?_
            refine thn_nrm (_hK_29 _ _ ?_)
            clear _hK_29
            refine W_ret (inB_ret (thn_ret ?_))
            clear _hK_3
            exact ret_intro [_] ⟨rfl, trivial⟩ ⟨congrArg Value.bool (by rw [Bool.eq_iff_iff]; simp only [tokOk, decide_eq_true_eq, Bool.false_eq_true, false_iff, true_iff, Bool.and_eq_true, List.cons.injEq, and_true, true_and, Int.not_le]; unfold arT; (repeat' split) <;> omega), E⟩
          · have _kb_28 := _h37
            have _h37 := bf_d _h37
            refine W_seq fun _K_30 _hK_30 => ?_
            refine W_region ?_
            refine WL_step rfl rfl (r_eql rfl rfl) ?_
            refine WL_step rfl rfl (r_assign rfl) ?_
            refine WL_nil ?_
            refine thn_nrm (_hK_30 _ _ ?_)
            clear _hK_30
            refine W_cond rfl (fun _h37 => ?_) (fun _h37 => ?_)
            · have _kb_31 := _h37
              have _h37 := bt_d _h37
              refine W_skip ?_
              refine thn_nrm (_hK_20 _ _ ?_)
              clear _hK_20
              refine W_condTk rfl _kb_31 ?_
              refine W_seq fun _K_32 _hK_32 => ?_
              refine W_region ?_
              refine WL_step rfl rfl (r_loadAtA0 _m1.at_ agg126 sz126 rfl) ?_
              refine WL_step rfl rfl (r_fieldAddr fa126_0 rfl) ?_
              refine WL_step rfl rfl (r_loadAt _m1.at_ agg3 rfl rfl) ?_
              refine WL_step rfl rfl (r_build (parts := [(0, .tmp 45)]) (cells := [(.int .i64 t.kind), (.int .i64 0), (.int .i64 0), (.int .i64 0)]) zr126 pl126 rfl rfl) ?_
              refine WL_step rfl rfl (r_eqlI [t.kind, t.letter, t.low, t.high] [t.kind, 0, 0, 0] ist126 rfl rfl rfl) ?_
              refine WL_step rfl rfl (r_assign rfl) ?_
              refine WL_nil ?_
              refine thn_nrm (_hK_32 _ _ ?_)
              clear _hK_32
              refine W_ret (inB_ret (thn_ret ?_))
              clear _hK_3
              exact ret_intro [_] ⟨rfl, trivial⟩ ⟨congrArg Value.bool (by rw [Bool.eq_iff_iff]; simp only [tokOk, decide_eq_true_eq, Bool.false_eq_true, false_iff, true_iff, Bool.and_eq_true, List.cons.injEq, and_true, true_and, Int.not_le]; unfold arT; (repeat' split) <;> omega), E⟩
            · have _kb_31 := _h37
              have _h37 := bf_d _h37
              refine W_region ?_
              refine WL_step rfl rfl (r_eql rfl rfl) ?_
              refine WL_step rfl rfl (r_assign rfl) ?_
              refine WL_nil ?_
              refine thn_nrm (_hK_20 _ _ ?_)
              clear _hK_20
              refine W_cond rfl (fun _h37 => ?_) (fun _h37 => ?_)
              · have _kb_33 := _h37
                have _h37 := bt_d _h37
                refine W_seq fun _K_34 _hK_34 => ?_
                refine W_region ?_
                refine WL_step rfl rfl (r_loadAtA0 _m1.at_ agg126 sz126 rfl) ?_
                refine WL_step rfl rfl (r_fieldAddr fa126_0 rfl) ?_
                refine WL_step rfl rfl (r_loadAt _m1.at_ agg3 rfl rfl) ?_
                refine WL_step rfl rfl (r_build (parts := [(0, .tmp 45)]) (cells := [(.int .i64 t.kind), (.int .i64 0), (.int .i64 0), (.int .i64 0)]) zr126 pl126 rfl rfl) ?_
                refine WL_step rfl rfl (r_eqlI [t.kind, t.letter, t.low, t.high] [t.kind, 0, 0, 0] ist126 rfl rfl rfl) ?_
                refine WL_step rfl rfl (r_assign rfl) ?_
                refine WL_nil ?_
                refine thn_nrm (_hK_34 _ _ ?_)
                clear _hK_34
                refine W_ret (inB_ret (thn_ret ?_))
                clear _hK_3
                exact ret_intro [_] ⟨rfl, trivial⟩ ⟨congrArg Value.bool (by rw [Bool.eq_iff_iff]; simp only [tokOk, decide_eq_true_eq, Bool.false_eq_true, false_iff, true_iff, Bool.and_eq_true, List.cons.injEq, and_true, true_and, Int.not_le]; unfold arT; (repeat' split) <;> omega), E⟩
              · have _kb_33 := _h37
                have _h37 := bf_d _h37
                refine W_skip ?_
                refine inB_nrm ?_
                refine thn_nrm (_hK_3 _ _ ?_)
                clear _hK_3
                refine W_seq fun _K_35 _hK_35 => ?_
                refine W_region ?_
                refine WL_step rfl rfl (r_assign rfl) ?_
                refine WL_nil ?_
                refine thn_nrm (_hK_35 _ _ ?_)
                clear _hK_35
                refine W_ret ?_
                exact ret_intro [_] ⟨rfl, trivial⟩ ⟨congrArg Value.bool (by rw [Bool.eq_iff_iff]; simp only [tokOk, decide_eq_true_eq, Bool.false_eq_true, false_iff, true_iff, Bool.and_eq_true, List.cons.injEq, and_true, true_and, Int.not_le]; unfold arT; (repeat' split) <;> omega), E⟩

/-- slices.Clone[[]*impl.tree,*impl.tree] -/
theorem c_slices_Clone_impl_tree_impl_tree {w : World} {LL_s _B_s : Nat} {_v_s : Value} {s : List Addr} (_h_s : Ls acs 1 w LL_s _B_s _v_s s) (hb : s.length ≤ 1048576) :
    Ctr Try.prog 175 #[_v_s] w (fun v w' => Ol acs 129 1 w' v (s) ∧ Lo w.heap.size v ∧ Ch [] w w') := by
  obtain ⟨_A_s, _C_s, _e1_s⟩ := _h_s.val
  subst _e1_s
  have _l_s := _h_s.len
  have _h_s := _h_s.here (by decide)
  have E := Ch.refl [] w
  refine Ctr_of_W (N := 8) (vs0 := [(.slice _A_s s.length _C_s)]) Try.func175 rfl rfl rfl ?_
  refine W_seq fun _K_1 _hK_1 => ?_
  refine W_region ?_
  refine WL_step rfl rfl (r_assign rfl) ?_
  refine WL_nil ?_
  refine thn_nrm (_hK_1 _ _ ?_)
  clear _hK_1
  refine W_seq fun _K_2 _hK_2 => ?_
  refine W_seq fun _K_3 _hK_3 => ?_
  refine W_region ?_
  refine WL_step rfl rfl (r_move rfl) ?_
  refine WL_step rfl rfl (r_eqNil (by rw [el189]; rfl) rfl rfl) ?_
  refine WL_nil ?_
  refine thn_nrm (_hK_3 _ _ ?_)
  clear _hK_3
  refine W_cond rfl (fun _h4 => ?_) (fun _h4 => ?_)
  · have _kb_4 := _h4
    refine W_seq fun _K_5 _hK_5 => ?_
    refine W_region ?_
    refine WL_step rfl rfl (r_assign rfl) ?_
    refine WL_nil ?_
    refine thn_nrm (_hK_5 _ _ ?_)
    clear _hK_5
    refine W_ret (thn_ret ?_)
    clear _hK_2
    have _o_6 : Ol acs 129 1 w (.slice none 0 0) (s) := by
      have hx := (Ol.nil (cs := acs) (e := 129) (k := 1) w)
      first | (have hn := Ls.none _h_s _h4; subst hn; exact hx) | exact hx
    exact ret_intro [_] ⟨rfl, trivial⟩ ⟨_o_6, Lo.nil _, E⟩
  · have _kb_4 := _h4
    refine W_skip ?_
    refine thn_nrm (_hK_2 _ _ ?_)
    clear _hK_2
    refine W_seq fun _K_7 _hK_7 => ?_
    refine W_region ?_
    refine WL_s rfl rfl ?_
    refine s_buildSlice0 (k := 1) acs el189 sz129 fun _v5 _w_8 _q5 _lo5 _cw_8 => ?_
    have _cw_8z := _cw_8.size
    have E := E.trans _cw_8
    obtain ⟨_Av5, _Cv5, _ev5⟩ := _q5.val
    subst _ev5
    have _lv5 := _q5.len
    have _hiv5 := _q5.lt
    refine WL_step rfl rfl (r_move rfl) ?_
    refine WL_s rfl rfl ?_
    have _f_10 := (_h_s.ch0 _cw_8)
    refine s_append (cs := acs) el189 sz129 by129 zr129 rfl (by decide) acs_one _q5 _f_10 rfl rfl (by first | omega | (simp only [List.length_append, List.length_nil, List.length_cons, List.length_replicate, List.length_set, List.length_reverse, List.length_map] at *; omega) | (simp at *; omega)) (by first | omega | (simp only [List.length_append, List.length_nil, List.length_cons, List.length_replicate, List.length_set, List.length_reverse, List.length_map] at *; omega) | (simp at *; omega)) _lo5 (by omega) fun _v7 _w_9 _q7 _lo7 _ap7 _cw_9 => ?_
    have _cw_9z := _cw_9.size
    have E := E.step _cw_9 (fun i hi => .inl (by have _h1 := _lo5 _ hi; omega))
    replace _q7 : Ol acs 129 1 _w_9 _v7 s := _q7
    obtain ⟨_Av7, _Cv7, _ev7⟩ := _q7.val
    subst _ev7
    have _lv7 := _q7.len
    have _hiv7 := _q7.lt
    refine WL_step rfl rfl (r_assign rfl) ?_
    refine WL_nil ?_
    refine thn_nrm (_hK_7 _ _ ?_)
    clear _hK_7
    refine W_ret ?_
    have _o_11 : Ol acs 129 1 _w_9 (.slice _Av7 (s).length _Cv7) (s) := by
      have hx := _q7
      first | (have hn := Ls.none _h_s _h4; subst hn; exact hx) | exact hx
    exact ret_intro [_] ⟨rfl, trivial⟩ ⟨_o_11, Lo.down _lo7 (by omega), E⟩

/-- impl.treeOf -/
theorem c_impl_treeOf {w : World} {LL_e _B_e : Nat} {_v_e : Value} {e : List Token} (_h_e : Ls Token.cs 4 w LL_e _B_e _v_e e) (hb : e.length ≤ 1048576) :
    Ctr Try.prog 122 #[(.agg #[_v_e])] w (fun v w' => ((treeL e) = none ∧ v = .pointer none ∨ ∃ t p, (treeL e) = some t ∧ v = .pointer (some p) ∧ TrAt w' w.heap.size w'.heap.size p t) ∧ Ch [] w w') := by
  obtain ⟨_A_e, _C_e, _e1_e⟩ := _h_e.val
  subst _e1_e
  have _l_e := _h_e.len
  have _h_e := _h_e.here (by decide)
  have E := Ch.refl [] w
  refine Ctr_of_W (N := 56) (vs0 := [(.agg #[(.slice _A_e e.length _C_e)])]) Try.func122 rfl rfl rfl ?_
  refine W_seq fun _K_1 _hK_1 => ?_
  refine W_region ?_
  refine WL_s rfl rfl ?_
  refine s_box rfl fun _b1 _w_2 _m1 _cw_2 _e1 => ?_
  have _cw_2z := _cw_2.size
  have E := E.trans _cw_2
  have _z1 := _m1.lt
  replace _m1 : Blk _w_2 _b1 67 [(.slice _A_e e.length _C_e)] := _m1
  refine WL_step rfl rfl (r_assign rfl) ?_
  refine WL_nil ?_
  refine thn_nrm (_hK_1 _ _ ?_)
  clear _hK_1
  refine W_seq fun _K_3 _hK_3 => ?_
  refine W_region ?_
  refine WL_s rfl rfl ?_
  refine s_buildSlice0 (k := 1) acs el189 sz129 fun _v9 _w_4 _q9 _lo9 _cw_4 => ?_
  have _cw_4z := _cw_4.size
  have E := E.trans _cw_4
  obtain ⟨_Av9, _Cv9, _ev9⟩ := _q9.val
  subst _ev9
  have _lv9 := _q9.len
  have _hiv9 := _q9.lt
  refine WL_step rfl rfl (r_assign rfl) ?_
  refine WL_nil ?_
  refine thn_nrm (_hK_3 _ _ ?_)
  clear _hK_3
  refine W_seq fun _K_5 _hK_5 => ?_
  refine W_seq fun _K_6 _hK_6 => ?_
  refine W_region ?_
  refine WL_step rfl rfl (r_fieldAddr fa67_0 rfl) ?_
  have _f_7 := (_m1.ch0 _cw_4)
  refine WL_step rfl rfl (r_loadAt _f_7.at_ agg65 rfl rfl) ?_
  refine WL_step rfl rfl (r_len (by rw [el65]; rfl) rfl) ?_
  refine WL_step rfl rfl (r_move rfl) ?_
  refine WL_nil ?_
  refine thn_nrm (_hK_6 _ _ ?_)
  clear _hK_6
  refine W_block ?_
  have _oi_8 : Ol acs 129 1 _w_4 (.slice _Av9 (([] : List Addr)).length _Cv9) (([] : List Addr)) := by
    have hx := _q9
    exact hx
  refine W_loop (σ := Nat × List Addr × List Tr × Value) (fun ⟨i, ps, st, sv⟩ => [(3, sv), (11, (.slice _A_e e.length _C_e)), (12, (.int .i64 ((e.length : Nat) : Int))), (13, (.int .i64 ((i : Nat) : Int)))]) (fun ⟨i, ps, st, sv⟩ wx => Ch [] w wx ∧ _w_4.heap.size ≤ wx.heap.size ∧ (i ≤ e.length) ∧ (ps.length = st.length) ∧ (st.length ≤ i) ∧ (prs [] (e.take i) = some st) ∧ Ol acs 129 1 wx sv ps ∧ Lo _w_2.heap.size sv ∧ Tks wx w.heap.size sv ps st) (fun ⟨i, ps, st, sv⟩ => e.length - i) (0, ([] : List Addr), ([] : List Tr), (.slice _Av9 (([] : List Addr)).length _Cv9)) (Sub.cons rfl (Sub.cons rfl (Sub.cons rfl (Sub.cons rfl (Sub.nil _))))) ⟨E, (Nat.le_refl _), (by omega), rfl, (Nat.le_refl _), rfl, _oi_8, _lo9, (Tks.nil _ _ _)⟩ ?_
  rintro ⟨i, ps, st, sv⟩ _wr_9 ⟨E, _zz0, hi, hl, hs, hp, _o0_3, _lo0_3, tks⟩
  have _E0h := E
  have _E0hz := _E0h.size
  obtain ⟨Asv, Csv, esv⟩ := _o0_3.val
  subst esv
  have lsv := _o0_3.len
  have hisv := _o0_3.lt
  refine W_seq fun _K_10 _hK_10 => ?_
  refine W_region ?_
  refine WL_step rfl rfl (r_lss rfl rfl) ?_
  refine WL_nil ?_
  refine thn_nrm (_hK_10 _ _ ?_)
  clear _hK_10
  refine W_seq fun _K_11 _hK_11 => ?_
  refine W_cond rfl (fun _h14 => ?_) (fun _h14 => ?_)
  · have _kb_12 := _h14
    have _h14 := bt_d _h14
    refine W_skip ?_
    refine thn_nrm (_hK_11 _ _ ?_)
    clear _hK_11
    refine W_seq fun _K_13 _hK_13 => ?_
    refine W_block ?_
    refine W_seq fun _K_14 _hK_14 => ?_
    refine W_region ?_
    refine WL_s rfl rfl ?_
    have _f_15 := (_h_e.ch0 _E0h)
    refine (s_index _f_15 Token.len el65 sz126 rfl rfl rfl (by omega) fun _p15 _y15 _hy15 _a15 => ?_)
    have k15 := arK_rng _y15.kind
    refine WL_step rfl rfl (r_loadAtA0 _a15 agg126 sz126 rfl) ?_
    refine WL_s rfl rfl ?_
    refine s_alloc zr126 fun _b5 _w_16 _m5 _cw_16 _e5 => ?_
    have _cw_16z := _cw_16.size
    have E := E.trans _cw_16
    have _z5 := _m5.lt
    replace _m5 : Blk _w_16 _b5 126 [(.int .i64 0), (.int .i64 0), (.int .i64 0), (.int .i64 0)] := _m5
    refine WL_s rfl rfl ?_
    refine s_storeA (off := 0) 4 _m5 sz126 rfl (us := [(.int .i64 _y15.kind), (.int .i64 _y15.letter), (.int .i64 _y15.low), (.int .i64 _y15.high)]) rfl rfl rfl rfl fun _w_17 _m_18 _cw_17 => ?_
    have _cw_17z := _cw_17.size
    have E := E.step _cw_17 (fun i hi => .inl (by have _h1 := List.mem_singleton.1 hi; omega))
    replace _m_18 : Blk _w_17 _b5 126 [(.int .i64 _y15.kind), (.int .i64 _y15.letter), (.int .i64 _y15.low), (.int .i64 _y15.high)] := _m_18
    refine WL_nil ?_
    refine thn_nrm (_hK_14 _ _ ?_)
    clear _hK_14
    refine W_seq fun _K_19 _hK_19 => ?_
    refine W_region ?_
    refine WL_step rfl rfl (r_assign rfl) ?_
    refine WL_nil ?_
    refine thn_nrm (_hK_19 _ _ ?_)
    clear _hK_19
    refine W_seq fun _K_20 _hK_20 => ?_
    have _J_21 : ∀ (lj : KL), Go.KLib.Sub [(3, (.slice Asv (ps).length Csv)), (5, (.pointer (some ⟨_b5, 0, none⟩))), (6, (.int .i64 (arK _y15.kind))), (11, (.slice _A_e e.length _C_e)), (12, (.int .i64 ((e.length : Nat) : Int))), (13, (.int .i64 ((i : Nat) : Int))), (14, (.bool (decide (((i : Nat) : Int) < ((e.length : Nat) : Int))))), (15, (.pointer (some _p15))), (16, (.agg #[(.int .i64 _y15.kind), (.int .i64 _y15.letter), (.int .i64 _y15.low), (.int .i64 _y15.high)]))] lj → _K_20 lj _w_17 := by
      intro lj _jsub
      refine _hK_20 _ _ (W_sub _jsub ?_)
      clear _hK_20
      refine W_seq fun _K_22 _hK_22 => ?_
      refine W_region ?_
      refine WL_step rfl rfl (r_move rfl) ?_
      refine WL_step rfl rfl (r_len (by rw [el189]; rfl) rfl) ?_
      refine WL_step rfl rfl (r_move rfl) ?_
      refine WL_step rfl rfl (r_sub (by omega) rfl rfl) ?_
      refine WL_step rfl rfl (r_assign rfl) ?_
      refine WL_nil ?_
      refine thn_nrm (_hK_22 _ _ ?_)
      clear _hK_22
      refine W_seq fun _K_23 _hK_23 => ?_
      refine W_seq fun _K_24 _hK_24 => ?_
      refine W_region ?_
      refine WL_step rfl rfl (r_loadAtA0 _m_18.at_ agg126 sz126 rfl) ?_
      refine WL_s rfl rfl ?_
      refine Step.call (r_call (xs := [.tmp 29]) fk174 rfl) (c_impl_tokenOk _y15 ) fun _v30 _w_25 _q30 => ?_
      obtain ⟨rfl, _cw_25⟩ := _q30
      have _cw_25z := _cw_25.size
      have E := E.trans _cw_25
      refine WL_step rfl rfl (r_not rfl) ?_
      refine WL_step rfl rfl (r_move rfl) ?_
      refine WL_split (d := 32) rfl (fun _h32 => ?_) (fun _h32 => ?_)
      · have _kb_26 := _h32
        have _h32 := bt_n _h32
        refine WL_skip rfl rfl ?_
        refine WL_skip rfl rfl ?_
        refine WL_step rfl rfl (r_pickT rfl rfl) ?_
        refine WL_nil ?_
        refine thn_nrm (_hK_24 _ _ ?_)
        clear _hK_24
        refine W_condT rfl ?_
        refine W_seq fun _K_27 _hK_27 => ?_
        refine W_region ?_
        refine WL_step rfl rfl (r_assign rfl) ?_
        refine WL_nil ?_
        refine thn_nrm (_hK_27 _ _ ?_)
        clear _hK_27
        refine W_ret (thn_ret (inB_ret (thn_ret (thn_ret (inB_ret (thn_ret ?_))))))
        clear _hK_5 _hK_13 _hK_23
        exact ret_intro [_] ⟨rfl, trivial⟩ ⟨.inl ⟨(by first | exact treeL_none hp (by omega) (by omega) | exact isE_no hp _hy15 (push_bad (by first | exact .inl _h32 | (right; omega)))), rfl⟩, E⟩
      · have _kb_26 := _h32
        have _h32 := bf_n _h32
        refine WL_step rfl rfl (r_move rfl) ?_
        refine WL_step rfl rfl (r_lss rfl rfl) ?_
        refine WL_step rfl rfl (r_pickF rfl rfl) ?_
        refine WL_nil ?_
        refine thn_nrm (_hK_24 _ _ ?_)
        clear _hK_24
        refine W_cond rfl (fun _h35 => ?_) (fun _h35 => ?_)
        · have _kb_28 := _h35
          have _h35 := bt_d _h35
          refine W_seq fun _K_29 _hK_29 => ?_
          refine W_region ?_
          refine WL_step rfl rfl (r_assign rfl) ?_
          refine WL_nil ?_
          refine thn_nrm (_hK_29 _ _ ?_)
          clear _hK_29
          refine W_ret (thn_ret (inB_ret (thn_ret (thn_ret (inB_ret (thn_ret ?_))))))
          clear _hK_5 _hK_13 _hK_23
          exact ret_intro [_] ⟨rfl, trivial⟩ ⟨.inl ⟨(by first | exact treeL_none hp (by omega) (by omega) | exact isE_no hp _hy15 (push_bad (by first | exact .inl _h32 | (right; omega)))), rfl⟩, E⟩
        · have _kb_28 := _h35
          have _h35 := bf_d _h35
          refine W_skip ?_
          refine thn_nrm (_hK_23 _ _ ?_)
          clear _hK_23
          refine W_seq fun _K_30 _hK_30 => ?_
          refine W_drawC [] 8 mixed rfl fun _w_31 _cw_31 => ?_
          have _cw_31z := _cw_31.size
          have E := E.trans _cw_31
          have _f_32 := ((_m_18.ch0 _cw_25).ch0 _cw_31)
          refine DR_s 0 rfl (by kernel_rfl) rfl rfl (t_loadAtA0 _f_32.at_ (fun i hi => absurd hi List.not_mem_nil) agg126 sz126 rfl ?_)
          refine DR_s 1 rfl (by kernel_rfl) rfl rfl (t_v (fun _ => (r_move rfl)) ?_)
          refine DR_s 2 rfl (by kernel_rfl) rfl rfl (t_v (fun _ => (r_move rfl)) ?_)
          have _f_33 := ((((_o0_3.ch0 _cw_16).ch _cw_17 (fun g hg hm => by have _h0 := List.mem_singleton.1 hm; have _h2 := _lo0_3 _ hg; have _h3 := hisv _ hg; omega)).ch0 _cw_25).ch0 _cw_31)
          refine DR_s 3 rfl (by kernel_rfl) rfl rfl (t_cutO (ys := (ps.drop ((((ps.length : Nat) : Int) - (arK _y15.kind)).toNat))) ((((ps.length : Nat) : Int) - (arK _y15.kind)).toNat) ps.length _f_33 acs_len el189 sz129 rfl ⟨_, _, rfl, by omega⟩ rfl (by omega) (by omega) (cut_all _ _) fun _v39 _q39 _bb39 _ln39 => ?_)
          obtain ⟨_A39, _C39, _e39⟩ := _q39.val
          subst _e39
          have _l39 := _q39.len
          have hi39 := _q39.lt
          refine DR_one 4 (by kernel_rfl) ?_
          refine DO_s rfl rfl rfl ?_
          refine Step.call (r_call (xs := [.tmp 39]) fk175 rfl) (c_slices_Clone_impl_tree_impl_tree _q39.ls (by omega)) fun _v40 _w_34 _q40 => ?_
          obtain ⟨_q40, _lo40, _cw_34⟩ := _q40
          have _cw_34z := _cw_34.size
          have E := E.trans _cw_34
          obtain ⟨_Av40, _Cv40, _ev40⟩ := _q40.val
          subst _ev40
          have _lv40 := _q40.len
          have _hiv40 := _q40.lt
          have _S_35 : Ch [] _w_31 _w_34 := ((Ch.refl _ _).trans _cw_34)
          refine ⟨_S_35, ?_⟩
          refine DR_s 5 rfl (by kernel_rfl) rfl rfl (t_v (fun _ => (r_build (parts := [(0, .tmp 36), (1, .tmp 40)]) (cells := [(.int .i64 _y15.kind), (.int .i64 _y15.letter), (.int .i64 _y15.low), (.int .i64 _y15.high), (.slice _Av40 ((ps.drop ((((ps.length : Nat) : Int) - (arK _y15.kind)).toNat))).length _Cv40)]) zr193 pl193 rfl rfl)) ?_)
          refine DR_one 6 (by kernel_rfl) ?_
          refine DO_s rfl rfl rfl ?_
          refine s_box rfl fun _b42 _w_36 _m42 _cw_36 _e42 => ?_
          have _cw_36z := _cw_36.size
          have E := E.trans _cw_36
          have _z42 := _m42.lt
          replace _m42 : Blk _w_36 _b42 193 [(.int .i64 _y15.kind), (.int .i64 _y15.letter), (.int .i64 _y15.low), (.int .i64 _y15.high), (.slice _Av40 ((ps.drop ((((ps.length : Nat) : Int) - (arK _y15.kind)).toNat))).length _Cv40)] := _m42
          have _S_37 : Ch [] _w_31 _w_36 := (_S_35.trans _cw_36)
          refine ⟨_S_37, ?_⟩
          refine DR_s 7 rfl (by kernel_rfl) rfl rfl (t_v (fun _ => (r_assign rfl)) ?_)
          refine DR_done (by kernel_rfl) ?_
          refine thn_nrm (_hK_30 _ _ ?_)
          clear _hK_30
          refine W_region ?_
          refine WL_step rfl rfl (r_move rfl) ?_
          refine WL_step rfl rfl (r_move rfl) ?_
          refine WL_s rfl rfl ?_
          have _f_38 := ((_f_33.ch0 _cw_34).ch0 _cw_36)
          refine (s_cutO (ys := (ps.take ((((ps.length : Nat) : Int) - (arK _y15.kind)).toNat))) 0 ((((ps.length : Nat) : Int) - (arK _y15.kind)).toNat) _f_38 acs_len el189 sz129 rfl rfl ⟨_, _, rfl, by omega⟩ (by omega) (by omega) rfl fun _v45 _q45 _bb45 _ln45 => ?_)
          obtain ⟨_A45, _C45, _e45⟩ := _q45.val
          subst _e45
          have _l45 := _q45.len
          have hi45 := _q45.lt
          refine WL_step rfl rfl (r_move rfl) ?_
          refine WL_s rfl rfl ?_
          refine s_buildSliceP (parts := [(0, .tmp 46)]) [(⟨_b42, 0, none⟩ : Addr)] el189 sz129 zr129 rfl rfl (by decide) (by decide) rfl fun _v47 _w_39 _q47 _lo47 _cw_39 => ?_
          have _cw_39z := _cw_39.size
          have E := E.trans _cw_39
          obtain ⟨_Av47, _Cv47, _ev47⟩ := _q47.val
          subst _ev47
          have _lv47 := _q47.len
          have _hiv47 := _q47.lt
          refine WL_s rfl rfl ?_
          have _f_41 := (_q45.ch0 _cw_39)
          refine s_append (cs := acs) el189 sz129 by129 zr129 rfl (by decide) acs_one _f_41 _q47.ls rfl rfl (by first | omega | (simp only [List.length_append, List.length_nil, List.length_cons, List.length_replicate, List.length_set, List.length_reverse, List.length_map] at *; omega) | (simp at *; omega)) (by first | omega | (simp only [List.length_append, List.length_nil, List.length_cons, List.length_replicate, List.length_set, List.length_reverse, List.length_map] at *; omega) | (simp at *; omega)) (fun g hg => _lo0_3 g (_bb45 ▸ hg)) (by omega) fun _v48 _w_40 _q48 _lo48 _ap48 _cw_40 => ?_
          have _cw_40z := _cw_40.size
          have E := E.step _cw_40 (fun i hi => .inl (by have _h1 := (fun g hg => _lo0_3 g (_bb45 ▸ hg)) _ hi; omega))
          obtain ⟨_Av48, _Cv48, _ev48⟩ := _q48.val
          subst _ev48
          have _lv48 := _q48.len
          have _hiv48 := _q48.lt
          refine WL_step rfl rfl (r_assign rfl) ?_
          refine WL_nil ?_
          refine inB_nrm ?_
          refine thn_nrm (_hK_13 _ _ ?_)
          clear _hK_13
          refine W_region ?_
          refine WL_step rfl rfl (r_add (by omega) rfl rfl) ?_
          refine WL_step rfl rfl (r_move rfl) ?_
          refine WL_nil ?_
          have _f_42 := (_m42.ch0 _cw_39)
          have _f_43 := ((_q40.ch0 _cw_36).ch0 _cw_39)
          obtain ⟨s2, _p2, k2, j2⟩ := Tks.push (tok := _y15) tks (by omega) hisv ((((((((Ch.refl [] _wr_9).trans _cw_16).step _cw_17 (fun i hi => .inl (by have _h1 := List.mem_singleton.1 hi; omega))).trans _cw_25).trans _cw_31).trans _cw_34).trans _cw_36).trans _cw_39) _f_42 (by omega) _f_43 (fun g hg => by have _h1 := _lo40 g hg; omega) _bb45 _cw_40 _ap48 (bt_d _h32) (by omega)
          have _on_44 : Ol acs 129 1 _w_40 (.slice _Av48 (((ps.take ((((ps.length : Nat) : Int) - (arK _y15.kind)).toNat)) ++ [(⟨_b42, 0, none⟩ : Addr)])).length _Cv48) (((ps.take ((((ps.length : Nat) : Int) - (arK _y15.kind)).toNat)) ++ [(⟨_b42, 0, none⟩ : Addr)])) := by
            have hx := _q48
            exact hx
          exact thn_nrm (Exists.intro ((i + 1), ((ps.take ((((ps.length : Nat) : Int) - (arK _y15.kind)).toNat)) ++ [(⟨_b42, 0, none⟩ : Addr)]), s2, (.slice _Av48 (((ps.take ((((ps.length : Nat) : Int) - (arK _y15.kind)).toNat)) ++ [(⟨_b42, 0, none⟩ : Addr)])).length _Cv48)) ⟨⟨E, (by omega), (by omega), (by simp only [List.length_append, List.length_take, List.length_singleton]; omega), (by omega), ((prs_snoc hp _hy15).trans _p2), _on_44, (Lo.down _lo48 (by omega)), k2⟩, Sub.cons rfl (Sub.cons rfl (Sub.cons rfl (Sub.cons rfl (Sub.nil _)))), (by first | omega | (dsimp only; omega))⟩)
    clear _hK_20
    refine W_seq fun _K_45 _hK_45 => ?_
    refine W_region ?_
    refine WL_step rfl rfl (r_fieldAddr fa126_0 rfl) ?_
    refine WL_step rfl rfl (r_loadAt _m_18.at_ agg3 rfl rfl) ?_
    refine WL_nil ?_
    refine thn_nrm (_hK_45 _ _ ?_)
    clear _hK_45
    refine W_block ?_
    refine W_seq fun _K_46 _hK_46 => ?_
    refine W_seq fun _K_47 _hK_47 => ?_
    refine W_region ?_
    refine WL_step rfl rfl (r_eql rfl rfl) ?_
    refine WL_step rfl rfl (r_assign rfl) ?_
    refine WL_nil ?_
    refine thn_nrm (_hK_47 _ _ ?_)
    clear _hK_47
    refine W_cond rfl (fun _h19 => ?_) (fun _h19 => ?_)
    · have _kb_48 := _h19
      have _h19 := bt_d _h19
      refine W_skip ?_
      refine thn_nrm (_hK_46 _ _ ?_)
      clear _hK_46
      refine W_condTk rfl _kb_48 ?_
      refine W_region ?_
      refine WL_step rfl rfl (r_assign rfl) ?_
      refine WL_nil ?_
      refine inB_nrm ?_
      refine thn_nrm ?_
      exact _J_21 _ (Sub.cons rfl (Sub.cons rfl (Sub.cons (by unfold arK; first | rfl | (repeat (first | rw [if_pos (by omega)] | rw [if_neg (by omega)])) <;> rfl) (Sub.cons rfl (Sub.cons rfl (Sub.cons rfl (Sub.cons rfl (Sub.cons rfl (Sub.cons rfl (Sub.nil _))))))))))
    · have _kb_48 := _h19
      have _h19 := bf_d _h19
      refine W_region ?_
      refine WL_step rfl rfl (r_eql rfl rfl) ?_
      refine WL_step rfl rfl (r_assign rfl) ?_
      refine WL_nil ?_
      refine thn_nrm (_hK_46 _ _ ?_)
      clear _hK_46
      refine W_cond rfl (fun _h19 => ?_) (fun _h19 => ?_)
      · have _kb_49 := _h19
        have _h19 := bt_d _h19
        refine W_region ?_
        refine WL_step rfl rfl (r_assign rfl) ?_
        refine WL_nil ?_
        refine inB_nrm ?_
        refine thn_nrm ?_
        exact _J_21 _ (Sub.cons rfl (Sub.cons rfl (Sub.cons (by unfold arK; first | rfl | (repeat (first | rw [if_pos (by omega)] | rw [if_neg (by omega)])) <;> rfl) (Sub.cons rfl (Sub.cons rfl (Sub.cons rfl (Sub.cons rfl (Sub.cons rfl (Sub.cons rfl (Sub.nil _))))))))))
      · have _kb_49 := _h19
        have _h19 := bf_d _h19
        refine W_seq fun _K_50 _hK_50 => ?_
        refine W_seq fun _K_51 _hK_51 => ?_
        refine W_region ?_
        refine WL_step rfl rfl (r_eql rfl rfl) ?_
        refine WL_step rfl rfl (r_assign rfl) ?_
        refine WL_nil ?_
        refine thn_nrm (_hK_51 _ _ ?_)
        clear _hK_51
        refine W_cond rfl (fun _h22 => ?_) (fun _h22 => ?_)
        · have _kb_52 := _h22
          have _h22 := bt_d _h22
          refine W_skip ?_
          refine thn_nrm (_hK_50 _ _ ?_)
          clear _hK_50
          refine W_condTk rfl _kb_52 ?_
          refine W_region ?_
          refine WL_step rfl rfl (r_assign rfl) ?_
          refine WL_nil ?_
          refine inB_nrm ?_
          refine thn_nrm ?_
          exact _J_21 _ (Sub.cons rfl (Sub.cons rfl (Sub.cons (by unfold arK; first | rfl | (repeat (first | rw [if_pos (by omega)] | rw [if_neg (by omega)])) <;> rfl) (Sub.cons rfl (Sub.cons rfl (Sub.cons rfl (Sub.cons rfl (Sub.cons rfl (Sub.cons rfl (Sub.nil _))))))))))
        · have _kb_52 := _h22
          have _h22 := bf_d _h22
          refine W_region ?_
          refine WL_step rfl rfl (r_eql rfl rfl) ?_
          refine WL_step rfl rfl (r_assign rfl) ?_
          refine WL_nil ?_
          refine thn_nrm (_hK_50 _ _ ?_)
          clear _hK_50
          refine W_cond rfl (fun _h22 => ?_) (fun _h22 => ?_)
          · have _kb_53 := _h22
            have _h22 := bt_d _h22
            refine W_region ?_
            refine WL_step rfl rfl (r_assign rfl) ?_
            refine WL_nil ?_
            refine inB_nrm ?_
            refine thn_nrm ?_
            exact _J_21 _ (Sub.cons rfl (Sub.cons rfl (Sub.cons (by unfold arK; first | rfl | (repeat (first | rw [if_pos (by omega)] | rw [if_neg (by omega)])) <;> rfl) (Sub.cons rfl (Sub.cons rfl (Sub.cons rfl (Sub.cons rfl (Sub.cons rfl (Sub.cons rfl (Sub.nil _))))))))))
          · have _kb_53 := _h22
            have _h22 := bf_d _h22
            refine W_skip ?_
            refine inB_nrm ?_
            refine thn_nrm ?_
            exact _J_21 _ (Sub.cons rfl (Sub.cons rfl (Sub.cons (by unfold arK; first | rfl | (repeat (first | rw [if_pos (by omega)] | rw [if_neg (by omega)])) <;> rfl) (Sub.cons rfl (Sub.cons rfl (Sub.cons rfl (Sub.cons rfl (Sub.cons rfl (Sub.cons rfl (Sub.nil _))))))))))
  · have _kb_12 := _h14
    have _h14 := bf_d _h14
    refine W_exit (thn_exit (thn_exit (inB_hit ?_)))
    refine thn_nrm (_hK_5 _ _ ?_)
    clear _hK_5
    refine W_seq fun _K_54 _hK_54 => ?_
    refine W_seq fun _K_55 _hK_55 => ?_
    refine W_region ?_
    refine WL_step rfl rfl (r_move rfl) ?_
    refine WL_step rfl rfl (r_len (by rw [el189]; rfl) rfl) ?_
    refine WL_step rfl rfl (r_neq rfl rfl) ?_
    refine WL_nil ?_
    refine thn_nrm (_hK_55 _ _ ?_)
    clear _hK_55
    refine W_cond rfl (fun _h52 => ?_) (fun _h52 => ?_)
    · have _kb_56 := _h52
      have _h52 := bf_d (bt_n _h52)
      refine W_seq fun _K_57 _hK_57 => ?_
      refine W_region ?_
      refine WL_step rfl rfl (r_assign rfl) ?_
      refine WL_nil ?_
      refine thn_nrm (_hK_57 _ _ ?_)
      clear _hK_57
      refine W_ret (thn_ret ?_)
      clear _hK_11 _hK_54
      exact ret_intro [_] ⟨rfl, trivial⟩ ⟨.inl ⟨(by first | exact treeL_none hp (by omega) (by omega) | exact isE_no hp _hy15 (push_bad (by first | exact .inl _h32 | (right; omega)))), rfl⟩, E⟩
    · have _kb_56 := _h52
      have _h52 := bt_d (bf_n _h52)
      refine W_skip ?_
      refine thn_nrm (_hK_54 _ _ ?_)
      clear _hK_54
      refine W_seq fun _K_58 _hK_58 => ?_
      refine W_region ?_
      refine WL_step rfl rfl (r_move rfl) ?_
      refine WL_s rfl rfl ?_
      refine (s_index (j := 0) _o0_3.ls acs_len el189 sz129 rfl rfl rfl (by omega) fun _p54 _y54 _hy54 _a54 => ?_)
      replace _a54 : At _wr_9 0 _wr_9.heap.size _p54 ([(.pointer (some _y54))]) := _a54
      obtain ⟨_t9, _e9, k9⟩ := tks.one (by omega) _hy54
      subst _e9
      refine WL_step rfl rfl (r_loadAt0 _a54 agg129 rfl rfl) ?_
      refine WL_step rfl rfl (r_assign rfl) ?_
      refine WL_nil ?_
      refine thn_nrm (_hK_58 _ _ ?_)
      clear _hK_58
      refine W_ret ?_
      clear _hK_11
      exact ret_intro [_] ⟨rfl, trivial⟩ ⟨.inr ⟨_, _, (treeL_some hp (by omega)), rfl, k9⟩, E⟩

/-- impl.IsExpr -/
theorem c_impl_IsExpr {w : World} {LL_e _B_e : Nat} {_v_e : Value} {e : List Token} (_h_e : Ls Token.cs 4 w LL_e _B_e _v_e e) (hb : e.length ≤ 1048576) :
    Ctr Try.prog 53 #[(.agg #[_v_e])] w (fun v w' => v = .bool (isE e) ∧ Ch [] w w') := by
  obtain ⟨_A_e, _C_e, _e1_e⟩ := _h_e.val
  subst _e1_e
  have _l_e := _h_e.len
  have _h_e := _h_e.here (by decide)
  have E := Ch.refl [] w
  refine Ctr_of_W (N := 6) (vs0 := [(.agg #[(.slice _A_e e.length _C_e)])]) Try.func53 rfl rfl rfl ?_
  refine W_seq fun _K_1 _hK_1 => ?_
  refine W_region ?_
  refine WL_s rfl rfl ?_
  refine s_box rfl fun _b1 _w_2 _m1 _cw_2 _e1 => ?_
  have _cw_2z := _cw_2.size
  have E := E.trans _cw_2
  have _z1 := _m1.lt
  replace _m1 : Blk _w_2 _b1 67 [(.slice _A_e e.length _C_e)] := _m1
  refine WL_step rfl rfl (r_assign rfl) ?_
  refine WL_nil ?_
  refine thn_nrm (_hK_1 _ _ ?_)
  clear _hK_1
  refine W_seq fun _K_3 _hK_3 => ?_
  refine W_region ?_
  refine WL_step rfl rfl (r_loadAtA0 _m1.at_ agg67 sz67 rfl) ?_
  refine WL_s rfl rfl ?_
  have _f_4 := (_h_e.ch0 _cw_2)
  refine Step.call (r_call (xs := [.tmp 3]) fk122 rfl) (c_impl_treeOf _f_4 (by omega)) fun _v4 _w_5 _q4 => ?_
  obtain ⟨_q4, _cw_5⟩ := _q4
  have _cw_5z := _cw_5.size
  have E := E.trans _cw_5
  rcases _q4 with ⟨_e4, rfl⟩ | ⟨tt4, _p4, _e4, rfl, _tr4⟩
  · refine WL_step rfl rfl (r_nePN ptr129 rfl rfl) ?_
    refine WL_step rfl rfl (r_assign rfl) ?_
    refine WL_nil ?_
    refine thn_nrm (_hK_3 _ _ ?_)
    clear _hK_3
    refine W_ret ?_
    exact ret_intro [_] ⟨rfl, trivial⟩ ⟨congrArg Value.bool (by first | exact isE_some _e4 | exact isE_none _e4), E⟩
  · replace _tr4 : TrAt _w_5 _w_2.heap.size _w_5.heap.size _p4 tt4 := _tr4
    obtain ⟨_A_4, _C_4, _ps_4, _hc_4, _hk_4, _kd_4⟩ := _tr4.open
    have _kl_4 := _kd_4.1
    refine WL_step rfl rfl (r_nePN ptr129 rfl rfl) ?_
    refine WL_step rfl rfl (r_assign rfl) ?_
    refine WL_nil ?_
    refine thn_nrm (_hK_3 _ _ ?_)
    clear _hK_3
    refine W_ret ?_
    exact ret_intro [_] ⟨rfl, trivial⟩ ⟨congrArg Value.bool (by first | exact isE_some _e4 | exact isE_none _e4), E⟩

/-- impl.IsValidExpr -/
theorem c_impl_IsValidExpr {w : World} {LL_e _B_e : Nat} {_v_e : Value} {e : List Token} (_h_e : Ls Token.cs 4 w LL_e _B_e _v_e e) (hb : e.length ≤ 1048576) :
    Ctr Try.prog 128 #[(.agg #[_v_e])] w (fun v w' => v = .bool (ivE e) ∧ Ch [] w w') := by
  obtain ⟨_A_e, _C_e, _e1_e⟩ := _h_e.val
  subst _e1_e
  have _l_e := _h_e.len
  have _h_e := _h_e.here (by decide)
  have E := Ch.refl [] w
  refine Ctr_of_W (N := 11) (vs0 := [(.agg #[(.slice _A_e e.length _C_e)])]) Try.func128 rfl rfl rfl ?_
  refine W_seq fun _K_1 _hK_1 => ?_
  refine W_region ?_
  refine WL_s rfl rfl ?_
  refine s_box rfl fun _b1 _w_2 _m1 _cw_2 _e1 => ?_
  have _cw_2z := _cw_2.size
  have E := E.trans _cw_2
  have _z1 := _m1.lt
  replace _m1 : Blk _w_2 _b1 67 [(.slice _A_e e.length _C_e)] := _m1
  refine WL_step rfl rfl (r_assign rfl) ?_
  refine WL_nil ?_
  refine thn_nrm (_hK_1 _ _ ?_)
  clear _hK_1
  refine W_seq fun _K_3 _hK_3 => ?_
  refine W_region ?_
  refine WL_step rfl rfl (r_fieldAddr fa67_0 rfl) ?_
  refine WL_step rfl rfl (r_loadAt _m1.at_ agg65 rfl rfl) ?_
  refine WL_step rfl rfl (r_len (by rw [el65]; rfl) rfl) ?_
  refine WL_step rfl rfl (r_leq rfl rfl) ?_
  refine WL_step rfl rfl (r_move rfl) ?_
  refine WL_split (d := 7) rfl (fun _h7 => ?_) (fun _h7 => ?_)
  · have _kb_4 := _h7
    have _h7 := bt_d _h7
    refine WL_step rfl rfl (r_loadAtA0 _m1.at_ agg67 sz67 rfl) ?_
    refine WL_s rfl rfl ?_
    have _f_5 := (_h_e.ch0 _cw_2)
    refine Step.call (r_call (xs := [.tmp 8]) fk53 rfl) (c_impl_IsExpr _f_5 (by omega)) fun _v9 _w_6 _q9 => ?_
    obtain ⟨rfl, _cw_6⟩ := _q9
    have _cw_6z := _cw_6.size
    have E := E.trans _cw_6
    refine WL_step rfl rfl (r_pickT rfl rfl) ?_
    refine WL_step rfl rfl (r_assign rfl) ?_
    refine WL_nil ?_
    refine thn_nrm (_hK_3 _ _ ?_)
    clear _hK_3
    refine W_ret ?_
    exact ret_intro [_] ⟨rfl, trivial⟩ ⟨congrArg Value.bool (by unfold ivE; first | (rw [decide_eq_true (by omega)]; rfl) | (rw [decide_eq_false (by omega)]; rfl)), E⟩
  · have _kb_4 := _h7
    have _h7 := bf_d _h7
    refine WL_skip rfl rfl ?_
    refine WL_skip rfl rfl ?_
    refine WL_step rfl rfl (r_pickF rfl rfl) ?_
    refine WL_step rfl rfl (r_assign rfl) ?_
    refine WL_nil ?_
    refine thn_nrm (_hK_3 _ _ ?_)
    clear _hK_3
    refine W_ret ?_
    exact ret_intro [_] ⟨rfl, trivial⟩ ⟨congrArg Value.bool (by unfold ivE; first | (rw [decide_eq_true (by omega)]; rfl) | (rw [decide_eq_false (by omega)]; rfl)), E⟩

/-- impl.IsWord -/
theorem c_impl_IsWord {w : World} {LL_wd _B_wd : Nat} {_v_wd : Value} {wd : List Int} (_h_wd : Ls ics 1 w LL_wd _B_wd _v_wd wd) :
    Ctr Try.prog 129 #[_v_wd] w (fun v w' => v = .bool (tt (IsWd wd)) ∧ Ch [] w w') := by
  obtain ⟨_A_wd, _C_wd, _e1_wd⟩ := _h_wd.val
  subst _e1_wd
  have _l_wd := _h_wd.len
  have _h_wd := _h_wd.here (by decide)
  have E := Ch.refl [] w
  refine Ctr_of_W (N := 18) (vs0 := [(.slice _A_wd wd.length _C_wd)]) Try.func129 rfl rfl rfl ?_
  refine W_seq fun _K_1 _hK_1 => ?_
  refine W_region ?_
  refine WL_step rfl rfl (r_assign rfl) ?_
  refine WL_nil ?_
  refine thn_nrm (_hK_1 _ _ ?_)
  clear _hK_1
  refine W_seq fun _K_2 _hK_2 => ?_
  refine W_seq fun _K_3 _hK_3 => ?_
  refine W_region ?_
  refine WL_step rfl rfl (r_move rfl) ?_
  refine WL_step rfl rfl (r_len (by rw [el30]; rfl) rfl) ?_
  refine WL_step rfl rfl (r_move rfl) ?_
  refine WL_nil ?_
  refine thn_nrm (_hK_3 _ _ ?_)
  clear _hK_3
  refine W_block ?_
  refine W_loop (σ := Nat) (fun (k : Nat) => [(0, (.slice _A_wd wd.length _C_wd)), (5, (.slice _A_wd wd.length _C_wd)), (6, (.int .i64 ((wd.length : Nat) : Int))), (7, (.int .i64 ((k : Nat) : Int)))]) (fun (k : Nat) wx => Ch [] w wx ∧ w.heap.size ≤ wx.heap.size ∧ (k ≤ wd.length) ∧ (WdP wd k)) (fun (k : Nat) => wd.length - k) 0 (Sub.cons rfl (Sub.cons rfl (Sub.cons rfl (Sub.cons rfl (Sub.nil _))))) ⟨E, (Nat.le_refl _), (by omega), (wd_zero _)⟩ ?_
  rintro k _wr_4 ⟨E, _zz0, _hk, _ht⟩
  have _E0h := E
  have _E0hz := _E0h.size
  refine W_seq fun _K_5 _hK_5 => ?_
  refine W_region ?_
  refine WL_step rfl rfl (r_lss rfl rfl) ?_
  refine WL_nil ?_
  refine thn_nrm (_hK_5 _ _ ?_)
  clear _hK_5
  refine W_seq fun _K_6 _hK_6 => ?_
  refine W_cond rfl (fun _h8 => ?_) (fun _h8 => ?_)
  · have _kb_7 := _h8
    have _h8 := bt_d _h8
    refine W_skip ?_
    refine thn_nrm (_hK_6 _ _ ?_)
    clear _hK_6
    refine W_seq fun _K_8 _hK_8 => ?_
    refine W_block ?_
    refine W_seq fun _K_9 _hK_9 => ?_
    refine W_region ?_
    refine WL_s rfl rfl ?_
    have _f_10 := (_h_wd.ch0 _E0h)
    refine (s_index _f_10 ics_len el30 sz3 rfl rfl rfl (by omega) fun _p9 _y9 _hy9 _a9 => ?_)
    refine WL_step rfl rfl (r_loadAt0 _a9 agg3 rfl rfl) ?_
    refine WL_step rfl rfl (r_assign rfl) ?_
    refine WL_nil ?_
    refine thn_nrm (_hK_9 _ _ ?_)
    clear _hK_9
    refine W_seq fun _K_11 _hK_11 => ?_
    refine W_region ?_
    refine WL_step rfl rfl (r_move rfl) ?_
    refine WL_s rfl rfl ?_
    refine Step.call (r_call (xs := [.tmp 11]) fk145 rfl) (c_impl_isLetter _ ) fun _v12 _w_12 _q12 => ?_
    obtain ⟨rfl, _cw_12⟩ := _q12
    have _cw_12z := _cw_12.size
    have E := E.trans _cw_12
    refine WL_step rfl rfl (r_not rfl) ?_
    refine WL_nil ?_
    refine thn_nrm (_hK_11 _ _ ?_)
    clear _hK_11
    refine W_cond rfl (fun _h13 => ?_) (fun _h13 => ?_)
    · have _kb_13 := _h13
      have _h13 := bf_d (bt_n _h13)
      refine W_seq fun _K_14 _hK_14 => ?_
      refine W_region ?_
      refine WL_step rfl rfl (r_assign rfl) ?_
      refine WL_nil ?_
      refine thn_nrm (_hK_14 _ _ ?_)
      clear _hK_14
      refine W_ret (inB_ret (thn_ret (thn_ret (inB_ret (thn_ret ?_)))))
      clear _hK_2 _hK_8
      exact ret_intro [_] ⟨rfl, trivial⟩ ⟨congrArg Value.bool (by first | exact tt_false (fun e => _h13 (wd_val e _hy9)) | (rw [tt_dec]; exact tt_eq ⟨fun e => ⟨wd_all _ht (by omega), by omega⟩, fun e => by have := e.2; omega⟩)), E⟩
    · have _kb_13 := _h13
      have _h13 := bt_d (bf_n _h13)
      refine W_skip ?_
      refine inB_nrm ?_
      refine thn_nrm (_hK_8 _ _ ?_)
      clear _hK_8
      refine W_region ?_
      refine WL_step rfl rfl (r_add (by omega) rfl rfl) ?_
      refine WL_step rfl rfl (r_move rfl) ?_
      refine WL_nil ?_
      exact thn_nrm (Exists.intro (k + 1) ⟨⟨E, (by omega), (by omega), (wd_step _ht _hy9 _h13)⟩, Sub.cons rfl (Sub.cons rfl (Sub.cons rfl (Sub.cons rfl (Sub.nil _)))), (by first | omega | (dsimp only; omega))⟩)
  · have _kb_7 := _h8
    have _h8 := bf_d _h8
    refine W_exit (thn_exit (thn_exit (inB_hit ?_)))
    refine thn_nrm (_hK_2 _ _ ?_)
    clear _hK_2
    refine W_seq fun _K_15 _hK_15 => ?_
    refine W_region ?_
    refine WL_step rfl rfl (r_move rfl) ?_
    refine WL_step rfl rfl (r_len (by rw [el30]; rfl) rfl) ?_
    refine WL_step rfl rfl (r_leq rfl rfl) ?_
    refine WL_step rfl rfl (r_assign rfl) ?_
    refine WL_nil ?_
    refine thn_nrm (_hK_15 _ _ ?_)
    clear _hK_15
    refine W_ret ?_
    clear _hK_6
    exact ret_intro [_] ⟨rfl, trivial⟩ ⟨congrArg Value.bool (by first | exact tt_false (fun e => _h13 (wd_val e _hy9)) | (rw [tt_dec]; exact tt_eq ⟨fun e => ⟨wd_all _ht (by omega), by omega⟩, fun e => by have := e.2; omega⟩)), E⟩

/-- impl.ways -/
theorem c_impl_ways {w : World} (n : Nat) (stay : Bool) (hb : n ≤ 4097) :
    Ctr Try.prog 203 #[(.int .i64 ((n : Nat) : Int)), (.bool stay)] w (fun v w' => ∃ (_u0 : Value) (vs0 : List Sv), v = _u0 ∧ Ol Sv.cs 24 1 w' _u0 vs0 ∧ Lo w.heap.size _u0 ∧ Od bcs 4 1 w' w.heap.size w'.heap.size vs0 (grd n (idM stay)) ∧ Sep _u0 vs0 ∧ Ch [] w w') := by
  have E := Ch.refl [] w
  refine Ctr_of_W (N := 28) (vs0 := [(.int .i64 ((n : Nat) : Int)), (.bool stay)]) Try.func203 rfl rfl rfl ?_
  refine W_seq fun _K_1 _hK_1 => ?_
  refine W_region ?_
  refine WL_step rfl rfl (r_assign rfl) ?_
  refine WL_nil ?_
  refine thn_nrm (_hK_1 _ _ ?_)
  clear _hK_1
  refine W_seq fun _K_2 _hK_2 => ?_
  refine W_region ?_
  refine WL_step rfl rfl (r_move rfl) ?_
  refine WL_s rfl rfl ?_
  refine s_make (cs := Sv.cs) (⟨none, 0, 0⟩ : Sv) el194 sz24 by24 zr24 Sv.len (by decide) rfl rfl (by omega) (by omega) fun _v8 _w_3 _q8 _lo8 _cw_3 => ?_
  have _cw_3z := _cw_3.size
  have E := E.trans _cw_3
  obtain ⟨_Av8, _Cv8, _ev8⟩ := _q8.val
  subst _ev8
  have _lv8 := _q8.len
  have _hiv8 := _q8.lt
  refine WL_step rfl rfl (r_assign rfl) ?_
  refine WL_nil ?_
  refine thn_nrm (_hK_2 _ _ ?_)
  clear _hK_2
  refine W_seq fun _K_4 _hK_4 => ?_
  refine W_seq fun _K_5 _hK_5 => ?_
  refine W_region ?_
  refine WL_step rfl rfl (r_move rfl) ?_
  refine WL_step rfl rfl (r_len (by rw [el194]; rfl) rfl) ?_
  refine WL_step rfl rfl (r_move rfl) ?_
  refine WL_nil ?_
  refine thn_nrm (_hK_5 _ _ ?_)
  clear _hK_5
  refine W_block ?_
  have _oi_6 : Ol Sv.cs 24 1 _w_3 (.slice _Av8 ((List.replicate n (⟨none, 0, 0⟩ : Sv))).length _Cv8) (([] : List Sv) ++ List.replicate (n - 0) (⟨none, 0, 0⟩ : Sv)) := by
    have hx := _q8
    simpa using hx
  refine W_loop (σ := Nat × List Sv) (fun ⟨i, vs⟩ => [(0, (.int .i64 ((n : Nat) : Int))), (1, (.bool stay)), (4, (.slice none 0 0)), (5, (.slice _Av8 ((List.replicate n (⟨none, 0, 0⟩ : Sv))).length _Cv8)), (10, (.int .i64 (((List.replicate n (⟨none, 0, 0⟩ : Sv)).length : Nat) : Int))), (11, (.int .i64 ((i : Nat) : Int)))]) (fun ⟨i, vs⟩ wx => Ch [] w wx ∧ _w_3.heap.size ≤ wx.heap.size ∧ (i ≤ n) ∧ (vs.length = i) ∧ Ol Sv.cs 24 1 wx (.slice _Av8 ((List.replicate n (⟨none, 0, 0⟩ : Sv))).length _Cv8) (vs ++ List.replicate (n - i) (⟨none, 0, 0⟩ : Sv)) ∧ Od bcs 4 1 wx _w_3.heap.size wx.heap.size vs ((grd n (idM stay)).take i)) (fun ⟨i, vs⟩ => n - i) (0, ([] : List Sv)) (Sub.cons rfl (Sub.cons rfl (Sub.cons rfl (Sub.cons rfl (Sub.cons rfl (Sub.cons rfl (Sub.nil _))))))) ⟨E, (Nat.le_refl _), (by omega), rfl, _oi_6, Od.nil⟩ ?_
  rintro ⟨i, vs⟩ _wr_7 ⟨E, _zz0, hi, hvl, _o0_5, od⟩
  have _E0h := E
  have _E0hz := _E0h.size
  refine W_seq fun _K_8 _hK_8 => ?_
  refine W_region ?_
  refine WL_step rfl rfl (r_lss rfl rfl) ?_
  refine WL_nil ?_
  refine thn_nrm (_hK_8 _ _ ?_)
  clear _hK_8
  refine W_seq fun _K_9 _hK_9 => ?_
  refine W_cond rfl (fun _h12 => ?_) (fun _h12 => ?_)
  · have _kb_10 := _h12
    have _h12 := bt_d _h12
    simp only [List.length_replicate] at _h12
    refine W_skip ?_
    refine thn_nrm (_hK_9 _ _ ?_)
    clear _hK_9
    refine W_seq fun _K_11 _hK_11 => ?_
    refine W_block ?_
    refine W_seq fun _K_12 _hK_12 => ?_
    refine W_region ?_
    refine WL_step rfl rfl (r_move rfl) ?_
    refine WL_step rfl rfl (r_assign rfl) ?_
    refine WL_nil ?_
    refine thn_nrm (_hK_12 _ _ ?_)
    clear _hK_12
    refine W_seq fun _K_13 _hK_13 => ?_
    refine W_region ?_
    refine WL_step rfl rfl (r_move rfl) ?_
    refine WL_step rfl rfl (r_move rfl) ?_
    refine WL_step rfl rfl (r_move rfl) ?_
    refine WL_s rfl rfl ?_
    refine s_make (cs := bcs) false el24 sz4 by4 zr4 bcs_len (by decide) rfl rfl (by omega) (by omega) fun _v17 _w_14 _q17 _lo17 _cw_14 => ?_
    have _cw_14z := _cw_14.size
    have E := E.trans _cw_14
    obtain ⟨_Av17, _Cv17, _ev17⟩ := _q17.val
    subst _ev17
    have _lv17 := _q17.len
    have _hiv17 := _q17.lt
    refine WL_s rfl rfl ?_
    have _f_15 := (_o0_5.ch0 _cw_14)
    refine s_indexO (j := i) _f_15 el194 sz24 rfl rfl rfl (by first | omega | (simp; omega)) fun _g18 _o18 _cp18 _q18 => ?_
    refine WL_s rfl rfl ?_
    refine s_storeO (j := i) (⟨_Av17, ((List.replicate n false)).length, _Cv17⟩ : Sv) _f_15 _q18 Sv.len sz24 rfl rfl rfl rfl (by first | omega | (simp; omega)) fun _w_16 _o_17 _cw_16 => ?_
    have _cw_16z := _cw_16.size
    have E := E.step _cw_16 (fun i hi => .inl (by have _h1 := _lo8 _ hi; omega))
    refine WL_nil ?_
    refine thn_nrm (_hK_13 _ _ ?_)
    clear _hK_13
    refine W_region ?_
    refine WL_step rfl rfl (r_move rfl) ?_
    refine WL_step rfl rfl (r_move rfl) ?_
    refine WL_s rfl rfl ?_
    refine (s_index _o_17.ls Sv.len el194 sz24 rfl rfl rfl (by first | omega | (simp; omega)) fun _p21 _y21 _hy21 _a21 => ?_)
    obtain rfl := get_uniq (List.getElem?_set_self (by simp; omega)) _hy21
    replace _a21 : At _w_16 0 _w_16.heap.size _p21 ([(.slice _Av17 ((List.replicate n false)).length _Cv17)]) := _a21
    refine WL_step rfl rfl (r_loadAt0 _a21 agg24 rfl rfl) ?_
    refine WL_step rfl rfl (r_move rfl) ?_
    refine WL_step rfl rfl (r_move rfl) ?_
    refine WL_s rfl rfl ?_
    have _f_18 := (_q17.ch _cw_16 (fun g hg hm => by have _h1 := _lo8 _ hm; have _h2 := _hiv8 _ hm; have _h3 := _lo17 _ hg; have _h4 := _hiv17 _ hg; omega))
    refine s_indexO (j := i) _f_18 el24 sz4 rfl rfl rfl (by first | omega | (simp; omega)) fun _g25 _o25 _cp25 _q25 => ?_
    refine WL_s rfl rfl ?_
    refine s_storeO (j := i) stay _f_18 _q25 bcs_len sz4 rfl rfl rfl rfl (by first | omega | (simp; omega)) fun _w_19 _o_20 _cw_19 => ?_
    have _cw_19z := _cw_19.size
    have E := E.step _cw_19 (fun i hi => .inl (by have _h1 := _lo17 _ hi; omega))
    refine WL_nil ?_
    refine inB_nrm ?_
    refine thn_nrm (_hK_11 _ _ ?_)
    clear _hK_11
    refine W_region ?_
    refine WL_step rfl rfl (r_add (by omega) rfl rfl) ?_
    refine WL_step rfl rfl (r_move rfl) ?_
    refine WL_nil ?_
    have _f_22 := (_o_17.ch _cw_19 (fun g hg hm => by have _h1 := _lo17 _ hm; have _h2 := _hiv17 _ hm; have _h3 := _lo8 _ hg; have _h4 := _hiv8 _ hg; omega))
    have _on_21 : Ol Sv.cs 24 1 _w_19 (.slice _Av8 ((List.replicate n (⟨none, 0, 0⟩ : Sv))).length _Cv8) ((vs ++ [(⟨_Av17, ((List.replicate n false)).length, _Cv17⟩ : Sv)]) ++ List.replicate (n - (i + 1)) (⟨none, 0, 0⟩ : Sv)) := by
      have hx := _f_22
      rwa [fill_sv hvl (by omega)] at hx
    have _f_23 := (((od.ch0 _cw_14).ch _cw_16 (fun i hm => by have _h1 := _lo8 _ hm; have _h2 := _hiv8 _ hm; omega)).ch _cw_19 (fun i hm => by have _h1 := _lo17 _ hm; have _h2 := _hiv17 _ hm; omega))
    exact thn_nrm (Exists.intro ((i + 1), (vs ++ [(⟨_Av17, ((List.replicate n false)).length, _Cv17⟩ : Sv)])) ⟨⟨E, (by omega), (by omega), (by simp [hvl]), _on_21, (by rw [take_snoc (grd_get (by omega))]; exact Od.snoc _f_23 (_o_20.eq (by exact row_id)) (Lo.down _lo17 (by omega)) (fun g hg => by have _h1 := _hiv17 g hg; omega) (by omega) (by omega))⟩, Sub.cons rfl (Sub.cons rfl (Sub.cons rfl (Sub.cons rfl (Sub.cons rfl (Sub.cons rfl (Sub.nil _)))))), (by first | omega | (dsimp only; omega))⟩)
  · have _kb_10 := _h12
    have _h12 := bf_d _h12
    simp only [List.length_replicate] at _h12
    refine W_exit (thn_exit (thn_exit (inB_hit ?_)))
    refine thn_nrm (_hK_4 _ _ ?_)
    clear _hK_4
    refine W_seq fun _K_24 _hK_24 => ?_
    refine W_region ?_
    refine WL_step rfl rfl (r_move rfl) ?_
    refine WL_step rfl rfl (r_assign rfl) ?_
    refine WL_nil ?_
    refine thn_nrm (_hK_24 _ _ ?_)
    clear _hK_24
    refine W_ret ?_
    clear _hK_9
    have _o_25 : Ol Sv.cs 24 1 _wr_7 (.slice _Av8 ((List.replicate n (⟨none, 0, 0⟩ : Sv))).length _Cv8) vs := by
      have hx := _o0_5
      simpa [show n - i = 0 by omega] using hx
    have _o_26 : Od bcs 4 1 _wr_7 w.heap.size _wr_7.heap.size vs (grd n (idM stay)) := by
      have hx := od.up (lo' := w.heap.size) (hi' := _wr_7.heap.size) (by omega) (by omega)
      rwa [List.take_of_length_le (by rw [grd_len]; omega)] at hx
    exact ret_intro [_] ⟨rfl, trivial⟩ ⟨(.slice _Av8 ((List.replicate n (⟨none, 0, 0⟩ : Sv))).length _Cv8), vs, rfl, _o_25, (Lo.down _lo8 (by omega)), _o_26, (Od.sepO od (fun g hm => by have _h1 := _lo8 _ hm; have _h2 := _hiv8 _ hm; omega)), E⟩

/-- impl.either -/
theorem c_impl_either {w : World} {LL_sa _B_sa : Nat} {_v_sa : Value} {sa : List Sv} (_h_sa : Ls Sv.cs 1 w LL_sa _B_sa _v_sa sa) {LR_a BB_a : Nat} {a : List (List Bool)} (_rd_a : Rd bcs 1 w LR_a BB_a sa a) {LL_sb _B_sb : Nat} {_v_sb : Value} {sb : List Sv} (_h_sb : Ls Sv.cs 1 w LL_sb _B_sb _v_sb sb) {LR_b BB_b : Nat} {b : List (List Bool)} (_rd_b : Rd bcs 1 w LR_b BB_b sb b) (n : Nat) (A : Nat → Nat → Bool) (B : Nat → Nat → Bool) (ha : a = grd n A) (hb : b = grd n B) (ta : Tri A) (tb : Tri B) (hn : n ≤ 4097) :
    Ctr Try.prog 205 #[_v_sa, _v_sb] w (fun v w' => ∃ (_u0 : Value) (vs0 : List Sv), v = _u0 ∧ Ol Sv.cs 24 1 w' _u0 vs0 ∧ Lo w.heap.size _u0 ∧ Od bcs 4 1 w' w.heap.size w'.heap.size vs0 (grd n (oeM A B)) ∧ Sep _u0 vs0 ∧ Ch [] w w') := by
  obtain ⟨_A_sa, _C_sa, _e1_sa⟩ := _h_sa.val
  subst _e1_sa
  have _l_sa := _h_sa.len
  have _h_sa := _h_sa.here (by decide)
  have _rd_a := _rd_a.here (by decide)
  have _rl_a := _rd_a.1
  obtain ⟨_A_sb, _C_sb, _e1_sb⟩ := _h_sb.val
  subst _e1_sb
  have _l_sb := _h_sb.len
  have _h_sb := _h_sb.here (by decide)
  have _rd_b := _rd_b.here (by decide)
  have _rl_b := _rd_b.1
  have E := Ch.refl [] w
  have _ln9 : sa.length = n := (by rw [_rl_a, ha, grd_len]); have _ln8 : sb.length = n := (by rw [_rl_b, hb, grd_len])
  refine Ctr_of_W (N := 49) (vs0 := [(.slice _A_sa sa.length _C_sa), (.slice _A_sb sb.length _C_sb)]) Try.func205 rfl rfl rfl ?_
  refine W_seq fun _K_1 _hK_1 => ?_
  refine W_region ?_
  refine WL_step rfl rfl (r_assign rfl) ?_
  refine WL_nil ?_
  refine thn_nrm (_hK_1 _ _ ?_)
  clear _hK_1
  refine W_seq fun _K_2 _hK_2 => ?_
  refine W_region ?_
  refine WL_step rfl rfl (r_move rfl) ?_
  refine WL_step rfl rfl (r_len (by rw [el194]; rfl) rfl) ?_
  refine WL_s rfl rfl ?_
  refine Step.call (r_call (xs := [.tmp 9, .const (Go.Value.bool false)]) fk203 rfl) (c_impl_ways sa.length _ (by omega)) fun _v10 _w_3 _q10 => ?_
  obtain ⟨u10_0, _vs10_0, rfl, _q_u10_0, _lo_u10_0, _od_vs10_0, _sep_vs10_0, _cw_3⟩ := _q10
  have _cw_3z := _cw_3.size
  have E := E.trans _cw_3
  obtain ⟨Au10_0, Cu10_0, eu10_0⟩ := _q_u10_0.val
  subst eu10_0
  have lu10_0 := _q_u10_0.len
  have _hiu10_0 := _q_u10_0.lt
  refine WL_step rfl rfl (r_assign rfl) ?_
  refine WL_nil ?_
  refine thn_nrm (_hK_2 _ _ ?_)
  clear _hK_2
  refine W_seq fun _K_4 _hK_4 => ?_
  refine W_seq fun _K_5 _hK_5 => ?_
  refine W_region ?_
  refine WL_step rfl rfl (r_move rfl) ?_
  refine WL_step rfl rfl (r_len (by rw [el194]; rfl) rfl) ?_
  refine WL_step rfl rfl (r_move rfl) ?_
  refine WL_nil ?_
  refine thn_nrm (_hK_5 _ _ ?_)
  clear _hK_5
  refine W_block ?_
  refine W_loop (σ := Nat) (fun (i : Nat) => [(0, (.slice _A_sa sa.length _C_sa)), (1, (.slice _A_sb sb.length _C_sb)), (4, (.slice none 0 0)), (5, (.slice Au10_0 (_vs10_0).length Cu10_0)), (12, (.int .i64 ((sa.length : Nat) : Int))), (13, (.int .i64 ((i : Nat) : Int)))]) (fun (i : Nat) wx => Ch [] w wx ∧ _w_3.heap.size ≤ wx.heap.size ∧ (i ≤ n) ∧ Ol Sv.cs 24 1 wx (.slice Au10_0 (_vs10_0).length Cu10_0) _vs10_0 ∧ Od bcs 4 1 wx w.heap.size _w_3.heap.size _vs10_0 (grd n (upt (oeM A B) i 0))) (fun (i : Nat) => n - i) 0 (Sub.cons rfl (Sub.cons rfl (Sub.cons rfl (Sub.cons rfl (Sub.cons rfl (Sub.cons rfl (Sub.nil _))))))) ⟨E, (Nat.le_refl _), (by omega), _q_u10_0, (_od_vs10_0.eq (by rw [_ln9]; exact upt_zero))⟩ ?_
  rintro i _wr_6 ⟨E, _zz0, hi, _F0_4, od⟩
  have _E0h := E
  have _E0hz := _E0h.size
  refine W_seq fun _K_7 _hK_7 => ?_
  refine W_region ?_
  refine WL_step rfl rfl (r_lss rfl rfl) ?_
  refine WL_nil ?_
  refine thn_nrm (_hK_7 _ _ ?_)
  clear _hK_7
  refine W_seq fun _K_8 _hK_8 => ?_
  refine W_cond rfl (fun _h14 => ?_) (fun _h14 => ?_)
  · have _kb_9 := _h14
    have _h14 := bt_d _h14
    refine W_skip ?_
    refine thn_nrm (_hK_8 _ _ ?_)
    clear _hK_8
    refine W_seq fun _K_10 _hK_10 => ?_
    refine W_block ?_
    refine W_seq fun _K_11 _hK_11 => ?_
    refine W_region ?_
    refine WL_step rfl rfl (r_move rfl) ?_
    refine WL_step rfl rfl (r_assign rfl) ?_
    refine WL_nil ?_
    refine thn_nrm (_hK_11 _ _ ?_)
    clear _hK_11
    refine W_seq fun _K_12 _hK_12 => ?_
    refine W_region ?_
    refine WL_step rfl rfl (r_move rfl) ?_
    refine WL_step rfl rfl (r_move rfl) ?_
    refine WL_s rfl rfl ?_
    have _f_13 := (_h_sa.ch0 _E0h)
    refine (s_index _f_13 Sv.len el194 sz24 rfl rfl rfl (by omega) fun _p18 _y18 _hy18 _a18 => ?_)
    have _f_14 := (_rd_a.ch0 _E0h)
    obtain ⟨_ys18, _hys18, _fs18⟩ := _f_14.get _hy18
    obtain ⟨_A18, _n18, _C18⟩ := _y18
    obtain rfl := _fs18.eqn
    have _l18 := _fs18.len
    replace _fs18 : Ls bcs 1 _wr_6 LR_a w.heap.size (.slice _A18 _ys18.length _C18) _ys18 := _fs18
    replace _a18 : At _wr_6 LL_sa w.heap.size _p18 ([(.slice _A18 _ys18.length _C18)]) := _a18
    have rl18 := row_len ha _hys18
    refine WL_step rfl rfl (r_loadAt0 _a18 agg24 rfl rfl) ?_
    refine WL_step rfl rfl (r_len (by rw [el24]; rfl) rfl) ?_
    refine WL_step rfl rfl (r_move rfl) ?_
    refine WL_nil ?_
    refine thn_nrm (_hK_12 _ _ ?_)
    clear _hK_12
    refine W_block ?_
    refine W_loop (σ := Nat) (fun (j : Nat) => [(0, (.slice _A_sa sa.length _C_sa)), (1, (.slice _A_sb sb.length _C_sb)), (4, (.slice none 0 0)), (5, (.slice Au10_0 (_vs10_0).length Cu10_0)), (6, (.int .i64 ((i : Nat) : Int))), (12, (.int .i64 ((sa.length : Nat) : Int))), (13, (.int .i64 ((i : Nat) : Int))), (14, (.bool (decide (((i : Nat) : Int) < ((sa.length : Nat) : Int))))), (20, (.int .i64 ((_ys18.length : Nat) : Int))), (21, (.int .i64 ((j : Nat) : Int)))]) (fun (j : Nat) wx => Ch [] w wx ∧ _wr_6.heap.size ≤ wx.heap.size ∧ (j ≤ n) ∧ Ls Sv.cs 1 wx LL_sa w.heap.size (.slice _A_sa sa.length _C_sa) sa ∧ Rd bcs 1 wx LR_a w.heap.size sa a ∧ Ol Sv.cs 24 1 wx (.slice Au10_0 (_vs10_0).length Cu10_0) _vs10_0 ∧ Od bcs 4 1 wx w.heap.size _w_3.heap.size _vs10_0 (grd n (upt (oeM A B) i j))) (fun (j : Nat) => n - j) 0 (Sub.cons rfl (Sub.cons rfl (Sub.cons rfl (Sub.cons rfl (Sub.cons rfl (Sub.cons rfl (Sub.cons rfl (Sub.cons rfl (Sub.cons rfl (Sub.cons rfl (Sub.nil _))))))))))) ⟨E, (Nat.le_refl _), (by omega), _f_13, _f_14, _F0_4, (od.eq rfl)⟩ ?_
    rintro j _wr_15 ⟨E, _zz1, hj, _F1_0, _F1_1, _F1_4, od⟩
    have _E1h := E
    have _E1hz := _E1h.size
    refine W_seq fun _K_16 _hK_16 => ?_
    refine W_region ?_
    refine WL_step rfl rfl (r_lss rfl rfl) ?_
    refine WL_nil ?_
    refine thn_nrm (_hK_16 _ _ ?_)
    clear _hK_16
    refine W_seq fun _K_17 _hK_17 => ?_
    refine W_cond rfl (fun _h22 => ?_) (fun _h22 => ?_)
    · have _kb_18 := _h22
      have _h22 := bt_d _h22
      refine W_skip ?_
      refine thn_nrm (_hK_17 _ _ ?_)
      clear _hK_17
      refine W_seq fun _K_19 _hK_19 => ?_
      refine W_block ?_
      refine W_seq fun _K_20 _hK_20 => ?_
      refine W_region ?_
      refine WL_step rfl rfl (r_move rfl) ?_
      refine WL_step rfl rfl (r_assign rfl) ?_
      refine WL_nil ?_
      refine thn_nrm (_hK_20 _ _ ?_)
      clear _hK_20
      have _ln924 := (od).1
      rw [grd_len] at _ln924
      obtain ⟨go924, hgo924, lso924⟩ := Ol.lsE _F1_4 (by omega)
      obtain ⟨_y924, _hy924⟩ := get_some (xs := _vs10_0) (j := i) (by omega)
      have _sm924 := _sep_vs10_0 _ (mem_of_get _hy924)
      obtain ⟨_ys924, _hys924, _fs924, _rs924⟩ := od.ownget _hy924
      obtain ⟨_A924, _n924, _C924⟩ := _y924
      obtain rfl := _fs924.ls.eqn
      have _l924 := _fs924.len
      have _lo924 : Lo w.heap.size (.slice _A924 _ys924.length _C924) := fun g hg => (_rs924 g hg).1
      have hi924 : ∀ g ∈ bl (.slice _A924 _ys924.length _C924), g < _w_3.heap.size := fun g hg => (_rs924 g hg).2
      replace _fs924 : Ol bcs 4 1 _wr_15 (.slice _A924 _ys924.length _C924) _ys924 := _fs924
      have rl924 := row_len rfl _hys924
      refine W_drawC (bl (.slice _A924 _ys924.length _C924)) 23 mixed rfl fun _w_21 _cw_21 => ?_
      have _cw_21z := _cw_21.size
      have E := E.trans _cw_21
      refine DR_s 0 rfl (by kernel_rfl) rfl rfl (t_v (fun _ => (r_move rfl)) ?_)
      refine DR_s 1 rfl (by kernel_rfl) rfl rfl (t_v (fun _ => (r_move rfl)) ?_)
      have _f_22 := (lso924.ch0 _cw_21)
      refine DR_s 2 rfl (by kernel_rfl) rfl rfl (t_index _f_22 Sv.len el194 sz24 rfl rfl rfl (by omega) fun _p26 _y26 _hy26 _a26 => ?_)
      obtain rfl := get_uniq _hy924 _hy26
      replace _a26 : At _w_21 go924 (go924 + 1) _p26 ([(.slice _A924 _ys924.length _C924)]) := _a26
      refine DR_s 3 rfl (by kernel_rfl) rfl rfl (t_loadAt0 _a26 (fun i hm => ne_blk (_sm924 i hm) hgo924) agg24 rfl rfl ?_)
      refine DR_s 4 rfl (by kernel_rfl) rfl rfl (t_v (fun _ => (r_move rfl)) ?_)
      refine DR_s 5 rfl (by kernel_rfl) rfl rfl (t_v (fun _ => (r_move rfl)) ?_)
      refine DR_s 6 rfl (by kernel_rfl) rfl rfl (t_v (fun _ => (r_move rfl)) ?_)
      have _f_23 := (_F1_0.ch0 _cw_21)
      have _f_24 := (_F1_1.ch0 _cw_21)
      refine DR_s 7 rfl (by kernel_rfl) rfl rfl (t_index _f_23 Sv.len el194 sz24 rfl rfl rfl (by omega) fun _p31 _y31 _hy31 _a31 => ?_)
      obtain ⟨_ys31, _hys31, _fs31⟩ := _f_24.get _hy31
      obtain ⟨_A31, _n31, _C31⟩ := _y31
      obtain rfl := _fs31.eqn
      have _l31 := _fs31.len
      replace _fs31 : Ls bcs 1 _w_21 LR_a w.heap.size (.slice _A31 _ys31.length _C31) _ys31 := _fs31
      replace _a31 : At _w_21 LL_sa w.heap.size _p31 ([(.slice _A31 _ys31.length _C31)]) := _a31
      have rl31 := row_len ha _hys31
      refine DR_s 8 rfl (by kernel_rfl) rfl rfl (t_loadAt0 _a31 (fun i hm => by have _h1 := _lo924 _ hm; have _h2 := hi924 _ hm; omega) agg24 rfl rfl ?_)
      refine DR_s 9 rfl (by kernel_rfl) rfl rfl (t_v (fun _ => (r_move rfl)) ?_)
      refine DR_s 10 rfl (by kernel_rfl) rfl rfl (t_index _fs31 bcs_len el24 sz4 rfl rfl rfl (by omega) fun _p34 _y34 _hy34 _a34 => ?_)
      refine DR_s 11 rfl (by kernel_rfl) rfl rfl (t_loadAt0 _a34 (fun i hm => by have _h1 := _lo924 _ hm; have _h2 := hi924 _ hm; omega) agg4 rfl rfl ?_)
      refine DR_s 12 rfl (by kernel_rfl) rfl rfl (t_v (fun _ => (r_move rfl)) ?_)
      refine DR_split (d := 36) rfl (fun _h36 => ?_) (fun _h36 => ?_)
      · have _kb_25 := _h36
        refine DR_skip 13 rfl (by kernel_rfl) rfl rfl ?_
        refine DR_skip 14 rfl (by kernel_rfl) rfl rfl ?_
        refine DR_skip 15 rfl (by kernel_rfl) rfl rfl ?_
        refine DR_skip 16 rfl (by kernel_rfl) rfl rfl ?_
        refine DR_skip 17 rfl (by kernel_rfl) rfl rfl ?_
        refine DR_skip 18 rfl (by kernel_rfl) rfl rfl ?_
        refine DR_skip 19 rfl (by kernel_rfl) rfl rfl ?_
        refine DR_s 20 rfl (by kernel_rfl) rfl rfl (t_v (fun _ => (r_pickT rfl rfl)) ?_)
        refine DR_one 21 (by kernel_rfl) ?_
        refine DO_s rfl rfl rfl ?_
        have _f_26 := (_fs924.ch0 _cw_21)
        refine s_indexO (j := j) _f_26 el24 sz4 rfl rfl rfl (by omega) fun _g45 _o45 _cp45 _q45 => ?_
        refine ⟨(Ch.refl _ _), ?_⟩
        refine DR_one 22 (by kernel_rfl) ?_
        refine DO_s rfl rfl rfl ?_
        refine s_storeO (j := j) true _f_26 _q45 bcs_len sz4 rfl rfl rfl rfl (by omega) fun _w_27 _o_28 _cw_27 => ?_
        have _f_29 := (od.ch0 _cw_21)
        have _cw_27z := _cw_27.size
        have E := E.step _cw_27 (fun i hi => .inl (by have _h1 := _lo924 _ hi; omega))
        have _od_30 := Od.set _f_29 _hy924 _hys924 _cw_27 _o_28
        have _S_31 : Ch (bl (.slice _A924 _ys924.length _C924)) _w_21 _w_27 := ((Ch.refl _ _).step _cw_27 (fun i hm => by exact .inr hm))
        refine ⟨_S_31, ?_⟩
        refine DR_done (by kernel_rfl) ?_
        refine inB_nrm ?_
        refine thn_nrm (_hK_19 _ _ ?_)
        clear _hK_19
        refine W_region ?_
        refine WL_step rfl rfl (r_add (by omega) rfl rfl) ?_
        refine WL_step rfl rfl (r_move rfl) ?_
        refine WL_nil ?_
        have _f_32 := (_f_23.ch _cw_27 (fun i hi => by have _h1 := _lo924 _ hi; omega))
        have _f_33 := (_f_24.ch _cw_27 (fun i hi => by have _h1 := _lo924 _ hi; omega))
        have _f_34 := ((_F1_4.ch0 _cw_21).ch _cw_27 (fun g hg hm => by exact _sm924 _ hm hg))
        exact thn_nrm (Exists.intro (j + 1) ⟨⟨E, (by omega), (by omega), _f_32, _f_33, _f_34, (_od_30.eq (upt_step rfl _hys924 (by first | (have _e1 := grd_y ha _hys31 _hy34; simp [oeM, ← _e1, _h36]; done) | (have _e1 := grd_y ha _hys31 _hy34; have _e2 := grd_y hb _hys39 _hy42; simp [oeM, ← _e1, ← _e2, _h36]; done))))⟩, Sub.cons rfl (Sub.cons rfl (Sub.cons rfl (Sub.cons rfl (Sub.cons rfl (Sub.cons rfl (Sub.cons rfl (Sub.cons rfl (Sub.cons rfl (Sub.cons rfl (Sub.nil _)))))))))), (by first | omega | (dsimp only; omega))⟩)
      · have _kb_25 := _h36
        refine DR_s 13 rfl (by kernel_rfl) rfl rfl (t_v (fun _ => (r_move rfl)) ?_)
        refine DR_s 14 rfl (by kernel_rfl) rfl rfl (t_v (fun _ => (r_move rfl)) ?_)
        have _f_35 := ((_h_sb.ch0 _E1h).ch0 _cw_21)
        have _f_36 := ((_rd_b.ch0 _E1h).ch0 _cw_21)
        refine DR_s 15 rfl (by kernel_rfl) rfl rfl (t_index _f_35 Sv.len el194 sz24 rfl rfl rfl (by omega) fun _p39 _y39 _hy39 _a39 => ?_)
        obtain ⟨_ys39, _hys39, _fs39⟩ := _f_36.get _hy39
        obtain ⟨_A39, _n39, _C39⟩ := _y39
        obtain rfl := _fs39.eqn
        have _l39 := _fs39.len
        replace _fs39 : Ls bcs 1 _w_21 LR_b w.heap.size (.slice _A39 _ys39.length _C39) _ys39 := _fs39
        replace _a39 : At _w_21 LL_sb w.heap.size _p39 ([(.slice _A39 _ys39.length _C39)]) := _a39
        have rl39 := row_len hb _hys39
        refine DR_s 16 rfl (by kernel_rfl) rfl rfl (t_loadAt0 _a39 (fun i hm => by have _h1 := _lo924 _ hm; have _h2 := hi924 _ hm; omega) agg24 rfl rfl ?_)
        refine DR_s 17 rfl (by kernel_rfl) rfl rfl (t_v (fun _ => (r_move rfl)) ?_)
        refine DR_s 18 rfl (by kernel_rfl) rfl rfl (t_index _fs39 bcs_len el24 sz4 rfl rfl rfl (by omega) fun _p42 _y42 _hy42 _a42 => ?_)
        refine DR_s 19 rfl (by kernel_rfl) rfl rfl (t_loadAt0 _a42 (fun i hm => by have _h1 := _lo924 _ hm; have _h2 := hi924 _ hm; omega) agg4 rfl rfl ?_)
        refine DR_s 20 rfl (by kernel_rfl) rfl rfl (t_v (fun _ => (r_pickF rfl rfl)) ?_)
        refine DR_one 21 (by kernel_rfl) ?_
        refine DO_s rfl rfl rfl ?_
        have _f_37 := (_fs924.ch0 _cw_21)
        refine s_indexO (j := j) _f_37 el24 sz4 rfl rfl rfl (by omega) fun _g45 _o45 _cp45 _q45 => ?_
        refine ⟨(Ch.refl _ _), ?_⟩
        refine DR_one 22 (by kernel_rfl) ?_
        refine DO_s rfl rfl rfl ?_
        refine s_storeO (j := j) _y42 _f_37 _q45 bcs_len sz4 rfl rfl rfl rfl (by omega) fun _w_38 _o_39 _cw_38 => ?_
        have _f_40 := (od.ch0 _cw_21)
        have _cw_38z := _cw_38.size
        have E := E.step _cw_38 (fun i hi => .inl (by have _h1 := _lo924 _ hi; omega))
        have _od_41 := Od.set _f_40 _hy924 _hys924 _cw_38 _o_39
        have _S_42 : Ch (bl (.slice _A924 _ys924.length _C924)) _w_21 _w_38 := ((Ch.refl _ _).step _cw_38 (fun i hm => by exact .inr hm))
        refine ⟨_S_42, ?_⟩
        refine DR_done (by kernel_rfl) ?_
        refine inB_nrm ?_
        refine thn_nrm (_hK_19 _ _ ?_)
        clear _hK_19
        refine W_region ?_
        refine WL_step rfl rfl (r_add (by omega) rfl rfl) ?_
        refine WL_step rfl rfl (r_move rfl) ?_
        refine WL_nil ?_
        have _f_43 := (_f_23.ch _cw_38 (fun i hi => by have _h1 := _lo924 _ hi; omega))
        have _f_44 := (_f_24.ch _cw_38 (fun i hi => by have _h1 := _lo924 _ hi; omega))
        have _f_45 := ((_F1_4.ch0 _cw_21).ch _cw_38 (fun g hg hm => by exact _sm924 _ hm hg))
        exact thn_nrm (Exists.intro (j + 1) ⟨⟨E, (by omega), (by omega), _f_43, _f_44, _f_45, (_od_41.eq (upt_step rfl _hys924 (by first | (have _e1 := grd_y ha _hys31 _hy34; simp [oeM, ← _e1, _h36]; done) | (have _e1 := grd_y ha _hys31 _hy34; have _e2 := grd_y hb _hys39 _hy42; simp [oeM, ← _e1, ← _e2, _h36]; done))))⟩, Sub.cons rfl (Sub.cons rfl (Sub.cons rfl (Sub.cons rfl (Sub.cons rfl (Sub.cons rfl (Sub.cons rfl (Sub.cons rfl (Sub.cons rfl (Sub.cons rfl (Sub.nil _)))))))))), (by first | omega | (dsimp only; omega))⟩)
    · have _kb_18 := _h22
      have _h22 := bf_d _h22
      refine W_exit (thn_exit (thn_exit (inB_hit ?_)))
      refine inB_nrm ?_
      refine thn_nrm (_hK_10 _ _ ?_)
      clear _hK_10
      refine W_region ?_
      refine WL_step rfl rfl (r_add (by omega) rfl rfl) ?_
      refine WL_step rfl rfl (r_move rfl) ?_
      refine WL_nil ?_
      exact thn_nrm (Exists.intro (i + 1) ⟨⟨E, (by omega), (by omega), _F1_4, (od.eq (upt_row (by omega)))⟩, Sub.cons rfl (Sub.cons rfl (Sub.cons rfl (Sub.cons rfl (Sub.cons rfl (Sub.cons rfl (Sub.nil _)))))), (by first | omega | (dsimp only; omega))⟩)
  · have _kb_9 := _h14
    have _h14 := bf_d _h14
    refine W_exit (thn_exit (thn_exit (inB_hit ?_)))
    refine thn_nrm (_hK_4 _ _ ?_)
    clear _hK_4
    refine W_seq fun _K_46 _hK_46 => ?_
    refine W_region ?_
    refine WL_step rfl rfl (r_move rfl) ?_
    refine WL_step rfl rfl (r_assign rfl) ?_
    refine WL_nil ?_
    refine thn_nrm (_hK_46 _ _ ?_)
    clear _hK_46
    refine W_ret ?_
    clear _hK_8
    have _o_47 : Ol Sv.cs 24 1 _wr_6 (.slice Au10_0 (_vs10_0).length Cu10_0) _vs10_0 := by
      have hx := _F0_4
      exact hx
    have _o_48 : Od bcs 4 1 _wr_6 w.heap.size _wr_6.heap.size _vs10_0 (grd n (oeM A B)) := by
      have hx := od.up (lo' := w.heap.size) (hi' := _wr_6.heap.size) (by omega) (by omega)
      rwa [upt_all (by omega)] at hx
    exact ret_intro [_] ⟨rfl, trivial⟩ ⟨(.slice Au10_0 (_vs10_0).length Cu10_0), _vs10_0, rfl, _o_47, (Lo.down _lo_u10_0 (by omega)), _o_48, _sep_vs10_0, E⟩

/-- impl.inTurn -/
theorem c_impl_inTurn {w : World} {LL_sa _B_sa : Nat} {_v_sa : Value} {sa : List Sv} (_h_sa : Ls Sv.cs 1 w LL_sa _B_sa _v_sa sa) {LR_a BB_a : Nat} {a : List (List Bool)} (_rd_a : Rd bcs 1 w LR_a BB_a sa a) {LL_sb _B_sb : Nat} {_v_sb : Value} {sb : List Sv} (_h_sb : Ls Sv.cs 1 w LL_sb _B_sb _v_sb sb) {LR_b BB_b : Nat} {b : List (List Bool)} (_rd_b : Rd bcs 1 w LR_b BB_b sb b) (n : Nat) (A : Nat → Nat → Bool) (B : Nat → Nat → Bool) (ha : a = grd n A) (hb : b = grd n B) (ta : Tri A) (tb : Tri B) (hn : n ≤ 4097) :
    Ctr Try.prog 204 #[_v_sa, _v_sb] w (fun v w' => ∃ (_u0 : Value) (vs0 : List Sv), v = _u0 ∧ Ol Sv.cs 24 1 w' _u0 vs0 ∧ Lo w.heap.size _u0 ∧ Od bcs 4 1 w' w.heap.size w'.heap.size vs0 (grd n (mulM n A B)) ∧ Sep _u0 vs0 ∧ Ch [] w w') := by
  obtain ⟨_A_sa, _C_sa, _e1_sa⟩ := _h_sa.val
  subst _e1_sa
  have _l_sa := _h_sa.len
  have _h_sa := _h_sa.here (by decide)
  have _rd_a := _rd_a.here (by decide)
  have _rl_a := _rd_a.1
  obtain ⟨_A_sb, _C_sb, _e1_sb⟩ := _h_sb.val
  subst _e1_sb
  have _l_sb := _h_sb.len
  have _h_sb := _h_sb.here (by decide)
  have _rd_b := _rd_b.here (by decide)
  have _rl_b := _rd_b.1
  have E := Ch.refl [] w
  have _ln9 : sa.length = n := (by rw [_rl_a, ha, grd_len]); have _ln8 : sb.length = n := (by rw [_rl_b, hb, grd_len])
  refine Ctr_of_W (N := 67) (vs0 := [(.slice _A_sa sa.length _C_sa), (.slice _A_sb sb.length _C_sb)]) Try.func204 rfl rfl rfl ?_
  refine W_seq fun _K_1 _hK_1 => ?_
  refine W_region ?_
  refine WL_step rfl rfl (r_assign rfl) ?_
  refine WL_nil ?_
  refine thn_nrm (_hK_1 _ _ ?_)
  clear _hK_1
  refine W_seq fun _K_2 _hK_2 => ?_
  refine W_region ?_
  refine WL_step rfl rfl (r_move rfl) ?_
  refine WL_step rfl rfl (r_len (by rw [el194]; rfl) rfl) ?_
  refine WL_s rfl rfl ?_
  refine Step.call (r_call (xs := [.tmp 10, .const (Go.Value.bool false)]) fk203 rfl) (c_impl_ways sa.length _ (by omega)) fun _v11 _w_3 _q11 => ?_
  obtain ⟨u11_0, _vs11_0, rfl, _q_u11_0, _lo_u11_0, _od_vs11_0, _sep_vs11_0, _cw_3⟩ := _q11
  have _cw_3z := _cw_3.size
  have E := E.trans _cw_3
  obtain ⟨Au11_0, Cu11_0, eu11_0⟩ := _q_u11_0.val
  subst eu11_0
  have lu11_0 := _q_u11_0.len
  have _hiu11_0 := _q_u11_0.lt
  refine WL_step rfl rfl (r_assign rfl) ?_
  refine WL_nil ?_
  refine thn_nrm (_hK_2 _ _ ?_)
  clear _hK_2
  refine W_seq fun _K_4 _hK_4 => ?_
  refine W_seq fun _K_5 _hK_5 => ?_
  refine W_region ?_
  refine WL_step rfl rfl (r_move rfl) ?_
  refine WL_step rfl rfl (r_len (by rw [el194]; rfl) rfl) ?_
  refine WL_step rfl rfl (r_move rfl) ?_
  refine WL_nil ?_
  refine thn_nrm (_hK_5 _ _ ?_)
  clear _hK_5
  refine W_block ?_
  refine W_loop (σ := Nat) (fun (i : Nat) => [(0, (.slice _A_sa sa.length _C_sa)), (1, (.slice _A_sb sb.length _C_sb)), (4, (.slice none 0 0)), (5, (.slice Au11_0 (_vs11_0).length Cu11_0)), (13, (.int .i64 ((sa.length : Nat) : Int))), (14, (.int .i64 ((i : Nat) : Int)))]) (fun (i : Nat) wx => Ch [] w wx ∧ _w_3.heap.size ≤ wx.heap.size ∧ (i ≤ n) ∧ Ol Sv.cs 24 1 wx (.slice Au11_0 (_vs11_0).length Cu11_0) _vs11_0 ∧ Od bcs 4 1 wx w.heap.size _w_3.heap.size _vs11_0 (grd n (mupt n A B i 0 0))) (fun (i : Nat) => n - i) 0 (Sub.cons rfl (Sub.cons rfl (Sub.cons rfl (Sub.cons rfl (Sub.cons rfl (Sub.cons rfl (Sub.nil _))))))) ⟨E, (Nat.le_refl _), (by omega), _q_u11_0, (_od_vs11_0.eq (by rw [_ln9]; exact mupt_zero))⟩ ?_
  rintro i _wr_6 ⟨E, _zz0, hi, _F0_4, od⟩
  have _E0h := E
  have _E0hz := _E0h.size
  refine W_seq fun _K_7 _hK_7 => ?_
  refine W_region ?_
  refine WL_step rfl rfl (r_lss rfl rfl) ?_
  refine WL_nil ?_
  refine thn_nrm (_hK_7 _ _ ?_)
  clear _hK_7
  refine W_seq fun _K_8 _hK_8 => ?_
  refine W_cond rfl (fun _h15 => ?_) (fun _h15 => ?_)
  · have _kb_9 := _h15
    have _h15 := bt_d _h15
    refine W_skip ?_
    refine thn_nrm (_hK_8 _ _ ?_)
    clear _hK_8
    refine W_seq fun _K_10 _hK_10 => ?_
    refine W_block ?_
    refine W_seq fun _K_11 _hK_11 => ?_
    refine W_region ?_
    refine WL_step rfl rfl (r_move rfl) ?_
    refine WL_step rfl rfl (r_assign rfl) ?_
    refine WL_nil ?_
    refine thn_nrm (_hK_11 _ _ ?_)
    clear _hK_11
    refine W_seq fun _K_12 _hK_12 => ?_
    refine W_region ?_
    refine WL_step rfl rfl (r_move rfl) ?_
    refine WL_step rfl rfl (r_move rfl) ?_
    refine WL_s rfl rfl ?_
    have _f_13 := (_h_sa.ch0 _E0h)
    refine (s_index _f_13 Sv.len el194 sz24 rfl rfl rfl (by omega) fun _p19 _y19 _hy19 _a19 => ?_)
    have _f_14 := (_rd_a.ch0 _E0h)
    obtain ⟨_ys19, _hys19, _fs19⟩ := _f_14.get _hy19
    obtain ⟨_A19, _n19, _C19⟩ := _y19
    obtain rfl := _fs19.eqn
    have _l19 := _fs19.len
    replace _fs19 : Ls bcs 1 _wr_6 LR_a w.heap.size (.slice _A19 _ys19.length _C19) _ys19 := _fs19
    replace _a19 : At _wr_6 LL_sa w.heap.size _p19 ([(.slice _A19 _ys19.length _C19)]) := _a19
    have rl19 := row_len ha _hys19
    refine WL_step rfl rfl (r_loadAt0 _a19 agg24 rfl rfl) ?_
    refine WL_step rfl rfl (r_len (by rw [el24]; rfl) rfl) ?_
    refine WL_step rfl rfl (r_move rfl) ?_
    refine WL_nil ?_
    refine thn_nrm (_hK_12 _ _ ?_)
    clear _hK_12
    refine W_block ?_
    refine W_loop (σ := Nat) (fun (k : Nat) => [(0, (.slice _A_sa sa.length _C_sa)), (1, (.slice _A_sb sb.length _C_sb)), (4, (.slice none 0 0)), (5, (.slice Au11_0 (_vs11_0).length Cu11_0)), (6, (.int .i64 ((i : Nat) : Int))), (13, (.int .i64 ((sa.length : Nat) : Int))), (14, (.int .i64 ((i : Nat) : Int))), (15, (.bool (decide (((i : Nat) : Int) < ((sa.length : Nat) : Int))))), (21, (.int .i64 ((_ys19.length : Nat) : Int))), (22, (.int .i64 ((k : Nat) : Int)))]) (fun (k : Nat) wx => Ch [] w wx ∧ _wr_6.heap.size ≤ wx.heap.size ∧ (k ≤ n) ∧ Ls Sv.cs 1 wx LL_sa w.heap.size (.slice _A_sa sa.length _C_sa) sa ∧ Rd bcs 1 wx LR_a w.heap.size sa a ∧ Ol Sv.cs 24 1 wx (.slice Au11_0 (_vs11_0).length Cu11_0) _vs11_0 ∧ Od bcs 4 1 wx w.heap.size _w_3.heap.size _vs11_0 (grd n (mupt n A B i k 0))) (fun (k : Nat) => n - k) 0 (Sub.cons rfl (Sub.cons rfl (Sub.cons rfl (Sub.cons rfl (Sub.cons rfl (Sub.cons rfl (Sub.cons rfl (Sub.cons rfl (Sub.cons rfl (Sub.cons rfl (Sub.nil _))))))))))) ⟨E, (Nat.le_refl _), (by omega), _f_13, _f_14, _F0_4, (od.eq rfl)⟩ ?_
    rintro k _wr_15 ⟨E, _zz1, _hk, _F1_0, _F1_1, _F1_4, od⟩
    have _E1h := E
    have _E1hz := _E1h.size
    refine W_seq fun _K_16 _hK_16 => ?_
    refine W_region ?_
    refine WL_step rfl rfl (r_lss rfl rfl) ?_
    refine WL_nil ?_
    refine thn_nrm (_hK_16 _ _ ?_)
    clear _hK_16
    refine W_seq fun _K_17 _hK_17 => ?_
    refine W_cond rfl (fun _h23 => ?_) (fun _h23 => ?_)
    · have _kb_18 := _h23
      have _h23 := bt_d _h23
      refine W_skip ?_
      refine thn_nrm (_hK_17 _ _ ?_)
      clear _hK_17
      refine W_seq fun _K_19 _hK_19 => ?_
      refine W_block ?_
      refine W_seq fun _K_20 _hK_20 => ?_
      refine W_region ?_
      refine WL_step rfl rfl (r_move rfl) ?_
      refine WL_step rfl rfl (r_assign rfl) ?_
      refine WL_nil ?_
      refine thn_nrm (_hK_20 _ _ ?_)
      clear _hK_20
      refine W_seq fun _K_21 _hK_21 => ?_
      refine W_seq fun _K_22 _hK_22 => ?_
      refine W_region ?_
      refine WL_step rfl rfl (r_move rfl) ?_
      refine WL_step rfl rfl (r_move rfl) ?_
      refine WL_s rfl rfl ?_
      refine (s_index _F1_0 Sv.len el194 sz24 rfl rfl rfl (by omega) fun _p27 _y27 _hy27 _a27 => ?_)
      obtain ⟨_ys27, _hys27, _fs27⟩ := _F1_1.get _hy27
      obtain ⟨_A27, _n27, _C27⟩ := _y27
      obtain rfl := _fs27.eqn
      have _l27 := _fs27.len
      replace _fs27 : Ls bcs 1 _wr_15 LR_a w.heap.size (.slice _A27 _ys27.length _C27) _ys27 := _fs27
      replace _a27 : At _wr_15 LL_sa w.heap.size _p27 ([(.slice _A27 _ys27.length _C27)]) := _a27
      have rl27 := row_len ha _hys27
      refine WL_step rfl rfl (r_loadAt0 _a27 agg24 rfl rfl) ?_
      refine WL_step rfl rfl (r_move rfl) ?_
      refine WL_s rfl rfl ?_
      refine (s_index _fs27 bcs_len el24 sz4 rfl rfl rfl (by omega) fun _p30 _y30 _hy30 _a30 => ?_)
      have _e30 := grd_y ha _hys27 _hy30
      refine WL_step rfl rfl (r_loadAt0 _a30 agg4 rfl rfl) ?_
      refine WL_step rfl rfl (r_not rfl) ?_
      refine WL_nil ?_
      refine thn_nrm (_hK_22 _ _ ?_)
      clear _hK_22
      refine W_cond rfl (fun _h32 => ?_) (fun _h32 => ?_)
      · have _kb_23 := _h32
        refine W_exit (thn_exit (inB_hit ?_))
        refine thn_nrm (_hK_19 _ _ ?_)
        clear _hK_19
        refine W_region ?_
        refine WL_step rfl rfl (r_add (by omega) rfl rfl) ?_
        refine WL_step rfl rfl (r_move rfl) ?_
        refine WL_nil ?_
        exact thn_nrm (Exists.intro (k + 1) ⟨⟨E, (by omega), (by omega), _F1_0, _F1_1, _F1_4, (od.eq (by first | exact mupt_row (.inl (by omega)) | exact mupt_row (.inr (by rw [← _e30]; simpa using _h32))))⟩, Sub.cons rfl (Sub.cons rfl (Sub.cons rfl (Sub.cons rfl (Sub.cons rfl (Sub.cons rfl (Sub.cons rfl (Sub.cons rfl (Sub.cons rfl (Sub.cons rfl (Sub.nil _)))))))))), (by first | omega | (dsimp only; omega))⟩)
      · have _kb_23 := _h32
        refine W_skip ?_
        refine thn_nrm (_hK_21 _ _ ?_)
        clear _hK_21
        refine W_seq fun _K_24 _hK_24 => ?_
        refine W_region ?_
        refine WL_step rfl rfl (r_move rfl) ?_
        refine WL_step rfl rfl (r_move rfl) ?_
        refine WL_s rfl rfl ?_
        have _f_25 := (_h_sb.ch0 _E1h)
        refine (s_index _f_25 Sv.len el194 sz24 rfl rfl rfl (by omega) fun _p35 _y35 _hy35 _a35 => ?_)
        have _f_26 := (_rd_b.ch0 _E1h)
        obtain ⟨_ys35, _hys35, _fs35⟩ := _f_26.get _hy35
        obtain ⟨_A35, _n35, _C35⟩ := _y35
        obtain rfl := _fs35.eqn
        have _l35 := _fs35.len
        replace _fs35 : Ls bcs 1 _wr_15 LR_b w.heap.size (.slice _A35 _ys35.length _C35) _ys35 := _fs35
        replace _a35 : At _wr_15 LL_sb w.heap.size _p35 ([(.slice _A35 _ys35.length _C35)]) := _a35
        have rl35 := row_len hb _hys35
        refine WL_step rfl rfl (r_loadAt0 _a35 agg24 rfl rfl) ?_
        refine WL_step rfl rfl (r_len (by rw [el24]; rfl) rfl) ?_
        refine WL_step rfl rfl (r_move rfl) ?_
        refine WL_nil ?_
        refine thn_nrm (_hK_24 _ _ ?_)
        clear _hK_24
        refine W_block ?_
        refine W_loop (σ := Nat) (fun (j : Nat) => [(0, (.slice _A_sa sa.length _C_sa)), (1, (.slice _A_sb sb.length _C_sb)), (4, (.slice none 0 0)), (5, (.slice Au11_0 (_vs11_0).length Cu11_0)), (6, (.int .i64 ((i : Nat) : Int))), (7, (.int .i64 ((k : Nat) : Int))), (13, (.int .i64 ((sa.length : Nat) : Int))), (14, (.int .i64 ((i : Nat) : Int))), (15, (.bool (decide (((i : Nat) : Int) < ((sa.length : Nat) : Int))))), (21, (.int .i64 ((_ys19.length : Nat) : Int))), (22, (.int .i64 ((k : Nat) : Int))), (23, (.bool (decide (((k : Nat) : Int) < ((_ys19.length : Nat) : Int))))), (32, (.bool (!_y30))), (37, (.int .i64 ((_ys35.length : Nat) : Int))), (38, (.int .i64 ((j : Nat) : Int)))]) (fun (j : Nat) wx => Ch [] w wx ∧ _wr_15.heap.size ≤ wx.heap.size ∧ (j ≤ n) ∧ Ls Sv.cs 1 wx LL_sa w.heap.size (.slice _A_sa sa.length _C_sa) sa ∧ Rd bcs 1 wx LR_a w.heap.size sa a ∧ Ls Sv.cs 1 wx LL_sb w.heap.size (.slice _A_sb sb.length _C_sb) sb ∧ Rd bcs 1 wx LR_b w.heap.size sb b ∧ Ol Sv.cs 24 1 wx (.slice Au11_0 (_vs11_0).length Cu11_0) _vs11_0 ∧ Od bcs 4 1 wx w.heap.size _w_3.heap.size _vs11_0 (grd n (mupt n A B i k j))) (fun (j : Nat) => n - j) 0 (Sub.cons rfl (Sub.cons rfl (Sub.cons rfl (Sub.cons rfl (Sub.cons rfl (Sub.cons rfl (Sub.cons rfl (Sub.cons rfl (Sub.cons rfl (Sub.cons rfl (Sub.cons rfl (Sub.cons rfl (Sub.cons rfl (Sub.cons rfl (Sub.cons rfl (Sub.nil _)))))))))))))))) ⟨E, (Nat.le_refl _), (by omega), _F1_0, _F1_1, _f_25, _f_26, _F1_4, (od.eq rfl)⟩ ?_
        rintro j _wr_27 ⟨E, _zz2, hj, _F2_0, _F2_1, _F2_2, _F2_3, _F2_4, od⟩
        have _E2h := E
        have _E2hz := _E2h.size
        refine W_seq fun _K_28 _hK_28 => ?_
        refine W_region ?_
        refine WL_step rfl rfl (r_lss rfl rfl) ?_
        refine WL_nil ?_
        refine thn_nrm (_hK_28 _ _ ?_)
        clear _hK_28
        refine W_seq fun _K_29 _hK_29 => ?_
        refine W_cond rfl (fun _h39 => ?_) (fun _h39 => ?_)
        · have _kb_30 := _h39
          have _h39 := bt_d _h39
          refine W_skip ?_
          refine thn_nrm (_hK_29 _ _ ?_)
          clear _hK_29
          refine W_seq fun _K_31 _hK_31 => ?_
          refine W_block ?_
          refine W_seq fun _K_32 _hK_32 => ?_
          refine W_region ?_
          refine WL_step rfl rfl (r_move rfl) ?_
          refine WL_step rfl rfl (r_assign rfl) ?_
          refine WL_nil ?_
          refine thn_nrm (_hK_32 _ _ ?_)
          clear _hK_32
          have _ln941 := (od).1
          rw [grd_len] at _ln941
          obtain ⟨go941, hgo941, lso941⟩ := Ol.lsE _F2_4 (by omega)
          obtain ⟨_y941, _hy941⟩ := get_some (xs := _vs11_0) (j := i) (by omega)
          have _sm941 := _sep_vs11_0 _ (mem_of_get _hy941)
          obtain ⟨_ys941, _hys941, _fs941, _rs941⟩ := od.ownget _hy941
          obtain ⟨_A941, _n941, _C941⟩ := _y941
          obtain rfl := _fs941.ls.eqn
          have _l941 := _fs941.len
          have _lo941 : Lo w.heap.size (.slice _A941 _ys941.length _C941) := fun g hg => (_rs941 g hg).1
          have hi941 : ∀ g ∈ bl (.slice _A941 _ys941.length _C941), g < _w_3.heap.size := fun g hg => (_rs941 g hg).2
          replace _fs941 : Ol bcs 4 1 _wr_27 (.slice _A941 _ys941.length _C941) _ys941 := _fs941
          have rl941 := row_len rfl _hys941
          refine W_drawC (bl (.slice _A941 _ys941.length _C941)) 23 mixed rfl fun _w_33 _cw_33 => ?_
          have _cw_33z := _cw_33.size
          have E := E.trans _cw_33
          refine DR_s 0 rfl (by kernel_rfl) rfl rfl (t_v (fun _ => (r_move rfl)) ?_)
          refine DR_s 1 rfl (by kernel_rfl) rfl rfl (t_v (fun _ => (r_move rfl)) ?_)
          have _f_34 := (lso941.ch0 _cw_33)
          refine DR_s 2 rfl (by kernel_rfl) rfl rfl (t_index _f_34 Sv.len el194 sz24 rfl rfl rfl (by omega) fun _p43 _y43 _hy43 _a43 => ?_)
          obtain rfl := get_uniq _hy941 _hy43
          replace _a43 : At _w_33 go941 (go941 + 1) _p43 ([(.slice _A941 _ys941.length _C941)]) := _a43
          refine DR_s 3 rfl (by kernel_rfl) rfl rfl (t_loadAt0 _a43 (fun i hm => ne_blk (_sm941 i hm) hgo941) agg24 rfl rfl ?_)
          refine DR_s 4 rfl (by kernel_rfl) rfl rfl (t_v (fun _ => (r_move rfl)) ?_)
          refine DR_s 5 rfl (by kernel_rfl) rfl rfl (t_v (fun _ => (r_move rfl)) ?_)
          refine DR_s 6 rfl (by kernel_rfl) rfl rfl (t_v (fun _ => (r_move rfl)) ?_)
          refine DR_s 7 rfl (by kernel_rfl) rfl rfl (t_index _f_34 Sv.len el194 sz24 rfl rfl rfl (by omega) fun _p48 _y48 _hy48 _a48 => ?_)
          obtain rfl := get_uniq _hy941 _hy48
          replace _a48 : At _w_33 go941 (go941 + 1) _p48 ([(.slice _A941 _ys941.length _C941)]) := _a48
          refine DR_s 8 rfl (by kernel_rfl) rfl rfl (t_loadAt0 _a48 (fun i hm => ne_blk (_sm941 i hm) hgo941) agg24 rfl rfl ?_)
          refine DR_s 9 rfl (by kernel_rfl) rfl rfl (t_v (fun _ => (r_move rfl)) ?_)
          refine DR_one 10 (by kernel_rfl) ?_
          refine DO_s rfl rfl rfl ?_
          have _f_35 := (_fs941.ch0 _cw_33)
          refine (s_index _f_35.ls bcs_len el24 sz4 rfl rfl rfl (by omega) fun _p51 _y51 _hy51 _a51 => ?_)
          refine ⟨(Ch.refl _ _), ?_⟩
          refine DR_one 11 (by kernel_rfl) ?_
          refine DO_s rfl rfl rfl ?_
          refine s_v (r_loadAt0 _a51 agg4 rfl rfl) ?_
          refine ⟨(Ch.refl _ _), ?_⟩
          refine DR_s 12 rfl (by kernel_rfl) rfl rfl (t_v (fun _ => (r_move rfl)) ?_)
          refine DR_split (d := 53) rfl (fun _h53 => ?_) (fun _h53 => ?_)
          · have _kb_36 := _h53
            refine DR_skip 13 rfl (by kernel_rfl) rfl rfl ?_
            refine DR_skip 14 rfl (by kernel_rfl) rfl rfl ?_
            refine DR_skip 15 rfl (by kernel_rfl) rfl rfl ?_
            refine DR_skip 16 rfl (by kernel_rfl) rfl rfl ?_
            refine DR_skip 17 rfl (by kernel_rfl) rfl rfl ?_
            refine DR_skip 18 rfl (by kernel_rfl) rfl rfl ?_
            refine DR_skip 19 rfl (by kernel_rfl) rfl rfl ?_
            refine DR_s 20 rfl (by kernel_rfl) rfl rfl (t_v (fun _ => (r_pickT rfl rfl)) ?_)
            refine DR_one 21 (by kernel_rfl) ?_
            refine DO_s rfl rfl rfl ?_
            refine s_indexO (j := j) _f_35 el24 sz4 rfl rfl rfl (by omega) fun _g62 _o62 _cp62 _q62 => ?_
            refine ⟨(Ch.refl _ _), ?_⟩
            refine DR_one 22 (by kernel_rfl) ?_
            refine DO_s rfl rfl rfl ?_
            refine s_storeO (j := j) true _f_35 _q62 bcs_len sz4 rfl rfl rfl rfl (by omega) fun _w_37 _o_38 _cw_37 => ?_
            have _f_39 := (od.ch0 _cw_33)
            have _cw_37z := _cw_37.size
            have E := E.step _cw_37 (fun i hi => .inl (by have _h1 := _lo941 _ hi; omega))
            have _od_40 := Od.set _f_39 _hy941 _hys941 _cw_37 _o_38
            have _S_41 : Ch (bl (.slice _A941 _ys941.length _C941)) _w_33 _w_37 := ((Ch.refl _ _).step _cw_37 (fun i hm => by exact .inr hm))
            refine ⟨_S_41, ?_⟩
            refine DR_done (by kernel_rfl) ?_
            refine inB_nrm ?_
            refine thn_nrm (_hK_31 _ _ ?_)
            clear _hK_31
            refine W_region ?_
            refine WL_step rfl rfl (r_add (by omega) rfl rfl) ?_
            refine WL_step rfl rfl (r_move rfl) ?_
            refine WL_nil ?_
            have _f_42 := ((_F2_0.ch0 _cw_33).ch _cw_37 (fun i hi => by have _h1 := _lo941 _ hi; omega))
            have _f_43 := ((_F2_1.ch0 _cw_33).ch _cw_37 (fun i hi => by have _h1 := _lo941 _ hi; omega))
            have _f_44 := ((_F2_2.ch0 _cw_33).ch _cw_37 (fun i hi => by have _h1 := _lo941 _ hi; omega))
            have _f_45 := ((_F2_3.ch0 _cw_33).ch _cw_37 (fun i hi => by have _h1 := _lo941 _ hi; omega))
            have _f_46 := ((_F2_4.ch0 _cw_33).ch _cw_37 (fun g hg hm => by exact _sm941 _ hm hg))
            exact thn_nrm (Exists.intro (j + 1) ⟨⟨E, (by omega), (by omega), _f_42, _f_43, _f_44, _f_45, _f_46, (_od_40.eq (mupt_step rfl _hys941 (by rw [← _e30]; simpa using _h32) (by first | (have _e1 := grd_y rfl _hys941 _hy51; simp [← _e1, _h53]; done) | (have _e1 := grd_y rfl _hys941 _hy51; have _e2 := grd_y hb _hys56 _hy59; simp [← _e1, ← _e2, _h53]; done))))⟩, Sub.cons rfl (Sub.cons rfl (Sub.cons rfl (Sub.cons rfl (Sub.cons rfl (Sub.cons rfl (Sub.cons rfl (Sub.cons rfl (Sub.cons rfl (Sub.cons rfl (Sub.cons rfl (Sub.cons rfl (Sub.cons rfl (Sub.cons rfl (Sub.cons rfl (Sub.nil _))))))))))))))), (by first | omega | (dsimp only; omega))⟩)
          · have _kb_36 := _h53
            refine DR_s 13 rfl (by kernel_rfl) rfl rfl (t_v (fun _ => (r_move rfl)) ?_)
            refine DR_s 14 rfl (by kernel_rfl) rfl rfl (t_v (fun _ => (r_move rfl)) ?_)
            have _f_47 := (_F2_2.ch0 _cw_33)
            have _f_48 := (_F2_3.ch0 _cw_33)
            refine DR_s 15 rfl (by kernel_rfl) rfl rfl (t_index _f_47 Sv.len el194 sz24 rfl rfl rfl (by omega) fun _p56 _y56 _hy56 _a56 => ?_)
            obtain ⟨_ys56, _hys56, _fs56⟩ := _f_48.get _hy56
            obtain ⟨_A56, _n56, _C56⟩ := _y56
            obtain rfl := _fs56.eqn
            have _l56 := _fs56.len
            replace _fs56 : Ls bcs 1 _w_33 LR_b w.heap.size (.slice _A56 _ys56.length _C56) _ys56 := _fs56
            replace _a56 : At _w_33 LL_sb w.heap.size _p56 ([(.slice _A56 _ys56.length _C56)]) := _a56
            have rl56 := row_len hb _hys56
            refine DR_s 16 rfl (by kernel_rfl) rfl rfl (t_loadAt0 _a56 (fun i hm => by have _h1 := _lo941 _ hm; have _h2 := hi941 _ hm; omega) agg24 rfl rfl ?_)
            refine DR_s 17 rfl (by kernel_rfl) rfl rfl (t_v (fun _ => (r_move rfl)) ?_)
            refine DR_s 18 rfl (by kernel_rfl) rfl rfl (t_index _fs56 bcs_len el24 sz4 rfl rfl rfl (by omega) fun _p59 _y59 _hy59 _a59 => ?_)
            refine DR_s 19 rfl (by kernel_rfl) rfl rfl (t_loadAt0 _a59 (fun i hm => by have _h1 := _lo941 _ hm; have _h2 := hi941 _ hm; omega) agg4 rfl rfl ?_)
            refine DR_s 20 rfl (by kernel_rfl) rfl rfl (t_v (fun _ => (r_pickF rfl rfl)) ?_)
            refine DR_one 21 (by kernel_rfl) ?_
            refine DO_s rfl rfl rfl ?_
            refine s_indexO (j := j) _f_35 el24 sz4 rfl rfl rfl (by omega) fun _g62 _o62 _cp62 _q62 => ?_
            refine ⟨(Ch.refl _ _), ?_⟩
            refine DR_one 22 (by kernel_rfl) ?_
            refine DO_s rfl rfl rfl ?_
            refine s_storeO (j := j) _y59 _f_35 _q62 bcs_len sz4 rfl rfl rfl rfl (by omega) fun _w_49 _o_50 _cw_49 => ?_
            have _f_51 := (od.ch0 _cw_33)
            have _cw_49z := _cw_49.size
            have E := E.step _cw_49 (fun i hi => .inl (by have _h1 := _lo941 _ hi; omega))
            have _od_52 := Od.set _f_51 _hy941 _hys941 _cw_49 _o_50
            have _S_53 : Ch (bl (.slice _A941 _ys941.length _C941)) _w_33 _w_49 := ((Ch.refl _ _).step _cw_49 (fun i hm => by exact .inr hm))
            refine ⟨_S_53, ?_⟩
            refine DR_done (by kernel_rfl) ?_
            refine inB_nrm ?_
            refine thn_nrm (_hK_31 _ _ ?_)
            clear _hK_31
            refine W_region ?_
            refine WL_step rfl rfl (r_add (by omega) rfl rfl) ?_
            refine WL_step rfl rfl (r_move rfl) ?_
            refine WL_nil ?_
            have _f_54 := ((_F2_0.ch0 _cw_33).ch _cw_49 (fun i hi => by have _h1 := _lo941 _ hi; omega))
            have _f_55 := ((_F2_1.ch0 _cw_33).ch _cw_49 (fun i hi => by have _h1 := _lo941 _ hi; omega))
            have _f_56 := (_f_47.ch _cw_49 (fun i hi => by have _h1 := _lo941 _ hi; omega))
            have _f_57 := (_f_48.ch _cw_49 (fun i hi => by have _h1 := _lo941 _ hi; omega))
            have _f_58 := ((_F2_4.ch0 _cw_33).ch _cw_49 (fun g hg hm => by exact _sm941 _ hm hg))
            exact thn_nrm (Exists.intro (j + 1) ⟨⟨E, (by omega), (by omega), _f_54, _f_55, _f_56, _f_57, _f_58, (_od_52.eq (mupt_step rfl _hys941 (by rw [← _e30]; simpa using _h32) (by first | (have _e1 := grd_y rfl _hys941 _hy51; simp [← _e1, _h53]; done) | (have _e1 := grd_y rfl _hys941 _hy51; have _e2 := grd_y hb _hys56 _hy59; simp [← _e1, ← _e2, _h53]; done))))⟩, Sub.cons rfl (Sub.cons rfl (Sub.cons rfl (Sub.cons rfl (Sub.cons rfl (Sub.cons rfl (Sub.cons rfl (Sub.cons rfl (Sub.cons rfl (Sub.cons rfl (Sub.cons rfl (Sub.cons rfl (Sub.cons rfl (Sub.cons rfl (Sub.cons rfl (Sub.nil _))))))))))))))), (by first | omega | (dsimp only; omega))⟩)
        · have _kb_30 := _h39
          have _h39 := bf_d _h39
          refine W_exit (thn_exit (thn_exit (inB_hit ?_)))
          refine inB_nrm ?_
          refine thn_nrm (_hK_19 _ _ ?_)
          clear _hK_19
          refine W_region ?_
          refine WL_step rfl rfl (r_add (by omega) rfl rfl) ?_
          refine WL_step rfl rfl (r_move rfl) ?_
          refine WL_nil ?_
          exact thn_nrm (Exists.intro (k + 1) ⟨⟨E, (by omega), (by omega), _F2_0, _F2_1, _F2_4, (od.eq (by first | exact mupt_row (.inl (by omega)) | exact mupt_row (.inr (by rw [← _e30]; simpa using _h32))))⟩, Sub.cons rfl (Sub.cons rfl (Sub.cons rfl (Sub.cons rfl (Sub.cons rfl (Sub.cons rfl (Sub.cons rfl (Sub.cons rfl (Sub.cons rfl (Sub.cons rfl (Sub.nil _)))))))))), (by first | omega | (dsimp only; omega))⟩)
    · have _kb_18 := _h23
      have _h23 := bf_d _h23
      refine W_exit (thn_exit (thn_exit (inB_hit ?_)))
      refine inB_nrm ?_
      refine thn_nrm (_hK_10 _ _ ?_)
      clear _hK_10
      refine W_region ?_
      refine WL_step rfl rfl (r_add (by omega) rfl rfl) ?_
      refine WL_step rfl rfl (r_move rfl) ?_
      refine WL_nil ?_
      exact thn_nrm (Exists.intro (i + 1) ⟨⟨E, (by omega), (by omega), _F1_4, (od.eq (mupt_next (by omega)))⟩, Sub.cons rfl (Sub.cons rfl (Sub.cons rfl (Sub.cons rfl (Sub.cons rfl (Sub.cons rfl (Sub.nil _)))))), (by first | omega | (dsimp only; omega))⟩)
  · have _kb_9 := _h15
    have _h15 := bf_d _h15
    refine W_exit (thn_exit (thn_exit (inB_hit ?_)))
    refine thn_nrm (_hK_4 _ _ ?_)
    clear _hK_4
    refine W_seq fun _K_59 _hK_59 => ?_
    refine W_region ?_
    refine WL_step rfl rfl (r_move rfl) ?_
    refine WL_step rfl rfl (r_assign rfl) ?_
    refine WL_nil ?_
    refine thn_nrm (_hK_59 _ _ ?_)
    clear _hK_59
    refine W_ret ?_
    clear _hK_8
    have _o_60 : Ol Sv.cs 24 1 _wr_6 (.slice Au11_0 (_vs11_0).length Cu11_0) _vs11_0 := by
      have hx := _F0_4
      exact hx
    have _o_61 : Od bcs 4 1 _wr_6 w.heap.size _wr_6.heap.size _vs11_0 (grd n (mulM n A B)) := by
      have hx := od.up (lo' := w.heap.size) (hi' := _wr_6.heap.size) (by omega) (by omega)
      rwa [mupt_all (by omega)] at hx
    exact ret_intro [_] ⟨rfl, trivial⟩ ⟨(.slice Au11_0 (_vs11_0).length Cu11_0), _vs11_0, rfl, _o_60, (Lo.down _lo_u11_0 (by omega)), _o_61, _sep_vs11_0, E⟩

/-- impl.tree).reach -/
theorem c_impl_tree_reach_n : ∀ (n : Nat) {w : World} {LT_x _B_x : Nat} {p_x : Addr} {x : Tr} (_h_x : TrAt w LT_x _B_x p_x x) {LL_word _B_word : Nat} {_v_word : Value} {word : List Int} (_h_word : Ls ics 1 w LL_word _B_word _v_word word) (hok : Okd x) (hw : word.length ≤ 4096) (hsz : x.sz < n),
    Ctr Try.prog 179 #[(.pointer (some p_x)), _v_word] w (fun v w' => ∃ (_u0 : Value) (vs0 : List Sv), v = _u0 ∧ Ol Sv.cs 24 1 w' _u0 vs0 ∧ Lo w.heap.size _u0 ∧ Od bcs 4 1 w' w.heap.size w'.heap.size vs0 (grd (word.length + 1) (mtT word x)) ∧ Sep _u0 vs0 ∧ Ch [] w w') := by
  intro n
  induction n with
  | zero => intros; omega
  | succ n ih =>
  intro w LT_x _B_x p_x x _h_x LL_word _B_word _v_word word _h_word hok hw hsz
  have _h_x := _h_x.here
  obtain ⟨_A_x, _C_x, _ps_x, _hc_x, _hk_x, _kd_x⟩ := _h_x.open
  have _kl_x := _kd_x.1
  obtain ⟨_A_word, _C_word, _e1_word⟩ := _h_word.val
  subst _e1_word
  have _l_word := _h_word.len
  have _h_word := _h_word.here (by decide)
  have E := Ch.refl [] w
  have k2 := hok.len
  refine Ctr_of_W (N := 145) (vs0 := [(.pointer (some p_x)), (.slice _A_word word.length _C_word)]) Try.func179 rfl rfl rfl ?_
  refine W_seq fun _K_1 _hK_1 => ?_
  refine W_region ?_
  refine WL_step rfl rfl (r_assign rfl) ?_
  refine WL_nil ?_
  refine thn_nrm (_hK_1 _ _ ?_)
  clear _hK_1
  refine W_seq fun _K_2 _hK_2 => ?_
  refine W_region ?_
  refine WL_step rfl rfl (r_move rfl) ?_
  refine WL_step rfl rfl (r_len (by rw [el30]; rfl) rfl) ?_
  refine WL_step rfl rfl (r_add (by omega) rfl rfl) ?_
  refine WL_step rfl rfl (r_assign rfl) ?_
  refine WL_nil ?_
  refine thn_nrm (_hK_2 _ _ ?_)
  clear _hK_2
  refine W_seq fun _K_3 _hK_3 => ?_
  refine W_region ?_
  refine WL_step rfl rfl (r_move rfl) ?_
  refine WL_s rfl rfl ?_
  refine Step.call (r_call (xs := [.tmp 16, .const (Go.Value.bool false)]) fk203 rfl) (c_impl_ways (word.length + 1) _ (by omega)) fun _v17 _w_4 _q17 => ?_
  obtain ⟨u17_0, _vs17_0, rfl, _q_u17_0, _lo_u17_0, _od_vs17_0, _sep_vs17_0, _cw_4⟩ := _q17
  have _cw_4z := _cw_4.size
  have E := E.trans _cw_4
  obtain ⟨Au17_0, Cu17_0, eu17_0⟩ := _q_u17_0.val
  subst eu17_0
  have lu17_0 := _q_u17_0.len
  have _hiu17_0 := _q_u17_0.lt
  refine WL_step rfl rfl (r_assign rfl) ?_
  refine WL_nil ?_
  refine thn_nrm (_hK_3 _ _ ?_)
  clear _hK_3
  refine W_seq fun _K_5 _hK_5 => ?_
  refine W_seq fun _K_6 _hK_6 => ?_
  refine W_region ?_
  refine WL_step rfl rfl (r_move rfl) ?_
  refine WL_step rfl rfl (r_nilCheck rfl) ?_
  refine WL_step rfl rfl (r_fieldAddr fa193_0 rfl) ?_
  refine WL_step rfl rfl (r_fieldAddrN (n := 0) fa126_0 rfl rfl) ?_
  have _f_7 := (_hc_x.ch0 _cw_4)
  refine WL_step rfl rfl (r_loadAt _f_7 agg3 rfl rfl) ?_
  refine WL_nil ?_
  refine thn_nrm (_hK_6 _ _ ?_)
  clear _hK_6
  refine W_block ?_
  refine W_seq fun _K_8 _hK_8 => ?_
  refine W_region ?_
  refine WL_step rfl rfl (r_eql rfl rfl) ?_
  refine WL_step rfl rfl (r_assign rfl) ?_
  refine WL_nil ?_
  refine thn_nrm (_hK_8 _ _ ?_)
  clear _hK_8
  refine W_cond rfl (fun _h23 => ?_) (fun _h23 => ?_)
  · have _kb_9 := _h23
    have _h23 := bt_d _h23
    have em2 := mt2 (w := word) hok (by omega)
    refine W_region ?_
    refine WL_step rfl rfl (r_move rfl) ?_
    refine WL_s rfl rfl ?_
    refine Step.call (r_call (xs := [.tmp 25, .const (Go.Value.bool true)]) fk203 rfl) (c_impl_ways (word.length + 1) _ (by omega)) fun _v26 _w_10 _q26 => ?_
    obtain ⟨u26_0, _vs26_0, rfl, _q_u26_0, _lo_u26_0, _od_vs26_0, _sep_vs26_0, _cw_10⟩ := _q26
    have _cw_10z := _cw_10.size
    have E := E.trans _cw_10
    obtain ⟨Au26_0, Cu26_0, eu26_0⟩ := _q_u26_0.val
    subst eu26_0
    have lu26_0 := _q_u26_0.len
    have _hiu26_0 := _q_u26_0.lt
    refine WL_step rfl rfl (r_assign rfl) ?_
    refine WL_nil ?_
    refine inB_nrm ?_
    refine thn_nrm (_hK_5 _ _ ?_)
    clear _hK_5
    refine W_seq fun _K_11 _hK_11 => ?_
    refine W_region ?_
    refine WL_step rfl rfl (r_move rfl) ?_
    refine WL_step rfl rfl (r_assign rfl) ?_
    refine WL_nil ?_
    refine thn_nrm (_hK_11 _ _ ?_)
    clear _hK_11
    refine W_ret ?_
    have _o_12 : Ol Sv.cs 24 1 _w_10 (.slice Au26_0 (_vs26_0).length Cu26_0) _vs26_0 := by
      have hx := _q_u26_0
      exact hx
    have _o_13 : Od bcs 4 1 _w_10 w.heap.size _w_10.heap.size _vs26_0 (grd (word.length + 1) (mtT word x)) := by
      have hx := _od_vs26_0.up (lo' := w.heap.size) (hi' := _w_10.heap.size) (by omega) (by omega)
      first | (rw [em2]; exact hx) | fail
    exact ret_intro [_] ⟨rfl, trivial⟩ ⟨(.slice Au26_0 (_vs26_0).length Cu26_0), _vs26_0, rfl, _o_12, (Lo.down _lo_u26_0 (by omega)), _o_13, _sep_vs26_0, E⟩
  · have _kb_9 := _h23
    have _h23 := bf_d _h23
    refine W_seq fun _K_14 _hK_14 => ?_
    refine W_region ?_
    refine WL_step rfl rfl (r_eql rfl rfl) ?_
    refine WL_step rfl rfl (r_assign rfl) ?_
    refine WL_nil ?_
    refine thn_nrm (_hK_14 _ _ ?_)
    clear _hK_14
    refine W_cond rfl (fun _h27 => ?_) (fun _h27 => ?_)
    · have _kb_15 := _h27
      have _h27 := bt_d _h27
      have em3 := mt3 (w := word) hok (by omega)
      refine W_seq fun _K_16 _hK_16 => ?_
      refine W_region ?_
      refine WL_step rfl rfl (r_move rfl) ?_
      refine WL_step rfl rfl (r_len (by rw [el30]; rfl) rfl) ?_
      refine WL_step rfl rfl (r_move rfl) ?_
      refine WL_nil ?_
      refine thn_nrm (_hK_16 _ _ ?_)
      clear _hK_16
      refine W_block ?_
      refine W_loop (σ := Nat) (fun (i : Nat) => [(0, (.pointer (some p_x))), (1, (.slice _A_word word.length _C_word)), (4, (.slice none 0 0)), (5, (.int .i64 (((word.length : Nat) : Int) + 1))), (6, (.slice Au17_0 (_vs17_0).length Cu17_0)), (22, (.int .i64 x.tok.kind)), (29, (.slice _A_word word.length _C_word)), (30, (.int .i64 ((word.length : Nat) : Int))), (31, (.int .i64 ((i : Nat) : Int)))]) (fun (i : Nat) wx => Ch [] w wx ∧ _w_4.heap.size ≤ wx.heap.size ∧ (i ≤ word.length) ∧ At wx LT_x w.heap.size p_x ([.int .i64 x.tok.kind, .int .i64 x.tok.letter, .int .i64 x.tok.low, .int .i64 x.tok.high, (.slice _A_x _ps_x.length _C_x)]) ∧ Ol Sv.cs 24 1 wx (.slice Au17_0 (_vs17_0).length Cu17_0) _vs17_0 ∧ Od bcs 4 1 wx w.heap.size _w_4.heap.size _vs17_0 (grd (word.length + 1) (lupt x.tok.letter word i))) (fun (i : Nat) => word.length - i) 0 (Sub.cons rfl (Sub.cons rfl (Sub.cons rfl (Sub.cons rfl (Sub.cons rfl (Sub.cons rfl (Sub.cons rfl (Sub.cons rfl (Sub.cons rfl (Sub.nil _)))))))))) ⟨E, (Nat.le_refl _), (by omega), _f_7, _q_u17_0, (_od_vs17_0.eq lupt_zero)⟩ ?_
      rintro i _wr_17 ⟨E, _zz0, hi, _F0_0, _F0_5, od⟩
      have _E0h := E
      have _E0hz := _E0h.size
      refine W_seq fun _K_18 _hK_18 => ?_
      refine W_region ?_
      refine WL_step rfl rfl (r_lss rfl rfl) ?_
      refine WL_nil ?_
      refine thn_nrm (_hK_18 _ _ ?_)
      clear _hK_18
      refine W_seq fun _K_19 _hK_19 => ?_
      refine W_cond rfl (fun _h32 => ?_) (fun _h32 => ?_)
      · have _kb_20 := _h32
        have _h32 := bt_d _h32
        refine W_skip ?_
        refine thn_nrm (_hK_19 _ _ ?_)
        clear _hK_19
        refine W_seq fun _K_21 _hK_21 => ?_
        refine W_block ?_
        refine W_seq fun _K_22 _hK_22 => ?_
        refine W_region ?_
        refine WL_step rfl rfl (r_move rfl) ?_
        refine WL_s rfl rfl ?_
        have _f_23 := (_h_word.ch0 _E0h)
        refine (s_index _f_23 ics_len el30 sz3 rfl rfl rfl (by omega) fun _p34 _y34 _hy34 _a34 => ?_)
        refine WL_step rfl rfl (r_loadAt0 _a34 agg3 rfl rfl) ?_
        refine WL_step rfl rfl (r_assign rfl) ?_
        refine WL_step rfl rfl (r_assign rfl) ?_
        refine WL_nil ?_
        refine thn_nrm (_hK_22 _ _ ?_)
        clear _hK_22
        have _ln936 := (od).1
        rw [grd_len] at _ln936
        obtain ⟨go936, hgo936, lso936⟩ := Ol.lsE _F0_5 (by omega)
        obtain ⟨_y936, _hy936⟩ := get_some (xs := _vs17_0) (j := i) (by omega)
        have _sm936 := _sep_vs17_0 _ (mem_of_get _hy936)
        obtain ⟨_ys936, _hys936, _fs936, _rs936⟩ := od.ownget _hy936
        obtain ⟨_A936, _n936, _C936⟩ := _y936
        obtain rfl := _fs936.ls.eqn
        have _l936 := _fs936.len
        have _lo936 : Lo w.heap.size (.slice _A936 _ys936.length _C936) := fun g hg => (_rs936 g hg).1
        have hi936 : ∀ g ∈ bl (.slice _A936 _ys936.length _C936), g < _w_4.heap.size := fun g hg => (_rs936 g hg).2
        replace _fs936 : Ol bcs 4 1 _wr_17 (.slice _A936 _ys936.length _C936) _ys936 := _fs936
        have rl936 := row_len rfl _hys936
        refine W_drawC (bl (.slice _A936 _ys936.length _C936)) 15 mixed rfl fun _w_24 _cw_24 => ?_
        have _cw_24z := _cw_24.size
        have E := E.trans _cw_24
        refine DR_s 0 rfl (by kernel_rfl) rfl rfl (t_v (fun _ => (r_move rfl)) ?_)
        refine DR_s 1 rfl (by kernel_rfl) rfl rfl (t_v (fun _ => (r_move rfl)) ?_)
        have _f_25 := (lso936.ch0 _cw_24)
        refine DR_s 2 rfl (by kernel_rfl) rfl rfl (t_index _f_25 Sv.len el194 sz24 rfl rfl rfl (by omega) fun _p38 _y38 _hy38 _a38 => ?_)
        obtain rfl := get_uniq _hy936 _hy38
        replace _a38 : At _w_24 go936 (go936 + 1) _p38 ([(.slice _A936 _ys936.length _C936)]) := _a38
        refine DR_s 3 rfl (by kernel_rfl) rfl rfl (t_loadAt0 _a38 (fun i hm => ne_blk (_sm936 i hm) hgo936) agg24 rfl rfl ?_)
        refine DR_s 4 rfl (by kernel_rfl) rfl rfl (t_v (fun _ => (r_move rfl)) ?_)
        refine DR_s 5 rfl (by kernel_rfl) rfl rfl (t_v (fun _ => (r_add (by omega) rfl rfl)) ?_)
        refine DR_s 6 rfl (by kernel_rfl) rfl rfl (t_v (fun _ => (r_move rfl)) ?_)
        refine DR_s 7 rfl (by kernel_rfl) rfl rfl (t_v (fun _ => (r_move rfl)) ?_)
        refine DR_s 8 rfl (by kernel_rfl) rfl rfl (t_v (fun _ => (r_nilCheck rfl)) ?_)
        refine DR_s 9 rfl (by kernel_rfl) rfl rfl (t_v (fun _ => (r_fieldAddr fa193_0 rfl)) ?_)
        refine DR_s 10 rfl (by kernel_rfl) rfl rfl (t_v (fun _ => (r_fieldAddrN (n := 1) fa126_1 rfl rfl)) ?_)
        have _f_26 := (_F0_0.ch0 _cw_24)
        refine DR_s 11 rfl (by kernel_rfl) rfl rfl (t_loadAt _f_26 (fun i hm => by have _h1 := _lo936 _ hm; have _h2 := hi936 _ hm; omega) agg3 rfl rfl ?_)
        refine DR_s 12 rfl (by kernel_rfl) rfl rfl (t_v (fun _ => (r_eql rfl rfl)) ?_)
        refine DR_one 13 (by kernel_rfl) ?_
        refine DO_s rfl rfl rfl ?_
        have _f_27 := (_fs936.ch0 _cw_24)
        refine s_indexO (j := (i + 1)) _f_27 el24 sz4 rfl rfl rfl (by omega) fun _g49 _o49 _cp49 _q49 => ?_
        refine ⟨(Ch.refl _ _), ?_⟩
        refine DR_one 14 (by kernel_rfl) ?_
        refine DO_s rfl rfl rfl ?_
        refine s_storeO (j := (i + 1)) (decide (_y34 = x.tok.letter)) _f_27 _q49 bcs_len sz4 rfl rfl rfl rfl (by omega) fun _w_28 _o_29 _cw_28 => ?_
        have _f_30 := (od.ch0 _cw_24)
        have _cw_28z := _cw_28.size
        have E := E.step _cw_28 (fun i hi => .inl (by have _h1 := _lo936 _ hi; omega))
        have _od_31 := Od.set _f_30 _hy936 _hys936 _cw_28 _o_29
        have _S_32 : Ch (bl (.slice _A936 _ys936.length _C936)) _w_24 _w_28 := ((Ch.refl _ _).step _cw_28 (fun i hm => by exact .inr hm))
        refine ⟨_S_32, ?_⟩
        refine DR_done (by kernel_rfl) ?_
        refine inB_nrm ?_
        refine thn_nrm (_hK_21 _ _ ?_)
        clear _hK_21
        refine W_region ?_
        refine WL_step rfl rfl (r_add (by omega) rfl rfl) ?_
        refine WL_step rfl rfl (r_move rfl) ?_
        refine WL_nil ?_
        have _f_33 := (_f_26.ch _cw_28 (fun i hi => by have _h1 := _lo936 _ hi; omega))
        have _f_34 := ((_F0_5.ch0 _cw_24).ch _cw_28 (fun g hg hm => by exact _sm936 _ hm hg))
        exact thn_nrm (Exists.intro (i + 1) ⟨⟨E, (by omega), (by omega), _f_33, _f_34, (_od_31.eq (lupt_step rfl _hys936 _hy34 rfl))⟩, Sub.cons rfl (Sub.cons rfl (Sub.cons rfl (Sub.cons rfl (Sub.cons rfl (Sub.cons rfl (Sub.cons rfl (Sub.cons rfl (Sub.cons rfl (Sub.nil _))))))))), (by first | omega | (dsimp only; omega))⟩)
      · have _kb_20 := _h32
        have _h32 := bf_d _h32
        refine W_exit (thn_exit (thn_exit (inB_hit ?_)))
        refine inB_nrm ?_
        refine thn_nrm (_hK_5 _ _ ?_)
        clear _hK_5
        refine W_seq fun _K_35 _hK_35 => ?_
        refine W_region ?_
        refine WL_step rfl rfl (r_move rfl) ?_
        refine WL_step rfl rfl (r_assign rfl) ?_
        refine WL_nil ?_
        refine thn_nrm (_hK_35 _ _ ?_)
        clear _hK_35
        refine W_ret ?_
        clear _hK_19
        have _o_36 : Ol Sv.cs 24 1 _wr_17 (.slice Au17_0 (_vs17_0).length Cu17_0) _vs17_0 := by
          have hx := _F0_5
          exact hx
        have _o_37 : Od bcs 4 1 _wr_17 w.heap.size _wr_17.heap.size _vs17_0 (grd (word.length + 1) (mtT word x)) := by
          have hx := od.up (lo' := w.heap.size) (hi' := _wr_17.heap.size) (by omega) (by omega)
          first | exact hx.eq (by rw [em3]; exact lupt_all rfl (by omega)) | fail
        exact ret_intro [_] ⟨rfl, trivial⟩ ⟨(.slice Au17_0 (_vs17_0).length Cu17_0), _vs17_0, rfl, _o_36, (Lo.down _lo_u17_0 (by omega)), _o_37, _sep_vs17_0, E⟩
    · have _kb_15 := _h27
      have _h27 := bf_d _h27
      refine W_seq fun _K_38 _hK_38 => ?_
      refine W_region ?_
      refine WL_step rfl rfl (r_eql rfl rfl) ?_
      refine WL_step rfl rfl (r_assign rfl) ?_
      refine WL_nil ?_
      refine thn_nrm (_hK_38 _ _ ?_)
      clear _hK_38
      refine W_cond rfl (fun _h51 => ?_) (fun _h51 => ?_)
      · have _kb_39 := _h51
        have _h51 := bt_d _h51
        obtain ⟨ta, tb, _hk0, _hk1, oa, ob, sab, ga, gb⟩ := hok.kk2 (by omega)
        have em4 := mt4 (w := word) (by omega) _hk0 _hk1
        refine W_drawC [] 18 mixed rfl fun _w_40 _cw_40 => ?_
        have _cw_40z := _cw_40.size
        have E := E.trans _cw_40
        refine DR_s 0 rfl (by kernel_rfl) rfl rfl (t_v (fun _ => (r_move rfl)) ?_)
        refine DR_s 1 rfl (by kernel_rfl) rfl rfl (t_v (fun _ => (r_nilCheck rfl)) ?_)
        refine DR_s 2 rfl (by kernel_rfl) rfl rfl (t_v (fun _ => (r_fieldAddr fa193_1 rfl)) ?_)
        have _f_41 := (_f_7.ch0 _cw_40)
        refine DR_s 3 rfl (by kernel_rfl) rfl rfl (t_loadAt _f_41 (fun i hi => absurd hi List.not_mem_nil) agg189 rfl rfl ?_)
        have _f_42 := ((_hk_x.ch0 _cw_4).ch0 _cw_40)
        have _f_43 := ((_kd_x.ch0 _cw_4).ch0 _cw_40)
        refine DR_s 4 rfl (by kernel_rfl) rfl rfl (t_index (j := 0) _f_42 acs_len el189 sz129 rfl rfl rfl (by omega) fun _p57 _y57 _hy57 _a57 => ?_)
        have ht57 := _hk0
        have _tr57 := _f_43.2 _ _ _ _hy57 _hk0
        obtain ⟨_A_57, _C_57, _ps_57, _hc_57, _hk_57, _kd_57⟩ := _tr57.open
        have _kl_57 := _kd_57.1
        replace _a57 : At _w_40 LT_x w.heap.size _p57 ([(.pointer (some _y57))]) := _a57
        refine DR_s 5 rfl (by kernel_rfl) rfl rfl (t_loadAt0 _a57 (fun i hi => absurd hi List.not_mem_nil) agg129 rfl rfl ?_)
        refine DR_s 6 rfl (by kernel_rfl) rfl rfl (t_v (fun _ => (r_move rfl)) ?_)
        refine DR_s 8 rfl (by kernel_rfl) rfl rfl (t_v (fun _ => (r_move rfl)) ?_)
        refine DR_s 9 rfl (by kernel_rfl) rfl rfl (t_v (fun _ => (r_nilCheck rfl)) ?_)
        refine DR_s 10 rfl (by kernel_rfl) rfl rfl (t_v (fun _ => (r_fieldAddr fa193_1 rfl)) ?_)
        refine DR_s 11 rfl (by kernel_rfl) rfl rfl (t_loadAt _f_41 (fun i hi => absurd hi List.not_mem_nil) agg189 rfl rfl ?_)
        refine DR_s 12 rfl (by kernel_rfl) rfl rfl (t_index (j := 1) _f_42 acs_len el189 sz129 rfl rfl rfl (by omega) fun _p65 _y65 _hy65 _a65 => ?_)
        have ht65 := _hk1
        have _tr65 := _f_43.2 _ _ _ _hy65 _hk1
        obtain ⟨_A_65, _C_65, _ps_65, _hc_65, _hk_65, _kd_65⟩ := _tr65.open
        have _kl_65 := _kd_65.1
        replace _a65 : At _w_40 LT_x w.heap.size _p65 ([(.pointer (some _y65))]) := _a65
        refine DR_s 13 rfl (by kernel_rfl) rfl rfl (t_loadAt0 _a65 (fun i hi => absurd hi List.not_mem_nil) agg129 rfl rfl ?_)
        refine DR_s 14 rfl (by kernel_rfl) rfl rfl (t_v (fun _ => (r_move rfl)) ?_)
        refine DR_one 7 (by kernel_rfl) ?_
        refine DO_s rfl rfl rfl ?_
        have _f_44 := ((_h_word.ch0 _cw_4).ch0 _cw_40)
        refine Step.call (r_call (xs := [.tmp 58, .tmp 59]) fk179 rfl) (ih _tr57 _f_44 oa hw (by omega)) fun _v60 _w_45 _q60 => ?_
        obtain ⟨u60_0, _vs60_0, rfl, _q_u60_0, _lo_u60_0, _od_vs60_0, _sep_vs60_0, _cw_45⟩ := _q60
        have _cw_45z := _cw_45.size
        have E := E.trans _cw_45
        obtain ⟨Au60_0, Cu60_0, eu60_0⟩ := _q_u60_0.val
        subst eu60_0
        have lu60_0 := _q_u60_0.len
        have _hiu60_0 := _q_u60_0.lt
        have _S_46 : Ch [] _w_40 _w_45 := ((Ch.refl _ _).trans _cw_45)
        refine ⟨_S_46, ?_⟩
        refine DR_one 15 (by kernel_rfl) ?_
        refine DO_s rfl rfl rfl ?_
        have _f_47 := (_tr65.ch0 _cw_45)
        have _f_48 := (_f_44.ch0 _cw_45)
        refine Step.call (r_call (xs := [.tmp 66, .tmp 67]) fk179 rfl) (ih _f_47 _f_48 ob hw (by omega)) fun _v68 _w_49 _q68 => ?_
        obtain ⟨u68_0, _vs68_0, rfl, _q_u68_0, _lo_u68_0, _od_vs68_0, _sep_vs68_0, _cw_49⟩ := _q68
        have _cw_49z := _cw_49.size
        have E := E.trans _cw_49
        obtain ⟨Au68_0, Cu68_0, eu68_0⟩ := _q_u68_0.val
        subst eu68_0
        have lu68_0 := _q_u68_0.len
        have _hiu68_0 := _q_u68_0.lt
        have _S_50 : Ch [] _w_40 _w_49 := (_S_46.trans _cw_49)
        refine ⟨_S_50, ?_⟩
        refine DR_one 16 (by kernel_rfl) ?_
        refine DO_s rfl rfl rfl ?_
        have _f_51 := (_od_vs60_0.ch0 _cw_49)
        have _f_52 := (_q_u60_0.ch0 _cw_49)
        refine Step.call (r_call (xs := [.tmp 60, .tmp 68]) fk204 rfl) (c_impl_inTurn _f_52.ls _f_51.rd _q_u68_0.ls _od_vs68_0.rd (word.length + 1) (mtT word ta) (mtT word tb) rfl rfl (mt_tri _ _) (mt_tri _ _) (by omega)) fun _v69 _w_53 _q69 => ?_
        obtain ⟨u69_0, _vs69_0, rfl, _q_u69_0, _lo_u69_0, _od_vs69_0, _sep_vs69_0, _cw_53⟩ := _q69
        have _cw_53z := _cw_53.size
        have E := E.trans _cw_53
        obtain ⟨Au69_0, Cu69_0, eu69_0⟩ := _q_u69_0.val
        subst eu69_0
        have lu69_0 := _q_u69_0.len
        have _hiu69_0 := _q_u69_0.lt
        have _S_54 : Ch [] _w_40 _w_53 := (_S_50.trans _cw_53)
        refine ⟨_S_54, ?_⟩
        refine DR_s 17 rfl (by kernel_rfl) rfl rfl (t_v (fun _ => (r_assign rfl)) ?_)
        refine DR_done (by kernel_rfl) ?_
        refine inB_nrm ?_
        refine thn_nrm (_hK_5 _ _ ?_)
        clear _hK_5
        refine W_seq fun _K_55 _hK_55 => ?_
        refine W_region ?_
        refine WL_step rfl rfl (r_move rfl) ?_
        refine WL_step rfl rfl (r_assign rfl) ?_
        refine WL_nil ?_
        refine thn_nrm (_hK_55 _ _ ?_)
        clear _hK_55
        refine W_ret ?_
        have _o_56 : Ol Sv.cs 24 1 _w_53 (.slice Au69_0 (_vs69_0).length Cu69_0) _vs69_0 := by
          have hx := _q_u69_0
          exact hx
        have _o_57 : Od bcs 4 1 _w_53 w.heap.size _w_53.heap.size _vs69_0 (grd (word.length + 1) (mtT word x)) := by
          have hx := _od_vs69_0.up (lo' := w.heap.size) (hi' := _w_53.heap.size) (by omega) (by omega)
          first | (rw [em4]; exact hx) | fail
        exact ret_intro [_] ⟨rfl, trivial⟩ ⟨(.slice Au69_0 (_vs69_0).length Cu69_0), _vs69_0, rfl, _o_56, (Lo.down _lo_u69_0 (by omega)), _o_57, _sep_vs69_0, E⟩
      · have _kb_39 := _h51
        have _h51 := bf_d _h51
        refine W_seq fun _K_58 _hK_58 => ?_
        refine W_region ?_
        refine WL_step rfl rfl (r_eql rfl rfl) ?_
        refine WL_step rfl rfl (r_assign rfl) ?_
        refine WL_nil ?_
        refine thn_nrm (_hK_58 _ _ ?_)
        clear _hK_58
        refine W_cond rfl (fun _h70 => ?_) (fun _h70 => ?_)
        · have _kb_59 := _h70
          have _h70 := bt_d _h70
          obtain ⟨ta, tb, _hk0, _hk1, oa, ob, sab, ga, gb⟩ := hok.kk2 (by omega)
          have em5 := mt5 (w := word) (by omega) _hk0 _hk1
          refine W_drawC [] 18 mixed rfl fun _w_60 _cw_60 => ?_
          have _cw_60z := _cw_60.size
          have E := E.trans _cw_60
          refine DR_s 0 rfl (by kernel_rfl) rfl rfl (t_v (fun _ => (r_move rfl)) ?_)
          refine DR_s 1 rfl (by kernel_rfl) rfl rfl (t_v (fun _ => (r_nilCheck rfl)) ?_)
          refine DR_s 2 rfl (by kernel_rfl) rfl rfl (t_v (fun _ => (r_fieldAddr fa193_1 rfl)) ?_)
          have _f_61 := (_f_7.ch0 _cw_60)
          refine DR_s 3 rfl (by kernel_rfl) rfl rfl (t_loadAt _f_61 (fun i hi => absurd hi List.not_mem_nil) agg189 rfl rfl ?_)
          have _f_62 := ((_hk_x.ch0 _cw_4).ch0 _cw_60)
          have _f_63 := ((_kd_x.ch0 _cw_4).ch0 _cw_60)
          refine DR_s 4 rfl (by kernel_rfl) rfl rfl (t_index (j := 0) _f_62 acs_len el189 sz129 rfl rfl rfl (by omega) fun _p76 _y76 _hy76 _a76 => ?_)
          have ht76 := _hk0
          have _tr76 := _f_63.2 _ _ _ _hy76 _hk0
          obtain ⟨_A_76, _C_76, _ps_76, _hc_76, _hk_76, _kd_76⟩ := _tr76.open
          have _kl_76 := _kd_76.1
          replace _a76 : At _w_60 LT_x w.heap.size _p76 ([(.pointer (some _y76))]) := _a76
          refine DR_s 5 rfl (by kernel_rfl) rfl rfl (t_loadAt0 _a76 (fun i hi => absurd hi List.not_mem_nil) agg129 rfl rfl ?_)
          refine DR_s 6 rfl (by kernel_rfl) rfl rfl (t_v (fun _ => (r_move rfl)) ?_)
          refine DR_s 8 rfl (by kernel_rfl) rfl rfl (t_v (fun _ => (r_move rfl)) ?_)
          refine DR_s 9 rfl (by kernel_rfl) rfl rfl (t_v (fun _ => (r_nilCheck rfl)) ?_)
          refine DR_s 10 rfl (by kernel_rfl) rfl rfl (t_v (fun _ => (r_fieldAddr fa193_1 rfl)) ?_)
          refine DR_s 11 rfl (by kernel_rfl) rfl rfl (t_loadAt _f_61 (fun i hi => absurd hi List.not_mem_nil) agg189 rfl rfl ?_)
          refine DR_s 12 rfl (by kernel_rfl) rfl rfl (t_index (j := 1) _f_62 acs_len el189 sz129 rfl rfl rfl (by omega) fun _p84 _y84 _hy84 _a84 => ?_)
          have ht84 := _hk1
          have _tr84 := _f_63.2 _ _ _ _hy84 _hk1
          obtain ⟨_A_84, _C_84, _ps_84, _hc_84, _hk_84, _kd_84⟩ := _tr84.open
          have _kl_84 := _kd_84.1
          replace _a84 : At _w_60 LT_x w.heap.size _p84 ([(.pointer (some _y84))]) := _a84
          refine DR_s 13 rfl (by kernel_rfl) rfl rfl (t_loadAt0 _a84 (fun i hi => absurd hi List.not_mem_nil) agg129 rfl rfl ?_)
          refine DR_s 14 rfl (by kernel_rfl) rfl rfl (t_v (fun _ => (r_move rfl)) ?_)
          refine DR_one 7 (by kernel_rfl) ?_
          refine DO_s rfl rfl rfl ?_
          have _f_64 := ((_h_word.ch0 _cw_4).ch0 _cw_60)
          refine Step.call (r_call (xs := [.tmp 77, .tmp 78]) fk179 rfl) (ih _tr76 _f_64 oa hw (by omega)) fun _v79 _w_65 _q79 => ?_
          obtain ⟨u79_0, _vs79_0, rfl, _q_u79_0, _lo_u79_0, _od_vs79_0, _sep_vs79_0, _cw_65⟩ := _q79
          have _cw_65z := _cw_65.size
          have E := E.trans _cw_65
          obtain ⟨Au79_0, Cu79_0, eu79_0⟩ := _q_u79_0.val
          subst eu79_0
          have lu79_0 := _q_u79_0.len
          have _hiu79_0 := _q_u79_0.lt
          have _S_66 : Ch [] _w_60 _w_65 := ((Ch.refl _ _).trans _cw_65)
          refine ⟨_S_66, ?_⟩
          refine DR_one 15 (by kernel_rfl) ?_
          refine DO_s rfl rfl rfl ?_
          have _f_67 := (_tr84.ch0 _cw_65)
          have _f_68 := (_f_64.ch0 _cw_65)
          refine Step.call (r_call (xs := [.tmp 85, .tmp 86]) fk179 rfl) (ih _f_67 _f_68 ob hw (by omega)) fun _v87 _w_69 _q87 => ?_
          obtain ⟨u87_0, _vs87_0, rfl, _q_u87_0, _lo_u87_0, _od_vs87_0, _sep_vs87_0, _cw_69⟩ := _q87
          have _cw_69z := _cw_69.size
          have E := E.trans _cw_69
          obtain ⟨Au87_0, Cu87_0, eu87_0⟩ := _q_u87_0.val
          subst eu87_0
          have lu87_0 := _q_u87_0.len
          have _hiu87_0 := _q_u87_0.lt
          have _S_70 : Ch [] _w_60 _w_69 := (_S_66.trans _cw_69)
          refine ⟨_S_70, ?_⟩
          refine DR_one 16 (by kernel_rfl) ?_
          refine DO_s rfl rfl rfl ?_
          have _f_71 := (_od_vs79_0.ch0 _cw_69)
          have _f_72 := (_q_u79_0.ch0 _cw_69)
          refine Step.call (r_call (xs := [.tmp 79, .tmp 87]) fk205 rfl) (c_impl_either _f_72.ls _f_71.rd _q_u87_0.ls _od_vs87_0.rd (word.length + 1) (mtT word ta) (mtT word tb) rfl rfl (mt_tri _ _) (mt_tri _ _) (by omega)) fun _v88 _w_73 _q88 => ?_
          obtain ⟨u88_0, _vs88_0, rfl, _q_u88_0, _lo_u88_0, _od_vs88_0, _sep_vs88_0, _cw_73⟩ := _q88
          have _cw_73z := _cw_73.size
          have E := E.trans _cw_73
          obtain ⟨Au88_0, Cu88_0, eu88_0⟩ := _q_u88_0.val
          subst eu88_0
          have lu88_0 := _q_u88_0.len
          have _hiu88_0 := _q_u88_0.lt
          have _S_74 : Ch [] _w_60 _w_73 := (_S_70.trans _cw_73)
          refine ⟨_S_74, ?_⟩
          refine DR_s 17 rfl (by kernel_rfl) rfl rfl (t_v (fun _ => (r_assign rfl)) ?_)
          refine DR_done (by kernel_rfl) ?_
          refine inB_nrm ?_
          refine thn_nrm (_hK_5 _ _ ?_)
          clear _hK_5
          refine W_seq fun _K_75 _hK_75 => ?_
          refine W_region ?_
          refine WL_step rfl rfl (r_move rfl) ?_
          refine WL_step rfl rfl (r_assign rfl) ?_
          refine WL_nil ?_
          refine thn_nrm (_hK_75 _ _ ?_)
          clear _hK_75
          refine W_ret ?_
          have _o_76 : Ol Sv.cs 24 1 _w_73 (.slice Au88_0 (_vs88_0).length Cu88_0) _vs88_0 := by
            have hx := _q_u88_0
            exact hx
          have _o_77 : Od bcs 4 1 _w_73 w.heap.size _w_73.heap.size _vs88_0 (grd (word.length + 1) (mtT word x)) := by
            have hx := _od_vs88_0.up (lo' := w.heap.size) (hi' := _w_73.heap.size) (by omega) (by omega)
            first | (rw [em5]; exact hx) | fail
          exact ret_intro [_] ⟨rfl, trivial⟩ ⟨(.slice Au88_0 (_vs88_0).length Cu88_0), _vs88_0, rfl, _o_76, (Lo.down _lo_u88_0 (by omega)), _o_77, _sep_vs88_0, E⟩
        · have _kb_59 := _h70
          have _h70 := bf_d _h70
          refine W_seq fun _K_78 _hK_78 => ?_
          refine W_region ?_
          refine WL_step rfl rfl (r_eql rfl rfl) ?_
          refine WL_step rfl rfl (r_assign rfl) ?_
          refine WL_nil ?_
          refine thn_nrm (_hK_78 _ _ ?_)
          clear _hK_78
          refine W_cond rfl (fun _h89 => ?_) (fun _h89 => ?_)
          · have _kb_79 := _h89
            have _h89 := bt_d _h89
            obtain ⟨ta, _hk0, oa, sab, ga⟩ := hok.kk1 (by omega)
            have em6 := mt6 (w := word) hok (by omega) _hk0
            refine W_seq fun _K_80 _hK_80 => ?_
            refine W_region ?_
            refine WL_step rfl rfl (r_move rfl) ?_
            refine WL_s rfl rfl ?_
            refine Step.call (r_call (xs := [.tmp 91, .const (Go.Value.bool true)]) fk203 rfl) (c_impl_ways (word.length + 1) _ (by omega)) fun _v92 _w_81 _q92 => ?_
            obtain ⟨u92_0, _vs92_0, rfl, _q_u92_0, _lo_u92_0, _od_vs92_0, _sep_vs92_0, _cw_81⟩ := _q92
            have _cw_81z := _cw_81.size
            have E := E.trans _cw_81
            obtain ⟨Au92_0, Cu92_0, eu92_0⟩ := _q_u92_0.val
            subst eu92_0
            have lu92_0 := _q_u92_0.len
            have _hiu92_0 := _q_u92_0.lt
            refine WL_step rfl rfl (r_assign rfl) ?_
            refine WL_nil ?_
            refine thn_nrm (_hK_80 _ _ ?_)
            clear _hK_80
            refine W_seq fun _K_82 _hK_82 => ?_
            refine W_region ?_
            refine WL_step rfl rfl (r_move rfl) ?_
            refine WL_step rfl rfl (r_nilCheck rfl) ?_
            refine WL_step rfl rfl (r_fieldAddr fa193_1 rfl) ?_
            have _f_83 := (_f_7.ch0 _cw_81)
            refine WL_step rfl rfl (r_loadAt _f_83 agg189 rfl rfl) ?_
            refine WL_s rfl rfl ?_
            have _f_84 := ((_hk_x.ch0 _cw_4).ch0 _cw_81)
            refine (s_index (j := 0) _f_84 acs_len el189 sz129 rfl rfl rfl (by omega) fun _p97 _y97 _hy97 _a97 => ?_)
            have _f_85 := ((_kd_x.ch0 _cw_4).ch0 _cw_81)
            have ht97 := _hk0
            have _tr97 := _f_85.2 _ _ _ _hy97 _hk0
            obtain ⟨_A_97, _C_97, _ps_97, _hc_97, _hk_97, _kd_97⟩ := _tr97.open
            have _kl_97 := _kd_97.1
            replace _a97 : At _w_81 LT_x w.heap.size _p97 ([(.pointer (some _y97))]) := _a97
            refine WL_step rfl rfl (r_loadAt0 _a97 agg129 rfl rfl) ?_
            refine WL_step rfl rfl (r_move rfl) ?_
            refine WL_s rfl rfl ?_
            have _f_86 := ((_h_word.ch0 _cw_4).ch0 _cw_81)
            refine Step.call (r_call (xs := [.tmp 98, .tmp 99]) fk179 rfl) (ih _tr97 _f_86 oa hw (by omega)) fun _v100 _w_87 _q100 => ?_
            obtain ⟨u100_0, _vs100_0, rfl, _q_u100_0, _lo_u100_0, _od_vs100_0, _sep_vs100_0, _cw_87⟩ := _q100
            have _cw_87z := _cw_87.size
            have E := E.trans _cw_87
            obtain ⟨Au100_0, Cu100_0, eu100_0⟩ := _q_u100_0.val
            subst eu100_0
            have lu100_0 := _q_u100_0.len
            have _hiu100_0 := _q_u100_0.lt
            refine WL_step rfl rfl (r_assign rfl) ?_
            refine WL_nil ?_
            refine thn_nrm (_hK_82 _ _ ?_)
            clear _hK_82
            refine W_seq fun _K_88 _hK_88 => ?_
            refine W_region ?_
            refine WL_step rfl rfl (r_move rfl) ?_
            refine WL_step rfl rfl (r_move rfl) ?_
            refine WL_nil ?_
            refine thn_nrm (_hK_88 _ _ ?_)
            clear _hK_88
            refine W_block ?_
            have _f_89 := (_q_u92_0.ch0 _cw_87)
            have _oi_90 : Ol Sv.cs 24 1 _w_87 (.slice Au92_0 (_vs92_0).length Cu92_0) (_vs92_0) := by
              have hx := _f_89
              exact hx
            have _f_91 := (_od_vs92_0.ch0 _cw_87)
            have _f_92 := (_f_83.ch0 _cw_87)
            have _f_93 := (_f_84.ch0 _cw_87)
            have _f_94 := (_f_85.ch0 _cw_87)
            have _f_95 := (_f_86.ch0 _cw_87)
            refine W_loop (σ := Nat × List Sv × Value) (fun ⟨m, us, ov⟩ => [(0, (.pointer (some p_x))), (1, (.slice _A_word word.length _C_word)), (4, (.slice none 0 0)), (5, (.int .i64 (((word.length : Nat) : Int) + 1))), (6, ov), (9, (.slice Au100_0 (_vs100_0).length Cu100_0)), (22, (.int .i64 x.tok.kind)), (101, (.int .i64 (((word.length : Nat) : Int) + 1))), (102, (.int .i64 ((m : Nat) : Int)))]) (fun ⟨m, us, ov⟩ wx => Ch [] w wx ∧ _w_87.heap.size ≤ wx.heap.size ∧ (m ≤ (word.length + 1)) ∧ At wx LT_x w.heap.size p_x ([.int .i64 x.tok.kind, .int .i64 x.tok.letter, .int .i64 x.tok.low, .int .i64 x.tok.high, (.slice _A_x _ps_x.length _C_x)]) ∧ Ls acs 1 wx LT_x w.heap.size (.slice _A_x _ps_x.length _C_x) _ps_x ∧ Kd wx LT_x w.heap.size _ps_x x.kids ∧ Ls ics 1 wx LL_word w.heap.size (.slice _A_word word.length _C_word) word ∧ Ol Sv.cs 24 1 wx (.slice Au100_0 (_vs100_0).length Cu100_0) _vs100_0 ∧ Od bcs 4 1 wx _w_81.heap.size _w_87.heap.size _vs100_0 (grd (word.length + 1) (mtT word ta)) ∧ Ol Sv.cs 24 1 wx ov us ∧ Lo _w_4.heap.size ov ∧ Od bcs 4 1 wx w.heap.size wx.heap.size us (grd (word.length + 1) (srM (word.length + 1) (mtT word ta) m)) ∧ (Sep ov us)) (fun ⟨m, us, ov⟩ => (word.length + 1) - m) (0, _vs92_0, (.slice Au92_0 (_vs92_0).length Cu92_0)) (Sub.cons rfl (Sub.cons rfl (Sub.cons rfl (Sub.cons rfl (Sub.cons rfl (Sub.cons rfl (Sub.cons rfl (Sub.cons rfl (Sub.cons rfl (Sub.nil _)))))))))) ⟨E, (Nat.le_refl _), (by omega), _f_92, _f_93, _f_94, _f_95, _q_u100_0, _od_vs100_0, _oi_90, _lo_u92_0, ((_f_91.up (by omega) (by omega)).eq (by rw [srM])), _sep_vs92_0⟩ ?_
            rintro ⟨m, us, ov⟩ _wr_96 ⟨E, _zz1, hm, _F1_0, _F1_2, _F1_3, _F1_4, _F1_5, _F1_6, _o1_6, _lo1_6, od, _spl1_6⟩
            have _E1h := E
            have _E1hz := _E1h.size
            obtain ⟨Aov, Cov, eov⟩ := _o1_6.val
            subst eov
            have lov := _o1_6.len
            have hiov := _o1_6.lt
            refine W_seq fun _K_97 _hK_97 => ?_
            refine W_region ?_
            refine WL_step rfl rfl (r_lss rfl rfl) ?_
            refine WL_nil ?_
            refine thn_nrm (_hK_97 _ _ ?_)
            clear _hK_97
            refine W_seq fun _K_98 _hK_98 => ?_
            refine W_cond rfl (fun _h103 => ?_) (fun _h103 => ?_)
            · have _kb_99 := _h103
              have _h103 := bt_d _h103
              refine W_skip ?_
              refine thn_nrm (_hK_98 _ _ ?_)
              clear _hK_98
              refine W_seq fun _K_100 _hK_100 => ?_
              refine W_block ?_
              refine W_region ?_
              refine WL_step rfl rfl (r_move rfl) ?_
              refine WL_step rfl rfl (r_move rfl) ?_
              refine WL_step rfl rfl (r_move rfl) ?_
              refine WL_s rfl rfl ?_
              refine Step.call (r_call (xs := [.tmp 105, .tmp 106]) fk204 rfl) (c_impl_inTurn _o1_6.ls od.rd _F1_5.ls _F1_6.rd (word.length + 1) (srM (word.length + 1) (mtT word ta) m) (mtT word ta) rfl rfl (st_tri (mt_tri _ _) _) (mt_tri _ _) (by omega)) fun _v107 _w_101 _q107 => ?_
              obtain ⟨u107_0, _vs107_0, rfl, _q_u107_0, _lo_u107_0, _od_vs107_0, _sep_vs107_0, _cw_101⟩ := _q107
              have _cw_101z := _cw_101.size
              have E := E.trans _cw_101
              obtain ⟨Au107_0, Cu107_0, eu107_0⟩ := _q_u107_0.val
              subst eu107_0
              have lu107_0 := _q_u107_0.len
              have _hiu107_0 := _q_u107_0.lt
              refine WL_s rfl rfl ?_
              have _f_102 := (od.ch0 _cw_101)
              have _f_103 := (_o1_6.ch0 _cw_101)
              refine Step.call (r_call (xs := [.tmp 104, .tmp 107]) fk205 rfl) (c_impl_either _f_103.ls _f_102.rd _q_u107_0.ls _od_vs107_0.rd (word.length + 1) (srM (word.length + 1) (mtT word ta) m) (mulM (word.length + 1) (srM (word.length + 1) (mtT word ta) m) (mtT word ta)) rfl rfl (st_tri (mt_tri _ _) _) ((st_tri (mt_tri _ _) _).mul (mt_tri _ _)) (by omega)) fun _v108 _w_104 _q108 => ?_
              obtain ⟨u108_0, _vs108_0, rfl, _q_u108_0, _lo_u108_0, _od_vs108_0, _sep_vs108_0, _cw_104⟩ := _q108
              have _cw_104z := _cw_104.size
              have E := E.trans _cw_104
              obtain ⟨Au108_0, Cu108_0, eu108_0⟩ := _q_u108_0.val
              subst eu108_0
              have lu108_0 := _q_u108_0.len
              have _hiu108_0 := _q_u108_0.lt
              refine WL_step rfl rfl (r_assign rfl) ?_
              refine WL_nil ?_
              refine inB_nrm ?_
              refine thn_nrm (_hK_100 _ _ ?_)
              clear _hK_100
              refine W_region ?_
              refine WL_step rfl rfl (r_add (by omega) rfl rfl) ?_
              refine WL_step rfl rfl (r_move rfl) ?_
              refine WL_nil ?_
              have _on_105 : Ol Sv.cs 24 1 _w_104 (.slice Au108_0 (_vs108_0).length Cu108_0) (_vs108_0) := by
                have hx := _q_u108_0
                exact hx
              have _f_106 := ((_F1_0.ch0 _cw_101).ch0 _cw_104)
              have _f_107 := ((_F1_2.ch0 _cw_101).ch0 _cw_104)
              have _f_108 := ((_F1_3.ch0 _cw_101).ch0 _cw_104)
              have _f_109 := ((_F1_4.ch0 _cw_101).ch0 _cw_104)
              have _f_110 := ((_F1_5.ch0 _cw_101).ch0 _cw_104)
              have _f_111 := ((_F1_6.ch0 _cw_101).ch0 _cw_104)
              exact thn_nrm (Exists.intro ((m + 1), _vs108_0, (.slice Au108_0 (_vs108_0).length Cu108_0)) ⟨⟨E, (by omega), (by omega), _f_106, _f_107, _f_108, _f_109, _f_110, _f_111, _on_105, (Lo.down _lo_u108_0 (by omega)), ((_od_vs108_0.up (by omega) (by omega)).eq st_succ), _sep_vs108_0⟩, Sub.cons rfl (Sub.cons rfl (Sub.cons rfl (Sub.cons rfl (Sub.cons rfl (Sub.cons rfl (Sub.cons rfl (Sub.cons rfl (Sub.cons rfl (Sub.nil _))))))))), (by first | omega | (dsimp only; omega))⟩)
            · have _kb_99 := _h103
              have _h103 := bf_d _h103
              refine W_exit (thn_exit (thn_exit (inB_hit ?_)))
              refine inB_nrm ?_
              refine thn_nrm (_hK_5 _ _ ?_)
              clear _hK_5
              refine W_seq fun _K_112 _hK_112 => ?_
              refine W_region ?_
              refine WL_step rfl rfl (r_move rfl) ?_
              refine WL_step rfl rfl (r_assign rfl) ?_
              refine WL_nil ?_
              refine thn_nrm (_hK_112 _ _ ?_)
              clear _hK_112
              refine W_ret ?_
              clear _hK_98
              have _o_113 : Ol Sv.cs 24 1 _wr_96 (.slice Aov (us).length Cov) us := by
                have hx := _o1_6
                exact hx
              have _o_114 : Od bcs 4 1 _wr_96 w.heap.size _wr_96.heap.size us (grd (word.length + 1) (mtT word x)) := by
                have hx := od.up (lo' := w.heap.size) (hi' := _wr_96.heap.size) (by omega) (by omega)
                first | exact hx.eq (by rw [em6]; exact st_rep (mt_tri _ _) (by omega)) | fail
              exact ret_intro [_] ⟨rfl, trivial⟩ ⟨(.slice Aov (us).length Cov), us, rfl, _o_113, (Lo.down _lo1_6 (by omega)), _o_114, _spl1_6, E⟩
          · have _kb_79 := _h89
            have _h89 := bf_d _h89
            refine W_seq fun _K_115 _hK_115 => ?_
            refine W_region ?_
            refine WL_step rfl rfl (r_eql rfl rfl) ?_
            refine WL_step rfl rfl (r_assign rfl) ?_
            refine WL_nil ?_
            refine thn_nrm (_hK_115 _ _ ?_)
            clear _hK_115
            refine W_cond rfl (fun _h110 => ?_) (fun _h110 => ?_)
            · have _kb_116 := _h110
              have _h110 := bt_d _h110
              obtain ⟨ta, _hk0, oa, sab, ga⟩ := hok.kk1 (by omega)
              have em7 := mt7 (w := word) hok (by omega) _hk0
              have r7 := hok.r7 (by omega)
              refine W_seq fun _K_117 _hK_117 => ?_
              refine W_region ?_
              refine WL_step rfl rfl (r_move rfl) ?_
              refine WL_step rfl rfl (r_nilCheck rfl) ?_
              refine WL_step rfl rfl (r_fieldAddr fa193_1 rfl) ?_
              refine WL_step rfl rfl (r_loadAt _f_7 agg189 rfl rfl) ?_
              refine WL_s rfl rfl ?_
              have _f_118 := (_hk_x.ch0 _cw_4)
              refine (s_index (j := 0) _f_118 acs_len el189 sz129 rfl rfl rfl (by omega) fun _p116 _y116 _hy116 _a116 => ?_)
              have _f_119 := (_kd_x.ch0 _cw_4)
              have ht116 := _hk0
              have _tr116 := _f_119.2 _ _ _ _hy116 _hk0
              obtain ⟨_A_116, _C_116, _ps_116, _hc_116, _hk_116, _kd_116⟩ := _tr116.open
              have _kl_116 := _kd_116.1
              replace _a116 : At _w_4 LT_x w.heap.size _p116 ([(.pointer (some _y116))]) := _a116
              refine WL_step rfl rfl (r_loadAt0 _a116 agg129 rfl rfl) ?_
              refine WL_step rfl rfl (r_move rfl) ?_
              refine WL_s rfl rfl ?_
              have _f_120 := (_h_word.ch0 _cw_4)
              refine Step.call (r_call (xs := [.tmp 117, .tmp 118]) fk179 rfl) (ih _tr116 _f_120 oa hw (by omega)) fun _v119 _w_121 _q119 => ?_
              obtain ⟨u119_0, _vs119_0, rfl, _q_u119_0, _lo_u119_0, _od_vs119_0, _sep_vs119_0, _cw_121⟩ := _q119
              have _cw_121z := _cw_121.size
              have E := E.trans _cw_121
              obtain ⟨Au119_0, Cu119_0, eu119_0⟩ := _q_u119_0.val
              subst eu119_0
              have lu119_0 := _q_u119_0.len
              have _hiu119_0 := _q_u119_0.lt
              refine WL_step rfl rfl (r_assign rfl) ?_
              refine WL_nil ?_
              refine thn_nrm (_hK_117 _ _ ?_)
              clear _hK_117
              refine W_seq fun _K_122 _hK_122 => ?_
              refine W_region ?_
              refine WL_step rfl rfl (r_move rfl) ?_
              refine WL_s rfl rfl ?_
              refine Step.call (r_call (xs := [.tmp 120, .const (Go.Value.bool true)]) fk203 rfl) (c_impl_ways (word.length + 1) _ (by omega)) fun _v121 _w_123 _q121 => ?_
              obtain ⟨u121_0, _vs121_0, rfl, _q_u121_0, _lo_u121_0, _od_vs121_0, _sep_vs121_0, _cw_123⟩ := _q121
              have _cw_123z := _cw_123.size
              have E := E.trans _cw_123
              obtain ⟨Au121_0, Cu121_0, eu121_0⟩ := _q_u121_0.val
              subst eu121_0
              have lu121_0 := _q_u121_0.len
              have _hiu121_0 := _q_u121_0.lt
              refine WL_step rfl rfl (r_assign rfl) ?_
              refine WL_nil ?_
              refine thn_nrm (_hK_122 _ _ ?_)
              clear _hK_122
              refine W_seq fun _K_124 _hK_124 => ?_
              refine W_region ?_
              refine WL_step rfl rfl (r_assign rfl) ?_
              refine WL_nil ?_
              refine thn_nrm (_hK_124 _ _ ?_)
              clear _hK_124
              refine W_block ?_
              have _f_125 := ((_q_u17_0.ch0 _cw_121).ch0 _cw_123)
              have _oi_126 : Ol Sv.cs 24 1 _w_123 (.slice Au17_0 (_vs17_0).length Cu17_0) (_vs17_0) := by
                have hx := _f_125
                exact hx
              have _oi_127 : Ol Sv.cs 24 1 _w_123 (.slice Au121_0 (_vs121_0).length Cu121_0) (_vs121_0) := by
                have hx := _q_u121_0
                exact hx
              have _f_128 := ((_od_vs17_0.ch0 _cw_121).ch0 _cw_123)
              have _f_129 := ((_f_7.ch0 _cw_121).ch0 _cw_123)
              have _f_130 := ((_f_118.ch0 _cw_121).ch0 _cw_123)
              have _f_131 := ((_f_119.ch0 _cw_121).ch0 _cw_123)
              have _f_132 := (_q_u119_0.ch0 _cw_123)
              have _f_133 := (_od_vs119_0.ch0 _cw_123)
              refine W_loop (σ := Nat × List Sv × List Sv × Value × Value) (fun ⟨k, us, qs, ov, qv⟩ => [(0, (.pointer (some p_x))), (4, (.slice none 0 0)), (6, ov), (10, (.slice Au119_0 (_vs119_0).length Cu119_0)), (11, qv), (12, (.int .i64 ((k : Nat) : Int)))]) (fun ⟨k, us, qs, ov, qv⟩ wx => Ch [] w wx ∧ _w_123.heap.size ≤ wx.heap.size ∧ (k ≤ (x.tok.high + 1).toNat) ∧ At wx LT_x w.heap.size p_x ([.int .i64 x.tok.kind, .int .i64 x.tok.letter, .int .i64 x.tok.low, .int .i64 x.tok.high, (.slice _A_x _ps_x.length _C_x)]) ∧ Ls acs 1 wx LT_x w.heap.size (.slice _A_x _ps_x.length _C_x) _ps_x ∧ Kd wx LT_x w.heap.size _ps_x x.kids ∧ Ol Sv.cs 24 1 wx (.slice Au119_0 (_vs119_0).length Cu119_0) _vs119_0 ∧ Od bcs 4 1 wx _w_4.heap.size _w_121.heap.size _vs119_0 (grd (word.length + 1) (mtT word ta)) ∧ Ol Sv.cs 24 1 wx ov us ∧ Lo w.heap.size ov ∧ Ol Sv.cs 24 1 wx qv qs ∧ Lo _w_121.heap.size qv ∧ Od bcs 4 1 wx w.heap.size wx.heap.size us (grd (word.length + 1) (repM (word.length + 1) (mtT word ta) x.tok.low k)) ∧ Od bcs 4 1 wx w.heap.size wx.heap.size qs (grd (word.length + 1) (powM (word.length + 1) (mtT word ta) k)) ∧ (Sep ov us) ∧ (Sep qv qs)) (fun ⟨k, us, qs, ov, qv⟩ => (x.tok.high + 1).toNat - k) (0, _vs17_0, _vs121_0, (.slice Au17_0 (_vs17_0).length Cu17_0), (.slice Au121_0 (_vs121_0).length Cu121_0)) (Sub.cons rfl (Sub.cons rfl (Sub.cons rfl (Sub.cons rfl (Sub.cons rfl (Sub.cons rfl (Sub.nil _))))))) ⟨E, (Nat.le_refl _), (by omega), _f_129, _f_130, _f_131, _f_132, _f_133, _oi_126, _lo_u17_0, _oi_127, _lo_u121_0, ((_f_128.up (by omega) (by omega)).eq rep_zero), ((_od_vs121_0.up (by omega) (by omega)).eq (by rw [powM])), _sep_vs17_0, _sep_vs121_0⟩ ?_
              rintro ⟨k, us, qs, ov, qv⟩ _wr_134 ⟨E, _zz2, _hk, _F2_0, _F2_2, _F2_3, _F2_4, _F2_5, _o2_6, _lo2_6, _o2_11, _lo2_11, od, oe, _spl2_6, _spl2_11⟩
              have _E2h := E
              have _E2hz := _E2h.size
              obtain ⟨Aov, Cov, eov⟩ := _o2_6.val
              subst eov
              have lov := _o2_6.len
              have hiov := _o2_6.lt
              obtain ⟨Aqv, Cqv, eqv⟩ := _o2_11.val
              subst eqv
              have lqv := _o2_11.len
              have hiqv := _o2_11.lt
              refine W_seq fun _K_135 _hK_135 => ?_
              refine W_seq fun _K_136 _hK_136 => ?_
              refine W_region ?_
              refine WL_step rfl rfl (r_move rfl) ?_
              refine WL_step rfl rfl (r_move rfl) ?_
              refine WL_step rfl rfl (r_nilCheck rfl) ?_
              refine WL_step rfl rfl (r_fieldAddr fa193_0 rfl) ?_
              refine WL_step rfl rfl (r_fieldAddrN (n := 3) fa126_3 rfl rfl) ?_
              refine WL_step rfl rfl (r_loadAt _F2_0 agg3 rfl rfl) ?_
              refine WL_step rfl rfl (r_leq rfl rfl) ?_
              refine WL_nil ?_
              refine thn_nrm (_hK_136 _ _ ?_)
              clear _hK_136
              refine W_cond rfl (fun _h128 => ?_) (fun _h128 => ?_)
              · have _kb_137 := _h128
                have _h128 := bt_d _h128
                refine W_skip ?_
                refine thn_nrm (_hK_135 _ _ ?_)
                clear _hK_135
                refine W_seq fun _K_138 _hK_138 => ?_
                refine W_block ?_
                refine W_seq fun _K_139 _hK_139 => ?_
                refine W_seq fun _K_140 _hK_140 => ?_
                refine W_region ?_
                refine WL_step rfl rfl (r_move rfl) ?_
                refine WL_step rfl rfl (r_move rfl) ?_
                refine WL_step rfl rfl (r_nilCheck rfl) ?_
                refine WL_step rfl rfl (r_fieldAddr fa193_0 rfl) ?_
                refine WL_step rfl rfl (r_fieldAddrN (n := 2) fa126_2 rfl rfl) ?_
                refine WL_step rfl rfl (r_loadAt _F2_0 agg3 rfl rfl) ?_
                refine WL_step rfl rfl (r_geq rfl rfl) ?_
                refine WL_nil ?_
                refine thn_nrm (_hK_140 _ _ ?_)
                clear _hK_140
                refine W_cond rfl (fun _h137 => ?_) (fun _h137 => ?_)
                · have _kb_141 := _h137
                  have _h137 := bt_d _h137
                  refine W_region ?_
                  refine WL_step rfl rfl (r_move rfl) ?_
                  refine WL_step rfl rfl (r_move rfl) ?_
                  refine WL_s rfl rfl ?_
                  refine Step.call (r_call (xs := [.tmp 138, .tmp 139]) fk205 rfl) (c_impl_either _o2_6.ls od.rd _o2_11.ls oe.rd (word.length + 1) (repM (word.length + 1) (mtT word ta) x.tok.low k) (powM (word.length + 1) (mtT word ta) k) rfl rfl (rep_tri (mt_tri _ _)) (pow_tri (mt_tri _ _) _) (by omega)) fun _v140 _w_142 _q140 => ?_
                  obtain ⟨u140_0, _vs140_0, rfl, _q_u140_0, _lo_u140_0, _od_vs140_0, _sep_vs140_0, _cw_142⟩ := _q140
                  have _cw_142z := _cw_142.size
                  have E := E.trans _cw_142
                  obtain ⟨Au140_0, Cu140_0, eu140_0⟩ := _q_u140_0.val
                  subst eu140_0
                  have lu140_0 := _q_u140_0.len
                  have _hiu140_0 := _q_u140_0.lt
                  refine WL_step rfl rfl (r_assign rfl) ?_
                  refine WL_nil ?_
                  refine thn_nrm (_hK_139 _ _ ?_)
                  clear _hK_139
                  refine W_region ?_
                  refine WL_step rfl rfl (r_move rfl) ?_
                  refine WL_step rfl rfl (r_move rfl) ?_
                  refine WL_s rfl rfl ?_
                  have _f_143 := (oe.ch0 _cw_142)
                  have _f_144 := (_o2_11.ch0 _cw_142)
                  have _f_145 := (_F2_5.ch0 _cw_142)
                  have _f_146 := (_F2_4.ch0 _cw_142)
                  refine Step.call (r_call (xs := [.tmp 141, .tmp 142]) fk204 rfl) (c_impl_inTurn _f_144.ls _f_143.rd _f_146.ls _f_145.rd (word.length + 1) (powM (word.length + 1) (mtT word ta) k) (mtT word ta) rfl rfl (pow_tri (mt_tri _ _) _) (mt_tri _ _) (by omega)) fun _v143 _w_147 _q143 => ?_
                  obtain ⟨u143_0, _vs143_0, rfl, _q_u143_0, _lo_u143_0, _od_vs143_0, _sep_vs143_0, _cw_147⟩ := _q143
                  have _cw_147z := _cw_147.size
                  have E := E.trans _cw_147
                  obtain ⟨Au143_0, Cu143_0, eu143_0⟩ := _q_u143_0.val
                  subst eu143_0
                  have lu143_0 := _q_u143_0.len
                  have _hiu143_0 := _q_u143_0.lt
                  refine WL_step rfl rfl (r_assign rfl) ?_
                  refine WL_nil ?_
                  refine inB_nrm ?_
                  refine thn_nrm (_hK_138 _ _ ?_)
                  clear _hK_138
                  refine W_region ?_
                  refine WL_step rfl rfl (r_move rfl) ?_
                  refine WL_step rfl rfl (r_add (by omega) rfl rfl) ?_
                  refine WL_step rfl rfl (r_assign rfl) ?_
                  refine WL_nil ?_
                  have _f_149 := (_q_u140_0.ch0 _cw_147)
                  have _on_148 : Ol Sv.cs 24 1 _w_147 (.slice Au140_0 (_vs140_0).length Cu140_0) (_vs140_0) := by
                    have hx := _f_149
                    exact hx
                  have _on_150 : Ol Sv.cs 24 1 _w_147 (.slice Au143_0 (_vs143_0).length Cu143_0) (_vs143_0) := by
                    have hx := _q_u143_0
                    exact hx
                  have _f_151 := (_od_vs140_0.ch0 _cw_147)
                  have _f_152 := ((_F2_0.ch0 _cw_142).ch0 _cw_147)
                  have _f_153 := ((_F2_2.ch0 _cw_142).ch0 _cw_147)
                  have _f_154 := ((_F2_3.ch0 _cw_142).ch0 _cw_147)
                  have _f_155 := (_f_146.ch0 _cw_147)
                  have _f_156 := (_f_145.ch0 _cw_147)
                  exact thn_nrm (Exists.intro ((k + 1), _vs140_0, _vs143_0, (.slice Au140_0 (_vs140_0).length Cu140_0), (.slice Au143_0 (_vs143_0).length Cu143_0)) ⟨⟨E, (by omega), (by omega), _f_152, _f_153, _f_154, _f_155, _f_156, _on_148, (Lo.down _lo_u140_0 (by omega)), _on_150, (Lo.down _lo_u143_0 (by omega)), ((_f_151.up (by omega) (by omega)).eq (rep_y (by omega))), ((_od_vs143_0.up (by omega) (by omega)).eq pw_succ), _sep_vs140_0, _sep_vs143_0⟩, Sub.cons rfl (Sub.cons rfl (Sub.cons rfl (Sub.cons rfl (Sub.cons rfl (Sub.cons rfl (Sub.nil _)))))), (by first | omega | (dsimp only; omega))⟩)
                · have _kb_141 := _h137
                  have _h137 := bf_d _h137
                  refine W_skip ?_
                  refine thn_nrm (_hK_139 _ _ ?_)
                  clear _hK_139
                  refine W_region ?_
                  refine WL_step rfl rfl (r_move rfl) ?_
                  refine WL_step rfl rfl (r_move rfl) ?_
                  refine WL_s rfl rfl ?_
                  refine Step.call (r_call (xs := [.tmp 141, .tmp 142]) fk204 rfl) (c_impl_inTurn _o2_11.ls oe.rd _F2_4.ls _F2_5.rd (word.length + 1) (powM (word.length + 1) (mtT word ta) k) (mtT word ta) rfl rfl (pow_tri (mt_tri _ _) _) (mt_tri _ _) (by omega)) fun _v143 _w_157 _q143 => ?_
                  obtain ⟨u143_0, _vs143_0, rfl, _q_u143_0, _lo_u143_0, _od_vs143_0, _sep_vs143_0, _cw_157⟩ := _q143
                  have _cw_157z := _cw_157.size
                  have E := E.trans _cw_157
                  obtain ⟨Au143_0, Cu143_0, eu143_0⟩ := _q_u143_0.val
                  subst eu143_0
                  have lu143_0 := _q_u143_0.len
                  have _hiu143_0 := _q_u143_0.lt
                  refine WL_step rfl rfl (r_assign rfl) ?_
                  refine WL_nil ?_
                  refine inB_nrm ?_
                  refine thn_nrm (_hK_138 _ _ ?_)
                  clear _hK_138
                  refine W_region ?_
                  refine WL_step rfl rfl (r_move rfl) ?_
                  refine WL_step rfl rfl (r_add (by omega) rfl rfl) ?_
                  refine WL_step rfl rfl (r_assign rfl) ?_
                  refine WL_nil ?_
                  have _f_159 := (_o2_6.ch0 _cw_157)
                  have _on_158 : Ol Sv.cs 24 1 _w_157 (.slice Aov (us).length Cov) (us) := by
                    have hx := _f_159
                    exact hx
                  have _on_160 : Ol Sv.cs 24 1 _w_157 (.slice Au143_0 (_vs143_0).length Cu143_0) (_vs143_0) := by
                    have hx := _q_u143_0
                    exact hx
                  have _f_161 := (od.ch0 _cw_157)
                  have _f_162 := (_F2_0.ch0 _cw_157)
                  have _f_163 := (_F2_2.ch0 _cw_157)
                  have _f_164 := (_F2_3.ch0 _cw_157)
                  have _f_165 := (_F2_4.ch0 _cw_157)
                  have _f_166 := (_F2_5.ch0 _cw_157)
                  exact thn_nrm (Exists.intro ((k + 1), us, _vs143_0, (.slice Aov (us).length Cov), (.slice Au143_0 (_vs143_0).length Cu143_0)) ⟨⟨E, (by omega), (by omega), _f_162, _f_163, _f_164, _f_165, _f_166, _on_158, (Lo.down _lo2_6 (by omega)), _on_160, (Lo.down _lo_u143_0 (by omega)), ((_f_161.up (by omega) (by omega)).eq (rep_n (by omega))), ((_od_vs143_0.up (by omega) (by omega)).eq pw_succ), _spl2_6, _sep_vs143_0⟩, Sub.cons rfl (Sub.cons rfl (Sub.cons rfl (Sub.cons rfl (Sub.cons rfl (Sub.cons rfl (Sub.nil _)))))), (by first | omega | (dsimp only; omega))⟩)
              · have _kb_137 := _h128
                have _h128 := bf_d _h128
                refine W_exit (thn_exit (thn_exit (inB_hit ?_)))
                refine inB_nrm ?_
                refine thn_nrm (_hK_5 _ _ ?_)
                clear _hK_5
                refine W_seq fun _K_167 _hK_167 => ?_
                refine W_region ?_
                refine WL_step rfl rfl (r_move rfl) ?_
                refine WL_step rfl rfl (r_assign rfl) ?_
                refine WL_nil ?_
                refine thn_nrm (_hK_167 _ _ ?_)
                clear _hK_167
                refine W_ret ?_
                clear _hK_135
                have _o_168 : Ol Sv.cs 24 1 _wr_134 (.slice Aov (us).length Cov) us := by
                  have hx := _o2_6
                  exact hx
                have _o_169 : Od bcs 4 1 _wr_134 w.heap.size _wr_134.heap.size us (grd (word.length + 1) (mtT word x)) := by
                  have hx := od.up (lo' := w.heap.size) (hi' := _wr_134.heap.size) (by omega) (by omega)
                  first | exact hx.eq (by rw [em7, show k = (x.tok.high + 1).toNat by omega]) | fail
                exact ret_intro [_] ⟨rfl, trivial⟩ ⟨(.slice Aov (us).length Cov), us, rfl, _o_168, (Lo.down _lo2_6 (by omega)), _o_169, _spl2_6, E⟩
            · have _kb_116 := _h110
              have _h110 := bf_d _h110
              have em0 := mt0 (t := x) (w := word) ⟨by omega, by omega, by omega, by omega, by omega, by omega⟩
              refine W_skip ?_
              refine inB_nrm ?_
              refine thn_nrm (_hK_5 _ _ ?_)
              clear _hK_5
              refine W_seq fun _K_170 _hK_170 => ?_
              refine W_region ?_
              refine WL_step rfl rfl (r_move rfl) ?_
              refine WL_step rfl rfl (r_assign rfl) ?_
              refine WL_nil ?_
              refine thn_nrm (_hK_170 _ _ ?_)
              clear _hK_170
              refine W_ret ?_
              have _o_171 : Ol Sv.cs 24 1 _w_4 (.slice Au17_0 (_vs17_0).length Cu17_0) _vs17_0 := by
                have hx := _q_u17_0
                exact hx
              have _o_172 : Od bcs 4 1 _w_4 w.heap.size _w_4.heap.size _vs17_0 (grd (word.length + 1) (mtT word x)) := by
                have hx := _od_vs17_0.up (lo' := w.heap.size) (hi' := _w_4.heap.size) (by omega) (by omega)
                first | (rw [em0]; exact hx) | fail
              exact ret_intro [_] ⟨rfl, trivial⟩ ⟨(.slice Au17_0 (_vs17_0).length Cu17_0), _vs17_0, rfl, _o_171, (Lo.down _lo_u17_0 (by omega)), _o_172, _sep_vs17_0, E⟩
theorem c_impl_tree_reach {w : World} {LT_x _B_x : Nat} {p_x : Addr} {x : Tr} (_h_x : TrAt w LT_x _B_x p_x x) {LL_word _B_word : Nat} {_v_word : Value} {word : List Int} (_h_word : Ls ics 1 w LL_word _B_word _v_word word) (hok : Okd x) (hw : word.length ≤ 4096) :
    Ctr Try.prog 179 #[(.pointer (some p_x)), _v_word] w (fun v w' => ∃ (_u0 : Value) (vs0 : List Sv), v = _u0 ∧ Ol Sv.cs 24 1 w' _u0 vs0 ∧ Lo w.heap.size _u0 ∧ Od bcs 4 1 w' w.heap.size w'.heap.size vs0 (grd (word.length + 1) (mtT word x)) ∧ Sep _u0 vs0 ∧ Ch [] w w') := c_impl_tree_reach_n _ _h_x _h_word hok hw (Nat.lt_succ_self _)

/-- impl.tree).matches -/
theorem c_impl_tree_matches {w : World} {LT_x _B_x : Nat} {p_x : Addr} {x : Tr} (_h_x : TrAt w LT_x _B_x p_x x) {LL_word _B_word : Nat} {_v_word : Value} {word : List Int} (_h_word : Ls ics 1 w LL_word _B_word _v_word word) (hok : Okd x) (hw : word.length ≤ 4096) :
    Ctr Try.prog 130 #[(.pointer (some p_x)), _v_word] w (fun v w' => v = .bool (mtT word x 0 word.length) ∧ Ch [] w w') := by
  have _h_x := _h_x.here
  obtain ⟨_A_x, _C_x, _ps_x, _hc_x, _hk_x, _kd_x⟩ := _h_x.open
  have _kl_x := _kd_x.1
  obtain ⟨_A_word, _C_word, _e1_word⟩ := _h_word.val
  subst _e1_word
  have _l_word := _h_word.len
  have _h_word := _h_word.here (by decide)
  have E := Ch.refl [] w
  refine Ctr_of_W (N := 14) (vs0 := [(.pointer (some p_x)), (.slice _A_word word.length _C_word)]) Try.func130 rfl rfl rfl ?_
  refine W_seq fun _K_1 _hK_1 => ?_
  refine W_region ?_
  refine WL_step rfl rfl (r_assign rfl) ?_
  refine WL_nil ?_
  refine thn_nrm (_hK_1 _ _ ?_)
  clear _hK_1
  refine W_seq fun _K_2 _hK_2 => ?_
  refine W_region ?_
  refine WL_step rfl rfl (r_move rfl) ?_
  refine WL_step rfl rfl (r_move rfl) ?_
  refine WL_s rfl rfl ?_
  refine Step.call (r_call (xs := [.tmp 5, .tmp 6]) fk179 rfl) (c_impl_tree_reach _h_x _h_word hok hw) fun _v7 _w_3 _q7 => ?_
  obtain ⟨u7_0, _vs7_0, rfl, _q_u7_0, _lo_u7_0, _od_vs7_0, _sep_vs7_0, _cw_3⟩ := _q7
  have _cw_3z := _cw_3.size
  have E := E.trans _cw_3
  obtain ⟨Au7_0, Cu7_0, eu7_0⟩ := _q_u7_0.val
  subst eu7_0
  have lu7_0 := _q_u7_0.len
  have _hiu7_0 := _q_u7_0.lt
  have _ln9 := (_od_vs7_0).1
  rw [grd_len] at _ln9
  refine WL_s rfl rfl ?_
  refine (s_index (j := 0) _q_u7_0.ls Sv.len el194 sz24 rfl rfl rfl (by omega) fun _p8 _y8 _hy8 _a8 => ?_)
  obtain ⟨_ys8, _hys8, _fs8⟩ := _od_vs7_0.get _hy8
  obtain ⟨_A8, _n8, _C8⟩ := _y8
  obtain rfl := _fs8.eqn
  have _l8 := _fs8.len
  replace _fs8 : Ls bcs 1 _w_3 0 _w_3.heap.size (.slice _A8 _ys8.length _C8) _ys8 := _fs8
  replace _a8 : At _w_3 0 _w_3.heap.size _p8 ([(.slice _A8 _ys8.length _C8)]) := _a8
  have rl8 := row_len rfl _hys8
  refine WL_step rfl rfl (r_loadAt0 _a8 agg24 rfl rfl) ?_
  refine WL_step rfl rfl (r_move rfl) ?_
  refine WL_step rfl rfl (r_len (by rw [el30]; rfl) rfl) ?_
  refine WL_s rfl rfl ?_
  refine (s_index _fs8 bcs_len el24 sz4 rfl rfl rfl (by omega) fun _p12 _y12 _hy12 _a12 => ?_)
  refine WL_step rfl rfl (r_loadAt0 _a12 agg4 rfl rfl) ?_
  refine WL_step rfl rfl (r_assign rfl) ?_
  refine WL_nil ?_
  refine thn_nrm (_hK_2 _ _ ?_)
  clear _hK_2
  refine W_ret ?_
  exact ret_intro [_] ⟨rfl, trivial⟩ ⟨congrArg Value.bool (grd_y rfl _hys8 _hy12), E⟩

/-- impl.MatchesWord -/
theorem c_impl_MatchesWord {w : World} {LL_e _B_e : Nat} {_v_e : Value} {e : List Token} (_h_e : Ls Token.cs 4 w LL_e _B_e _v_e e) {LL_word _B_word : Nat} {_v_word : Value} {word : List Int} (_h_word : Ls ics 1 w LL_word _B_word _v_word word) (hb : e.length ≤ 1048576) :
    Ctr Try.prog 58 #[(.agg #[_v_e]), _v_word] w (fun v w' => v = .bool (mwE e word) ∧ Ch [] w w') := by
  obtain ⟨_A_e, _C_e, _e1_e⟩ := _h_e.val
  subst _e1_e
  have _l_e := _h_e.len
  have _h_e := _h_e.here (by decide)
  obtain ⟨_A_word, _C_word, _e1_word⟩ := _h_word.val
  subst _e1_word
  have _l_word := _h_word.len
  have _h_word := _h_word.here (by decide)
  have E := Ch.refl [] w
  refine Ctr_of_W (N := 17) (vs0 := [(.agg #[(.slice _A_e e.length _C_e)]), (.slice _A_word word.length _C_word)]) Try.func58 rfl rfl rfl ?_
  refine W_seq fun _K_1 _hK_1 => ?_
  refine W_region ?_
  refine WL_s rfl rfl ?_
  refine s_box rfl fun _b2 _w_2 _m2 _cw_2 _e2 => ?_
  have _cw_2z := _cw_2.size
  have E := E.trans _cw_2
  have _z2 := _m2.lt
  replace _m2 : Blk _w_2 _b2 67 [(.slice _A_e e.length _C_e)] := _m2
  refine WL_step rfl rfl (r_assign rfl) ?_
  refine WL_nil ?_
  refine thn_nrm (_hK_1 _ _ ?_)
  clear _hK_1
  refine W_seq fun _K_3 _hK_3 => ?_
  refine W_region ?_
  refine WL_step rfl rfl (r_loadAtA0 _m2.at_ agg67 sz67 rfl) ?_
  refine WL_s rfl rfl ?_
  have _f_4 := (_h_e.ch0 _cw_2)
  refine Step.call (r_call (xs := [.tmp 5]) fk128 rfl) (c_impl_IsValidExpr _f_4 (by omega)) fun _v6 _w_5 _q6 => ?_
  obtain ⟨rfl, _cw_5⟩ := _q6
  have _cw_5z := _cw_5.size
  have E := E.trans _cw_5
  refine WL_step rfl rfl (r_move rfl) ?_
  refine WL_split (d := 7) rfl (fun _h7 => ?_) (fun _h7 => ?_)
  · have _kb_6 := _h7
    obtain ⟨_t9, ht9, ok9, f9, _n9⟩ := ivE_y _h7
    refine WL_step rfl rfl (r_move rfl) ?_
    refine WL_s rfl rfl ?_
    have _f_7 := ((_h_word.ch0 _cw_2).ch0 _cw_5)
    refine Step.call (r_call (xs := [.tmp 8]) fk129 rfl) (c_impl_IsWord _f_7 ) fun _v9 _w_8 _q9 => ?_
    obtain ⟨rfl, _cw_8⟩ := _q9
    have _cw_8z := _cw_8.size
    have E := E.trans _cw_8
    refine WL_step rfl rfl (r_pickT rfl rfl) ?_
    refine WL_step rfl rfl (r_move rfl) ?_
    refine WL_split (d := 11) rfl (fun _h11 => ?_) (fun _h11 => ?_)
    · have _kb_9 := _h11
      have _h11 := bt_t _h11
      have _h10 := _h11
      have _f_10 := ((_m2.ch0 _cw_5).ch0 _cw_8)
      refine WL_step rfl rfl (r_loadAtA0 _f_10.at_ agg67 sz67 rfl) ?_
      refine WL_s rfl rfl ?_
      have _f_11 := ((_f_4.ch0 _cw_5).ch0 _cw_8)
      refine Step.call (r_call (xs := [.tmp 12]) fk122 rfl) (c_impl_treeOf _f_11 (by omega)) fun _v13 _w_12 _q13 => ?_
      obtain ⟨_q13, _cw_12⟩ := _q13
      have _cw_12z := _cw_12.size
      have E := E.trans _cw_12
      rcases _q13 with ⟨_e13, rfl⟩ | ⟨tt13, _p13, _e13, rfl, _tr13⟩
      · exact (ivE_tr _h7 _e13).elim
      · replace _tr13 : TrAt _w_12 _w_8.heap.size _w_12.heap.size _p13 tt13 := _tr13
        obtain ⟨_A_13, _C_13, _ps_13, _hc_13, _hk_13, _kd_13⟩ := _tr13.open
        have _kl_13 := _kd_13.1
        refine WL_step rfl rfl (r_move rfl) ?_
        refine WL_s rfl rfl ?_
        have _f_13 := ((_f_7.ch0 _cw_8).ch0 _cw_12)
        refine Step.call (r_call (xs := [.tmp 13, .tmp 14]) fk130 rfl) (c_impl_tree_matches _tr13 _f_13 (by rw [ht9] at _e13; cases _e13; exact ok9) (by have q := _h10.2; omega)) fun _v15 _w_14 _q15 => ?_
        obtain ⟨rfl, _cw_14⟩ := _q15
        have _cw_14z := _cw_14.size
        have E := E.trans _cw_14
        refine WL_step rfl rfl (r_pickT rfl rfl) ?_
        refine WL_step rfl rfl (r_assign rfl) ?_
        refine WL_nil ?_
        refine thn_nrm (_hK_3 _ _ ?_)
        clear _hK_3
        refine W_ret ?_
        exact ret_intro [_] ⟨rfl, trivial⟩ ⟨congrArg Value.bool (by first | (rw [mwE_y _h7 _h10 _e13]; done) | (rw [mwE_n1 _h7]; done) | (rw [mwE_n2 _h11]; done)), E⟩
    · have _kb_9 := _h11
      have _h11 := bf_t _h11
      refine WL_skip rfl rfl ?_
      refine WL_skip rfl rfl ?_
      refine WL_skip rfl rfl ?_
      refine WL_skip rfl rfl ?_
      refine WL_step rfl rfl (r_pickF rfl rfl) ?_
      refine WL_step rfl rfl (r_assign rfl) ?_
      refine WL_nil ?_
      refine thn_nrm (_hK_3 _ _ ?_)
      clear _hK_3
      refine W_ret ?_
      exact ret_intro [_] ⟨rfl, trivial⟩ ⟨congrArg Value.bool (by first | (rw [mwE_y _h7 _h10 _e13]; done) | (rw [mwE_n1 _h7]; done) | (rw [mwE_n2 _h11]; done)), E⟩
  · have _kb_6 := _h7
    refine WL_skip rfl rfl ?_
    refine WL_skip rfl rfl ?_
    refine WL_step rfl rfl (r_pickF rfl rfl) ?_
    refine WL_step rfl rfl (r_move rfl) ?_
    refine WL_skip rfl rfl ?_
    refine WL_skip rfl rfl ?_
    refine WL_skip rfl rfl ?_
    refine WL_skip rfl rfl ?_
    refine WL_step rfl rfl (r_pickF rfl rfl) ?_
    refine WL_step rfl rfl (r_assign rfl) ?_
    refine WL_nil ?_
    refine thn_nrm (_hK_3 _ _ ?_)
    clear _hK_3
    refine W_ret ?_
    exact ret_intro [_] ⟨rfl, trivial⟩ ⟨congrArg Value.bool (by first | (rw [mwE_y _h7 _h10 _e13]; done) | (rw [mwE_n1 _h7]; done) | (rw [mwE_n2 _h11]; done)), E⟩

/-- impl.copyInts -/
theorem c_impl_copyInts {w : World} {LL_l _B_l : Nat} {_v_l : Value} {l : List Int} (_h_l : Ls ics 1 w LL_l _B_l _v_l l) (hb : l.length ≤ 4194304) :
    Ctr Try.prog 149 #[_v_l] w (fun v w' => Ol ics 3 1 w' v (l) ∧ Lo w.heap.size v ∧ Ch [] w w') := by
  obtain ⟨_A_l, _C_l, _e1_l⟩ := _h_l.val
  subst _e1_l
  have _l_l := _h_l.len
  have _h_l := _h_l.here (by decide)
  have E := Ch.refl [] w
  refine Ctr_of_W (N := 6) (vs0 := [(.slice _A_l l.length _C_l)]) Try.func149 rfl rfl rfl ?_
  refine W_seq fun _K_1 _hK_1 => ?_
  refine W_region ?_
  refine WL_step rfl rfl (r_assign rfl) ?_
  refine WL_nil ?_
  refine thn_nrm (_hK_1 _ _ ?_)
  clear _hK_1
  refine W_seq fun _K_2 _hK_2 => ?_
  refine W_region ?_
  refine WL_s rfl rfl ?_
  refine s_buildSlice0 (k := 1) ics el30 sz3 fun _v3 _w_3 _q3 _lo3 _cw_3 => ?_
  have _cw_3z := _cw_3.size
  have E := E.trans _cw_3
  obtain ⟨_Av3, _Cv3, _ev3⟩ := _q3.val
  subst _ev3
  have _lv3 := _q3.len
  have _hiv3 := _q3.lt
  refine WL_step rfl rfl (r_move rfl) ?_
  refine WL_s rfl rfl ?_
  have _f_5 := (_h_l.ch0 _cw_3)
  refine s_append (cs := ics) el30 sz3 by3 zr3 rfl (by decide) ics_one _q3 _f_5 rfl rfl (by first | omega | (simp only [List.length_append, List.length_nil, List.length_cons, List.length_replicate, List.length_set, List.length_reverse, List.length_map] at *; omega) | (simp at *; omega)) (by first | omega | (simp only [List.length_append, List.length_nil, List.length_cons, List.length_replicate, List.length_set, List.length_reverse, List.length_map] at *; omega) | (simp at *; omega)) _lo3 (by omega) fun _v5 _w_4 _q5 _lo5 _ap5 _cw_4 => ?_
  have _cw_4z := _cw_4.size
  have E := E.step _cw_4 (fun i hi => .inl (by have _h1 := _lo3 _ hi; omega))
  replace _q5 : Ol ics 3 1 _w_4 _v5 l := _q5
  obtain ⟨_Av5, _Cv5, _ev5⟩ := _q5.val
  subst _ev5
  have _lv5 := _q5.len
  have _hiv5 := _q5.lt
  refine WL_step rfl rfl (r_assign rfl) ?_
  refine WL_nil ?_
  refine thn_nrm (_hK_2 _ _ ?_)
  clear _hK_2
  refine W_ret ?_
  have _o_6 : Ol ics 3 1 _w_4 (.slice _Av5 (l).length _Cv5) (l) := by
    have hx := _q5
    first | exact hx | simpa using hx
  exact ret_intro [_] ⟨rfl, trivial⟩ ⟨_o_6, Lo.down _lo5 (by omega), E⟩

/-- impl.wordsOf -/
theorem c_impl_wordsOf_n : ∀ (n : Nat) {w : World} (length : Int) (hl : 0 ≤ length ∧ length ≤ 3) (hsz : length.toNat < n),
    Ctr Try.prog 132 #[(.int .i64 length)] w (fun v w' => ∃ (_u0 : Value) (vs0 : List Sv), v = _u0 ∧ Ol Sv.cs 30 1 w' _u0 vs0 ∧ Lo w.heap.size _u0 ∧ Od ics 3 1 w' w.heap.size w'.heap.size vs0 (wdL R9 length.toNat) ∧ Sep _u0 vs0 ∧ Ch [] w w') := by
  intro n
  induction n with
  | zero => intros; omega
  | succ n ih =>
  intro w length hl hsz
  have E := Ch.refl [] w
  have hs9 := wdL_size R9 (length - 1).toNat; have hs8 := R9_pow (n := (length - 1).toNat) (by omega)
  refine Ctr_of_W (N := 34) (vs0 := [(.int .i64 length)]) Try.func132 rfl rfl rfl ?_
  refine W_seq fun _K_1 _hK_1 => ?_
  refine W_region ?_
  refine WL_step rfl rfl (r_assign rfl) ?_
  refine WL_nil ?_
  refine thn_nrm (_hK_1 _ _ ?_)
  clear _hK_1
  refine W_seq fun _K_2 _hK_2 => ?_
  refine W_seq fun _K_3 _hK_3 => ?_
  refine W_region ?_
  refine WL_step rfl rfl (r_move rfl) ?_
  refine WL_step rfl rfl (r_eql rfl rfl) ?_
  refine WL_nil ?_
  refine thn_nrm (_hK_3 _ _ ?_)
  clear _hK_3
  refine W_cond rfl (fun _h8 => ?_) (fun _h8 => ?_)
  · have _kb_4 := _h8
    have _h8 := bt_d _h8
    refine W_seq fun _K_5 _hK_5 => ?_
    refine W_region ?_
    refine WL_s rfl rfl ?_
    refine s_buildSlice0 (k := 1) ics el30 sz3 fun _v9 _w_6 _q9 _lo9 _cw_6 => ?_
    have _cw_6z := _cw_6.size
    have E := E.trans _cw_6
    obtain ⟨_Av9, _Cv9, _ev9⟩ := _q9.val
    subst _ev9
    have _lv9 := _q9.len
    have _hiv9 := _q9.lt
    refine WL_s rfl rfl ?_
    refine s_buildSlice (cs := Sv.cs) (parts := [(0, .tmp 9)]) (⟨none, 0, 0⟩ : Sv) [(⟨_Av9, (([] : List Int)).length, _Cv9⟩ : Sv)] el25 sz30 zr30 Sv.len (by decide) rfl rfl rfl (by decide) (by decide) rfl fun _v10 _w_7 _q10 _lo10 _cw_7 => ?_
    have _cw_7z := _cw_7.size
    have E := E.trans _cw_7
    obtain ⟨_Av10, _Cv10, _ev10⟩ := _q10.val
    subst _ev10
    have _lv10 := _q10.len
    have _hiv10 := _q10.lt
    have _f_8 := (_q9.ch0 _cw_7)
    have od10 : Od ics 3 1 _w_7 w.heap.size _w_7.heap.size ([(⟨_Av9, (([] : List Int)).length, _Cv9⟩ : Sv)]) ([([] : List Int)]) := Od.snoc (hi := w.heap.size) (vs := []) (xs := []) Od.nil _f_8 (Lo.down _lo9 (by omega)) (fun g hg => by have _h1 := _hiv9 g hg; omega) (by omega) (by omega)
    have spn10 : Sep (.slice _Av10 ([(⟨_Av9, (([] : List Int)).length, _Cv9⟩ : Sv)]).length _Cv10) [(⟨_Av9, (([] : List Int)).length, _Cv9⟩ : Sv)] := fun u hu g hg hm => by rw [List.mem_singleton.1 hu] at hg; have _h1 := _hiv9 _ hg; have _h2 := _lo10 _ hm; omega
    refine WL_step rfl rfl (r_assign rfl) ?_
    refine WL_nil ?_
    refine thn_nrm (_hK_5 _ _ ?_)
    clear _hK_5
    refine W_ret (thn_ret ?_)
    clear _hK_2
    have _o_9 : Ol Sv.cs 30 1 _w_7 (.slice _Av10 ([(⟨_Av9, (([] : List Int)).length, _Cv9⟩ : Sv)]).length _Cv10) ([(⟨_Av9, (([] : List Int)).length, _Cv9⟩ : Sv)]) := by
      have hx := _q10
      exact hx
    have _o_10 : Od ics 3 1 _w_7 w.heap.size _w_7.heap.size ([(⟨_Av9, (([] : List Int)).length, _Cv9⟩ : Sv)]) (wdL R9 length.toNat) := by
      have hx := od10.up (lo' := w.heap.size) (hi' := _w_7.heap.size) (by omega) (by omega)
      first | exact hx.eq (by rw [show length.toNat = 0 by omega]; rfl) | exact hx.eq (wd_end (by omega) (by omega))
    exact ret_intro [_] ⟨rfl, trivial⟩ ⟨(.slice _Av10 ([(⟨_Av9, (([] : List Int)).length, _Cv9⟩ : Sv)]).length _Cv10), ([(⟨_Av9, (([] : List Int)).length, _Cv9⟩ : Sv)]), rfl, _o_9, (Lo.down _lo10 (by omega)), _o_10, spn10, E⟩
  · have _kb_4 := _h8
    have _h8 := bf_d _h8
    refine W_skip ?_
    refine thn_nrm (_hK_2 _ _ ?_)
    clear _hK_2
    refine W_seq fun _K_11 _hK_11 => ?_
    refine W_region ?_
    refine WL_s rfl rfl ?_
    refine s_buildSlice0 (k := 1) Sv.cs el25 sz30 fun _v11 _w_12 _q11 _lo11 _cw_12 => ?_
    have _cw_12z := _cw_12.size
    have E := E.trans _cw_12
    obtain ⟨_Av11, _Cv11, _ev11⟩ := _q11.val
    subst _ev11
    have _lv11 := _q11.len
    have _hiv11 := _q11.lt
    refine WL_step rfl rfl (r_assign rfl) ?_
    refine WL_nil ?_
    refine thn_nrm (_hK_11 _ _ ?_)
    clear _hK_11
    refine W_seq fun _K_13 _hK_13 => ?_
    refine W_seq fun _K_14 _hK_14 => ?_
    refine W_region ?_
    refine WL_step rfl rfl (r_move rfl) ?_
    refine WL_step rfl rfl (r_sub (by omega) rfl rfl) ?_
    refine WL_s rfl rfl ?_
    refine Step.call (r_call (xs := [.tmp 13]) fk132 rfl) (ih _ (by omega) (by omega)) fun _v14 _w_15 _q14 => ?_
    obtain ⟨u14_0, _vs14_0, rfl, _q_u14_0, _lo_u14_0, _od_vs14_0, _sep_vs14_0, _cw_15⟩ := _q14
    have _cw_15z := _cw_15.size
    have E := E.trans _cw_15
    obtain ⟨Au14_0, Cu14_0, eu14_0⟩ := _q_u14_0.val
    subst eu14_0
    have lu14_0 := _q_u14_0.len
    have _hiu14_0 := _q_u14_0.lt
    have lsr14 := Ol.lsR _q_u14_0 (lo := _w_12.heap.size) (hi := _w_15.heap.size) _lo_u14_0 _hiu14_0
    have rdr14 := Od.rdR _od_vs14_0
    have rlr14 := rdr14.1
    refine WL_step rfl rfl (r_len (by rw [el25]; rfl) rfl) ?_
    refine WL_step rfl rfl (r_move rfl) ?_
    refine WL_nil ?_
    refine thn_nrm (_hK_14 _ _ ?_)
    clear _hK_14
    refine W_block ?_
    have _f_16 := (_q11.ch0 _cw_15)
    have _oi_17 : Ol Sv.cs 30 1 _w_15 (.slice _Av11 (([] : List Sv)).length _Cv11) (([] : List Sv)) := by
      have hx := _f_16
      exact hx
    refine W_loop (σ := Nat × List Sv × Value) (fun ⟨i, vs, kv⟩ => [(2, (.slice none 0 0)), (3, kv), (14, (.slice Au14_0 (_vs14_0).length Cu14_0)), (15, (.int .i64 ((_vs14_0.length : Nat) : Int))), (16, (.int .i64 ((i : Nat) : Int)))]) (fun ⟨i, vs, kv⟩ wx => Ch [] w wx ∧ _w_15.heap.size ≤ wx.heap.size ∧ (i ≤ (wdL R9 (length - 1).toNat).length) ∧ (vs.length = 9 * i) ∧ Ls Sv.cs 1 wx _w_12.heap.size _w_15.heap.size (.slice Au14_0 (_vs14_0).length Cu14_0) _vs14_0 ∧ Rd ics 1 wx _w_12.heap.size _w_15.heap.size _vs14_0 (wdL R9 (length - 1).toNat) ∧ Ol Sv.cs 30 1 wx kv vs ∧ Lo w.heap.size kv ∧ Od ics 3 1 wx w.heap.size wx.heap.size vs (((wdL R9 (length - 1).toNat).take i).flatMap (extW R9)) ∧ (∀ g ∈ bl kv, g < _w_12.heap.size ∨ _w_15.heap.size ≤ g) ∧ (Sep kv vs)) (fun ⟨i, vs, kv⟩ => (wdL R9 (length - 1).toNat).length - i) (0, ([] : List Sv), (.slice _Av11 (([] : List Sv)).length _Cv11)) (Sub.cons rfl (Sub.cons rfl (Sub.cons rfl (Sub.cons rfl (Sub.cons rfl (Sub.nil _)))))) ⟨E, (Nat.le_refl _), (by omega), rfl, lsr14, rdr14, _oi_17, _lo11, Od.nil, (fun g hm => by have _h1 := _lo11 _ hm; have _h2 := _hiv11 _ hm; omega), (fun u hu => by cases hu)⟩ ?_
    rintro ⟨i, vs, kv⟩ _wr_18 ⟨E, _zz0, hi, hvl, _F0_0, _F0_1, _o0_3, _lo0_3, od, gp0_3, _spl0_3⟩
    have _E0h := E
    have _E0hz := _E0h.size
    obtain ⟨Akv, Ckv, ekv⟩ := _o0_3.val
    subst ekv
    have lkv := _o0_3.len
    have hikv := _o0_3.lt
    refine W_seq fun _K_19 _hK_19 => ?_
    refine W_region ?_
    refine WL_step rfl rfl (r_lss rfl rfl) ?_
    refine WL_nil ?_
    refine thn_nrm (_hK_19 _ _ ?_)
    clear _hK_19
    refine W_seq fun _K_20 _hK_20 => ?_
    refine W_cond rfl (fun _h17 => ?_) (fun _h17 => ?_)
    · have _kb_21 := _h17
      have _h17 := bt_d _h17
      refine W_skip ?_
      refine thn_nrm (_hK_20 _ _ ?_)
      clear _hK_20
      refine W_seq fun _K_22 _hK_22 => ?_
      refine W_block ?_
      refine W_seq fun _K_23 _hK_23 => ?_
      refine W_region ?_
      refine WL_s rfl rfl ?_
      refine (s_index _F0_0 Sv.len el25 sz30 rfl rfl rfl (by omega) fun _p18 _y18 _hy18 _a18 => ?_)
      obtain ⟨_ys18, _hys18, _fs18⟩ := _F0_1.get _hy18
      obtain ⟨_A18, _n18, _C18⟩ := _y18
      obtain rfl := _fs18.eqn
      have _l18 := _fs18.len
      replace _fs18 : Ls ics 1 _wr_18 _w_12.heap.size _w_15.heap.size (.slice _A18 _ys18.length _C18) _ys18 := _fs18
      replace _a18 : At _wr_18 _w_12.heap.size _w_15.heap.size _p18 ([(.slice _A18 _ys18.length _C18)]) := _a18
      have ym9 := wdL_len (mem_of_get _hys18)
      refine WL_step rfl rfl (r_loadAt0 _a18 agg30 rfl rfl) ?_
      refine WL_step rfl rfl (r_assign rfl) ?_
      refine WL_nil ?_
      refine thn_nrm (_hK_23 _ _ ?_)
      clear _hK_23
      refine W_seq fun _K_24 _hK_24 => ?_
      refine W_region ?_
      refine WL_step rfl rfl (r_assign rfl) ?_
      refine WL_nil ?_
      refine thn_nrm (_hK_24 _ _ ?_)
      clear _hK_24
      refine W_block ?_
      have _oi_25 : Ol Sv.cs 30 1 _wr_18 (.slice Akv (vs).length Ckv) (vs) := by
        have hx := _o0_3
        exact hx
      refine W_loop (σ := Nat × List Sv × Value) (fun ⟨k, us, kw⟩ => [(2, (.slice none 0 0)), (3, kw), (5, (.slice _A18 _ys18.length _C18)), (6, (.int .i64 ((k : Nat) : Int))), (14, (.slice Au14_0 (_vs14_0).length Cu14_0)), (15, (.int .i64 ((_vs14_0.length : Nat) : Int))), (16, (.int .i64 ((i : Nat) : Int))), (17, (.bool (decide (((i : Nat) : Int) < ((_vs14_0.length : Nat) : Int)))))]) (fun ⟨k, us, kw⟩ wx => Ch [] w wx ∧ _wr_18.heap.size ≤ wx.heap.size ∧ (k ≤ 9) ∧ (us.length = 9 * i + k) ∧ Ls Sv.cs 1 wx _w_12.heap.size _w_15.heap.size (.slice Au14_0 (_vs14_0).length Cu14_0) _vs14_0 ∧ Rd ics 1 wx _w_12.heap.size _w_15.heap.size _vs14_0 (wdL R9 (length - 1).toNat) ∧ Ls ics 1 wx _w_12.heap.size _w_15.heap.size (.slice _A18 _ys18.length _C18) _ys18 ∧ Ol Sv.cs 30 1 wx kw us ∧ Lo w.heap.size kw ∧ Od ics 3 1 wx w.heap.size wx.heap.size us (((wdL R9 (length - 1).toNat).take i).flatMap (extW R9) ++ (extW R9 _ys18).take k) ∧ (∀ g ∈ bl kw, g < _w_12.heap.size ∨ _w_15.heap.size ≤ g) ∧ (Sep kw us)) (fun ⟨k, us, kw⟩ => 9 - k) (0, vs, (.slice Akv (vs).length Ckv)) (Sub.cons rfl (Sub.cons rfl (Sub.cons rfl (Sub.cons rfl (Sub.cons rfl (Sub.cons rfl (Sub.cons rfl (Sub.cons rfl (Sub.nil _))))))))) ⟨E, (Nat.le_refl _), (by omega), (by omega), _F0_0, _F0_1, _fs18, _oi_25, _lo0_3, ((od.up (by omega) (by omega)).eq (by simp)), (fun g hm => by have _h1 := _lo0_3 _ hm; have _h2 := hikv _ hm; have _h19 := gp0_3 _ hm; omega), _spl0_3⟩ ?_
      rintro ⟨k, us, kw⟩ _wr_26 ⟨E, _zz1, _hk, hul, _F1_0, _F1_1, _F1_2, _o1_3, _lo1_3, od, gp1_3, _spl1_3⟩
      have _E1h := E
      have _E1hz := _E1h.size
      obtain ⟨Akw, Ckw, ekw⟩ := _o1_3.val
      subst ekw
      have lkw := _o1_3.len
      have hikw := _o1_3.lt
      refine W_seq fun _K_27 _hK_27 => ?_
      refine W_seq fun _K_28 _hK_28 => ?_
      refine W_region ?_
      refine WL_step rfl rfl (r_move rfl) ?_
      refine WL_step rfl rfl (r_lss rfl rfl) ?_
      refine WL_nil ?_
      refine thn_nrm (_hK_28 _ _ ?_)
      clear _hK_28
      refine W_cond rfl (fun _h21 => ?_) (fun _h21 => ?_)
      · have _kb_29 := _h21
        have _h21 := bt_d _h21
        refine W_skip ?_
        refine thn_nrm (_hK_27 _ _ ?_)
        clear _hK_27
        refine W_seq fun _K_30 _hK_30 => ?_
        refine W_block ?_
        refine W_region ?_
        refine WL_step rfl rfl (r_move rfl) ?_
        refine WL_step rfl rfl (r_move rfl) ?_
        refine WL_s rfl rfl ?_
        refine Step.call (r_call (xs := [.tmp 25]) fk149 rfl) (c_impl_copyInts _F1_2 (by omega)) fun _v26 _w_31 _q26 => ?_
        obtain ⟨_q26, _lo26, _cw_31⟩ := _q26
        have _cw_31z := _cw_31.size
        have E := E.trans _cw_31
        obtain ⟨_Av26, _Cv26, _ev26⟩ := _q26.val
        subst _ev26
        have _lv26 := _q26.len
        have _hiv26 := _q26.lt
        refine WL_step rfl rfl (r_move rfl) ?_
        refine WL_s rfl rfl ?_
        refine s_buildSlice (cs := ics) (parts := [(0, .tmp 27)]) (0 : Int) [((k : Nat) : Int)] el30 sz3 zr3 ics_len (by decide) rfl rfl rfl (by decide) (by decide) rfl fun _v28 _w_32 _q28 _lo28 _cw_32 => ?_
        have _cw_32z := _cw_32.size
        have E := E.trans _cw_32
        obtain ⟨_Av28, _Cv28, _ev28⟩ := _q28.val
        subst _ev28
        have _lv28 := _q28.len
        have _hiv28 := _q28.lt
        refine WL_s rfl rfl ?_
        have _f_34 := (_q26.ch0 _cw_32)
        refine s_append (cs := ics) el30 sz3 by3 zr3 rfl (by decide) ics_one _f_34 _q28.ls rfl rfl (by simp only [List.length_singleton]; omega) (by simp only [List.length_singleton]; omega) _lo26 (by omega) fun _v29 _w_33 _q29 _lo29 _ap29 _cw_33 => ?_
        have _cw_33z := _cw_33.size
        have E := E.step _cw_33 (fun i hi => .inl (by have _h1 := _lo26 _ hi; omega))
        obtain ⟨_Av29, _Cv29, _ev29⟩ := _q29.val
        subst _ev29
        have _lv29 := _q29.len
        have _hiv29 := _q29.lt
        refine WL_s rfl rfl ?_
        refine s_buildSlice (cs := Sv.cs) (parts := [(0, .tmp 29)]) (⟨none, 0, 0⟩ : Sv) [(⟨_Av29, ((_ys18 ++ [((k : Nat) : Int)])).length, _Cv29⟩ : Sv)] el25 sz30 zr30 Sv.len (by decide) rfl rfl rfl (by decide) (by decide) rfl fun _v30 _w_35 _q30 _lo30 _cw_35 => ?_
        have _cw_35z := _cw_35.size
        have E := E.trans _cw_35
        obtain ⟨_Av30, _Cv30, _ev30⟩ := _q30.val
        subst _ev30
        have _lv30 := _q30.len
        have _hiv30 := _q30.lt
        have _f_36 := (_q29.ch0 _cw_35)
        have od30 : Od ics 3 1 _w_35 _wr_26.heap.size _w_35.heap.size ([(⟨_Av29, ((_ys18 ++ [((k : Nat) : Int)])).length, _Cv29⟩ : Sv)]) ([(_ys18 ++ [((k : Nat) : Int)])]) := Od.snoc (hi := _wr_26.heap.size) (vs := []) (xs := []) Od.nil _f_36 (Lo.down _lo29 (by omega)) (fun g hg => by have _h1 := _hiv29 g hg; omega) (by omega) (by omega)
        have spn30 : Sep (.slice _Av30 ([(⟨_Av29, ((_ys18 ++ [((k : Nat) : Int)])).length, _Cv29⟩ : Sv)]).length _Cv30) [(⟨_Av29, ((_ys18 ++ [((k : Nat) : Int)])).length, _Cv29⟩ : Sv)] := fun u hu g hg hm => by rw [List.mem_singleton.1 hu] at hg; have _h1 := _hiv29 _ hg; have _h2 := _lo30 _ hm; omega
        refine WL_s rfl rfl ?_
        have _f_38 := ((((_o1_3.ch0 _cw_31).ch0 _cw_32).ch _cw_33 (fun g hg hm => by have _h1 := _lo26 _ hm; have _h2 := _hiv26 _ hm; have _h3 := _lo1_3 _ hg; have _h4 := hikw _ hg; have _h39 := gp1_3 _ hg; omega)).ch0 _cw_35)
        refine s_append (cs := Sv.cs) el25 sz30 by30 zr30 rfl (by decide) Sv.one _f_38 _q30.ls rfl rfl (by simp only [List.length_singleton]; omega) (by simp only [List.length_singleton]; omega) _lo1_3 (by omega) fun _v31 _w_37 _q31 _lo31 _ap31 _cw_37 => ?_
        have _cw_37z := _cw_37.size
        have E := E.step _cw_37 (fun i hi => .inl (by have _h1 := _lo1_3 _ hi; omega))
        obtain ⟨_Av31, _Cv31, _ev31⟩ := _q31.val
        subst _ev31
        have _lv31 := _q31.len
        have _hiv31 := _q31.lt
        refine WL_step rfl rfl (r_assign rfl) ?_
        refine WL_nil ?_
        refine inB_nrm ?_
        refine thn_nrm (_hK_30 _ _ ?_)
        clear _hK_30
        refine W_region ?_
        refine WL_step rfl rfl (r_move rfl) ?_
        refine WL_step rfl rfl (r_add (by omega) rfl rfl) ?_
        refine WL_step rfl rfl (r_assign rfl) ?_
        refine WL_nil ?_
        have _on_39 : Ol Sv.cs 30 1 _w_37 (.slice _Av31 ((us ++ [(⟨_Av29, ((_ys18 ++ [((k : Nat) : Int)])).length, _Cv29⟩ : Sv)])).length _Cv31) ((us ++ [(⟨_Av29, ((_ys18 ++ [((k : Nat) : Int)])).length, _Cv29⟩ : Sv)])) := by
          have hx := _q31
          exact hx
        have _f_40 := (((((od.ch0 _cw_31).ch0 _cw_32).ch _cw_33 (fun i hm => by have _h1 := _lo26 _ hm; have _h2 := _hiv26 _ hm; omega)).ch0 _cw_35).chS _cw_37 _spl1_3)
        have _f_41 := (_f_36.ch _cw_37 (fun g hg hm => by rcases _ap29 with ea | ea; (rw [ea] at hg; have _h1 := _lo1_3 _ hm; have _h2 := hikw _ hm; have _h19 := gp1_3 _ hm; have _h3 := _lo26 _ hg; have _h4 := _hiv26 _ hg; omega); (have z2hg := _hiv29 _ hg; rw [ea] at hg; have _z1 := List.mem_singleton.1 hg; have _h1 := _lo1_3 _ hm; have _h2 := hikw _ hm; have _h19 := gp1_3 _ hm; omega)))
        have _f_42 := (((((_F1_0.ch0 _cw_31).ch0 _cw_32).ch _cw_33 (fun i hi => by have _h1 := _lo26 _ hi; omega)).ch0 _cw_35).ch _cw_37 (fun i hm => by have _h1 := _lo1_3 _ hm; have _h2 := hikw _ hm; have _h19 := gp1_3 _ hm; omega))
        have _f_43 := (((((_F1_1.ch0 _cw_31).ch0 _cw_32).ch _cw_33 (fun i hi => by have _h1 := _lo26 _ hi; omega)).ch0 _cw_35).ch _cw_37 (fun i hm => by have _h1 := _lo1_3 _ hm; have _h2 := hikw _ hm; have _h19 := gp1_3 _ hm; omega))
        have _f_44 := (((((_F1_2.ch0 _cw_31).ch0 _cw_32).ch _cw_33 (fun i hi => by have _h1 := _lo26 _ hi; omega)).ch0 _cw_35).ch _cw_37 (fun i hm => by have _h1 := _lo1_3 _ hm; have _h2 := hikw _ hm; have _h19 := gp1_3 _ hm; omega))
        exact thn_nrm (Exists.intro ((k + 1), (us ++ [(⟨_Av29, ((_ys18 ++ [((k : Nat) : Int)])).length, _Cv29⟩ : Sv)]), (.slice _Av31 ((us ++ [(⟨_Av29, ((_ys18 ++ [((k : Nat) : Int)])).length, _Cv29⟩ : Sv)])).length _Cv31)) ⟨⟨E, (by omega), (by omega), (by simp; omega), _f_42, _f_43, _f_44, _on_39, (Lo.down _lo31 (by omega)), ((Od.snoc _f_40 (v := (⟨_Av29, ((_ys18 ++ [((k : Nat) : Int)])).length, _Cv29⟩ : Sv)) _f_41 (Lo.down _lo29 (by omega)) (fun g hg => by have _h1 := _hiv29 g hg; omega) (by omega) (by omega)).eq (ext_step _hys18 (by omega))), (fun g hm => by rcases _ap31 with ea | ea; (rw [ea] at hm; have _h1 := _lo1_3 _ hm; have _h2 := hikw _ hm; have _h19 := gp1_3 _ hm; omega); (have z2hm := _hiv31 _ hm; rw [ea] at hm; have _z1 := List.mem_singleton.1 hm; omega)), (fun u hu g hg hm => by rcases List.mem_append.1 hu with hu | hu; (rcases _ap31 with ea | ea; (rw [ea] at hm; exact _spl1_3 _ hu _ hg hm); (have z2hm := _hiv31 _ hm; rw [ea] at hm; have _z1 := List.mem_singleton.1 hm; have _h9 := _f_40.rng hu hg; omega)); (rw [List.mem_singleton.1 hu] at hg; replace hg : g ∈ bl (.slice _Av29 ((_ys18 ++ [((k : Nat) : Int)])).length _Cv29) := hg; rcases _ap29 with ea | ea; (rw [ea] at hg; rcases _ap31 with ea | ea; (rw [ea] at hm; have _h1 := _lo1_3 _ hm; have _h2 := hikw _ hm; have _h19 := gp1_3 _ hm; have _h3 := _lo26 _ hg; have _h4 := _hiv26 _ hg; omega); (have z2hm := _hiv31 _ hm; rw [ea] at hm; have _z1 := List.mem_singleton.1 hm; have _h3 := _lo26 _ hg; have _h4 := _hiv26 _ hg; omega)); (have z2hg := _hiv29 _ hg; rw [ea] at hg; have _z1 := List.mem_singleton.1 hg; rcases _ap31 with ea | ea; (rw [ea] at hm; have _h1 := _lo1_3 _ hm; have _h2 := hikw _ hm; have _h19 := gp1_3 _ hm; omega); (have z2hm := _hiv31 _ hm; rw [ea] at hm; have _z1 := List.mem_singleton.1 hm; omega))))⟩, Sub.cons rfl (Sub.cons rfl (Sub.cons rfl (Sub.cons rfl (Sub.cons rfl (Sub.cons rfl (Sub.cons rfl (Sub.cons rfl (Sub.nil _)))))))), (by first | omega | (dsimp only; omega))⟩)
      · have _kb_29 := _h21
        have _h21 := bf_d _h21
        refine W_exit (thn_exit (thn_exit (inB_hit ?_)))
        refine inB_nrm ?_
        refine thn_nrm (_hK_22 _ _ ?_)
        clear _hK_22
        refine W_region ?_
        refine WL_step rfl rfl (r_add (by omega) rfl rfl) ?_
        refine WL_step rfl rfl (r_move rfl) ?_
        refine WL_nil ?_
        have _on_45 : Ol Sv.cs 30 1 _wr_26 (.slice Akw (us).length Ckw) (us) := by
          have hx := _o1_3
          exact hx
        exact thn_nrm (Exists.intro ((i + 1), us, (.slice Akw (us).length Ckw)) ⟨⟨E, (by omega), (by omega), (by omega), _F1_0, _F1_1, _on_45, (Lo.down _lo1_3 (by omega)), (od.eq (ext_all _hys18 (by omega))), (fun g hm => by have _h1 := _lo1_3 _ hm; have _h2 := hikw _ hm; have _h19 := gp1_3 _ hm; omega), _spl1_3⟩, Sub.cons rfl (Sub.cons rfl (Sub.cons rfl (Sub.cons rfl (Sub.cons rfl (Sub.nil _))))), (by first | omega | (dsimp only; omega))⟩)
    · have _kb_21 := _h17
      have _h17 := bf_d _h17
      refine W_exit (thn_exit (thn_exit (inB_hit ?_)))
      refine thn_nrm (_hK_13 _ _ ?_)
      clear _hK_13
      refine W_seq fun _K_46 _hK_46 => ?_
      refine W_region ?_
      refine WL_step rfl rfl (r_move rfl) ?_
      refine WL_step rfl rfl (r_assign rfl) ?_
      refine WL_nil ?_
      refine thn_nrm (_hK_46 _ _ ?_)
      clear _hK_46
      refine W_ret ?_
      clear _hK_20
      have _o_47 : Ol Sv.cs 30 1 _wr_18 (.slice Akv (vs).length Ckv) vs := by
        have hx := _o0_3
        exact hx
      have _o_48 : Od ics 3 1 _wr_18 w.heap.size _wr_18.heap.size vs (wdL R9 length.toNat) := by
        have hx := od.up (lo' := w.heap.size) (hi' := _wr_18.heap.size) (by omega) (by omega)
        first | exact hx.eq (by rw [show length.toNat = 0 by omega]; rfl) | exact hx.eq (wd_end (by omega) (by omega))
      exact ret_intro [_] ⟨rfl, trivial⟩ ⟨(.slice Akv (vs).length Ckv), vs, rfl, _o_47, (Lo.down _lo0_3 (by omega)), _o_48, _spl0_3, E⟩
theorem c_impl_wordsOf {w : World} (length : Int) (hl : 0 ≤ length ∧ length ≤ 3) :
    Ctr Try.prog 132 #[(.int .i64 length)] w (fun v w' => ∃ (_u0 : Value) (vs0 : List Sv), v = _u0 ∧ Ol Sv.cs 30 1 w' _u0 vs0 ∧ Lo w.heap.size _u0 ∧ Od ics 3 1 w' w.heap.size w'.heap.size vs0 (wdL R9 length.toNat) ∧ Sep _u0 vs0 ∧ Ch [] w w') := c_impl_wordsOf_n _ length hl (Nat.lt_succ_self _)

/-- impl.WordsUpTo -/
theorem c_impl_WordsUpTo {w : World} {LL_e _B_e : Nat} {_v_e : Value} {e : List Token} (_h_e : Ls Token.cs 4 w LL_e _B_e _v_e e) (length : Int) (hb : e.length ≤ 1048576) :
    Ctr Try.prog 61 #[(.agg #[_v_e]), (.int .i64 length)] w (fun v w' => ∃ (_u0 : Value) (vs0 : List Sv), v = _u0 ∧ Ol Sv.cs 30 1 w' _u0 vs0 ∧ Lo w.heap.size _u0 ∧ Od ics 3 1 w' w.heap.size w'.heap.size vs0 (wuR e length) ∧ Sep _u0 vs0 ∧ Ch [] w w') := by
  obtain ⟨_A_e, _C_e, _e1_e⟩ := _h_e.val
  subst _e1_e
  have _l_e := _h_e.len
  have _h_e := _h_e.here (by decide)
  have E := Ch.refl [] w
  refine Ctr_of_W (N := 42) (vs0 := [(.agg #[(.slice _A_e e.length _C_e)]), (.int .i64 length)]) Try.func61 rfl rfl rfl ?_
  refine W_seq fun _K_1 _hK_1 => ?_
  refine W_region ?_
  refine WL_s rfl rfl ?_
  refine s_box rfl fun _b2 _w_2 _m2 _cw_2 _e2 => ?_
  have _cw_2z := _cw_2.size
  have E := E.trans _cw_2
  have _z2 := _m2.lt
  replace _m2 : Blk _w_2 _b2 67 [(.slice _A_e e.length _C_e)] := _m2
  refine WL_step rfl rfl (r_assign rfl) ?_
  refine WL_nil ?_
  refine thn_nrm (_hK_1 _ _ ?_)
  clear _hK_1
  refine W_seq fun _K_3 _hK_3 => ?_
  refine W_seq fun _K_4 _hK_4 => ?_
  refine W_region ?_
  refine WL_step rfl rfl (r_loadAtA0 _m2.at_ agg67 sz67 rfl) ?_
  refine WL_s rfl rfl ?_
  have _f_5 := (_h_e.ch0 _cw_2)
  refine Step.call (r_call (xs := [.tmp 10]) fk128 rfl) (c_impl_IsValidExpr _f_5 (by omega)) fun _v11 _w_6 _q11 => ?_
  obtain ⟨rfl, _cw_6⟩ := _q11
  have _cw_6z := _cw_6.size
  have E := E.trans _cw_6
  refine WL_step rfl rfl (r_not rfl) ?_
  refine WL_step rfl rfl (r_move rfl) ?_
  refine WL_split (d := 13) rfl (fun _h13 => ?_) (fun _h13 => ?_)
  · have _kb_7 := _h13
    have _h13 := bt_n _h13
    refine WL_skip rfl rfl ?_
    refine WL_skip rfl rfl ?_
    refine WL_skip rfl rfl ?_
    refine WL_step rfl rfl (r_pickT rfl rfl) ?_
    refine WL_nil ?_
    refine thn_nrm (_hK_4 _ _ ?_)
    clear _hK_4
    refine W_condT rfl ?_
    refine W_seq fun _K_8 _hK_8 => ?_
    refine W_region ?_
    refine WL_step rfl rfl (r_assign rfl) ?_
    refine WL_nil ?_
    refine thn_nrm (_hK_8 _ _ ?_)
    clear _hK_8
    refine W_ret (thn_ret ?_)
    clear _hK_3
    exact ret_intro [_] ⟨rfl, trivial⟩ ⟨(.slice none 0 0), [], rfl, (Ol.nil _), (Lo.nil _), (Od.nil.eq (wuR_n (fun q => by first | (rw [_h13] at q; exact Bool.false_ne_true q.1) | exact _h17 q.2 | (have _q2 := q.2; omega)))), (fun u hu => by cases hu), E⟩
  · have _kb_7 := _h13
    have _h13 := bf_n _h13
    obtain ⟨_t9, ht9, ok9, f9, _n9⟩ := ivE_y _h13
    refine WL_step rfl rfl (r_move rfl) ?_
    refine WL_s rfl rfl ?_
    refine Step.call (r_call (xs := [.tmp 14, .const (Go.Value.int Go.IntKind.i64 0), .const (Go.Value.int Go.IntKind.i64 3)]) fk78 rfl) (c_impl_within _ _ _ ) fun _v15 _w_11 _q15 => ?_
    obtain ⟨rfl, _cw_11⟩ := _q15
    have _cw_11z := _cw_11.size
    have E := E.trans _cw_11
    refine WL_step rfl rfl (r_not rfl) ?_
    refine WL_step rfl rfl (r_pickF rfl rfl) ?_
    refine WL_nil ?_
    refine thn_nrm (_hK_4 _ _ ?_)
    clear _hK_4
    refine W_cond rfl (fun _h17 => ?_) (fun _h17 => ?_)
    · have _kb_12 := _h17
      have _h17 := bf_d (bt_n _h17)
      refine W_seq fun _K_13 _hK_13 => ?_
      refine W_region ?_
      refine WL_step rfl rfl (r_assign rfl) ?_
      refine WL_nil ?_
      refine thn_nrm (_hK_13 _ _ ?_)
      clear _hK_13
      refine W_ret (thn_ret ?_)
      clear _hK_3
      exact ret_intro [_] ⟨rfl, trivial⟩ ⟨(.slice none 0 0), [], rfl, (Ol.nil _), (Lo.nil _), (Od.nil.eq (wuR_n (fun q => by first | (rw [_h13] at q; exact Bool.false_ne_true q.1) | exact _h17 q.2 | (have _q2 := q.2; omega)))), (fun u hu => by cases hu), E⟩
    · have _kb_12 := _h17
      have _h17 := bt_d (bf_n _h17)
      refine W_skip ?_
      refine thn_nrm (_hK_3 _ _ ?_)
      clear _hK_3
      refine W_seq fun _K_16 _hK_16 => ?_
      refine W_region ?_
      refine WL_s rfl rfl ?_
      refine s_buildSlice0 (k := 1) Sv.cs el25 sz30 fun _v18 _w_17 _q18 _lo18 _cw_17 => ?_
      have _cw_17z := _cw_17.size
      have E := E.trans _cw_17
      obtain ⟨_Av18, _Cv18, _ev18⟩ := _q18.val
      subst _ev18
      have _lv18 := _q18.len
      have _hiv18 := _q18.lt
      refine WL_step rfl rfl (r_assign rfl) ?_
      refine WL_nil ?_
      refine thn_nrm (_hK_16 _ _ ?_)
      clear _hK_16
      refine W_seq fun _K_18 _hK_18 => ?_
      refine W_region ?_
      have _f_19 := (((_m2.ch0 _cw_6).ch0 _cw_11).ch0 _cw_17)
      refine WL_step rfl rfl (r_loadAtA0 _f_19.at_ agg67 sz67 rfl) ?_
      refine WL_s rfl rfl ?_
      have _f_20 := (((_f_5.ch0 _cw_6).ch0 _cw_11).ch0 _cw_17)
      refine Step.call (r_call (xs := [.tmp 19]) fk122 rfl) (c_impl_treeOf _f_20 (by omega)) fun _v20 _w_21 _q20 => ?_
      obtain ⟨_q20, _cw_21⟩ := _q20
      have _cw_21z := _cw_21.size
      have E := E.trans _cw_21
      rcases _q20 with ⟨_e20, rfl⟩ | ⟨tt20, _p20, _e20, rfl, _tr20⟩
      · exact (ivE_tr _h13 _e20).elim
      · replace _tr20 : TrAt _w_21 _w_17.heap.size _w_21.heap.size _p20 tt20 := _tr20
        obtain ⟨_A_20, _C_20, _ps_20, _hc_20, _hk_20, _kd_20⟩ := _tr20.open
        have _kl_20 := _kd_20.1
        refine WL_step rfl rfl (r_assign rfl) ?_
        refine WL_nil ?_
        refine thn_nrm (_hK_18 _ _ ?_)
        clear _hK_18
        refine W_seq fun _K_22 _hK_22 => ?_
        refine W_seq fun _K_23 _hK_23 => ?_
        refine W_region ?_
        refine WL_step rfl rfl (r_assign rfl) ?_
        refine WL_nil ?_
        refine thn_nrm (_hK_23 _ _ ?_)
        clear _hK_23
        refine W_block ?_
        have _f_24 := (_q18.ch0 _cw_21)
        have _oi_25 : Ol Sv.cs 30 1 _w_21 (.slice _Av18 (([] : List Sv)).length _Cv18) (([] : List Sv)) := by
          have hx := _f_24
          exact hx
        refine W_loop (σ := Nat × List Sv × Value) (fun ⟨n, vs, ov⟩ => [(1, (.int .i64 length)), (4, (.slice none 0 0)), (5, ov), (6, (.pointer (some _p20))), (7, (.int .i64 ((n : Nat) : Int)))]) (fun ⟨n, vs, ov⟩ wx => Ch [] w wx ∧ _w_21.heap.size ≤ wx.heap.size ∧ (n ≤ (length + 1).toNat) ∧ At wx _w_17.heap.size _w_21.heap.size _p20 ([.int .i64 tt20.tok.kind, .int .i64 tt20.tok.letter, .int .i64 tt20.tok.low, .int .i64 tt20.tok.high, (.slice _A_20 _ps_20.length _C_20)]) ∧ TrAt wx _w_17.heap.size _w_21.heap.size _p20 tt20 ∧ Ls acs 1 wx _w_17.heap.size _w_21.heap.size (.slice _A_20 _ps_20.length _C_20) _ps_20 ∧ Kd wx _w_17.heap.size _w_21.heap.size _ps_20 tt20.kids ∧ Ol Sv.cs 30 1 wx ov vs ∧ Lo _w_11.heap.size ov ∧ Od ics 3 1 wx w.heap.size wx.heap.size vs (wuT R9 tt20 n) ∧ (∀ g ∈ bl ov, g < _w_17.heap.size ∨ _w_21.heap.size ≤ g) ∧ (Sep ov vs)) (fun ⟨n, vs, ov⟩ => (length + 1).toNat - n) (0, ([] : List Sv), (.slice _Av18 (([] : List Sv)).length _Cv18)) (Sub.cons rfl (Sub.cons rfl (Sub.cons rfl (Sub.cons rfl (Sub.cons rfl (Sub.nil _)))))) ⟨E, (Nat.le_refl _), (by omega), _hc_20, _tr20, _hk_20, _kd_20, _oi_25, _lo18, Od.nil, (fun g hm => by have _h1 := _lo18 _ hm; have _h2 := _hiv18 _ hm; omega), (fun u hu => by cases hu)⟩ ?_
        rintro ⟨n, vs, ov⟩ _wr_26 ⟨E, _zz0, hn, _F0_0, _F0_1, _F0_2, _F0_3, _o0_5, _lo0_5, od, gp0_5, _spl0_5⟩
        have _E0h := E
        have _E0hz := _E0h.size
        obtain ⟨Aov, Cov, eov⟩ := _o0_5.val
        subst eov
        have lov := _o0_5.len
        have hiov := _o0_5.lt
        refine W_seq fun _K_27 _hK_27 => ?_
        refine W_seq fun _K_28 _hK_28 => ?_
        refine W_region ?_
        refine WL_step rfl rfl (r_move rfl) ?_
        refine WL_step rfl rfl (r_move rfl) ?_
        refine WL_step rfl rfl (r_leq rfl rfl) ?_
        refine WL_nil ?_
        refine thn_nrm (_hK_28 _ _ ?_)
        clear _hK_28
        refine W_cond rfl (fun _h23 => ?_) (fun _h23 => ?_)
        · have _kb_29 := _h23
          have _h23 := bt_d _h23
          refine W_skip ?_
          refine thn_nrm (_hK_27 _ _ ?_)
          clear _hK_27
          refine W_seq fun _K_30 _hK_30 => ?_
          refine W_block ?_
          refine W_seq fun _K_31 _hK_31 => ?_
          refine W_region ?_
          refine WL_step rfl rfl (r_move rfl) ?_
          refine WL_s rfl rfl ?_
          refine Step.call (r_call (xs := [.tmp 26]) fk132 rfl) (c_impl_wordsOf _ (by omega)) fun _v27 _w_32 _q27 => ?_
          obtain ⟨u27_0, _vs27_0, rfl, _q_u27_0, _lo_u27_0, _od_vs27_0, _sep_vs27_0, _cw_32⟩ := _q27
          have _cw_32z := _cw_32.size
          have E := E.trans _cw_32
          obtain ⟨Au27_0, Cu27_0, eu27_0⟩ := _q_u27_0.val
          subst eu27_0
          have lu27_0 := _q_u27_0.len
          have _hiu27_0 := _q_u27_0.lt
          have lsr27 := Ol.lsR _q_u27_0 (lo := _wr_26.heap.size) (hi := _w_32.heap.size) _lo_u27_0 _hiu27_0
          have rdr27 := Od.rdR _od_vs27_0
          have rlr27 := rdr27.1
          refine WL_step rfl rfl (r_len (by rw [el25]; rfl) rfl) ?_
          refine WL_step rfl rfl (r_move rfl) ?_
          refine WL_nil ?_
          refine thn_nrm (_hK_31 _ _ ?_)
          clear _hK_31
          refine W_block ?_
          have _f_33 := (_o0_5.ch0 _cw_32)
          have _oi_34 : Ol Sv.cs 30 1 _w_32 (.slice Aov (vs).length Cov) (vs) := by
            have hx := _f_33
            exact hx
          have _f_35 := (od.ch0 _cw_32)
          have _f_36 := (_F0_0.ch0 _cw_32)
          have _f_37 := (_F0_1.ch0 _cw_32)
          have _f_38 := (_F0_2.ch0 _cw_32)
          have _f_39 := (_F0_3.ch0 _cw_32)
          refine W_loop (σ := Nat × List Sv × Value) (fun ⟨i, us, ow⟩ => [(1, (.int .i64 length)), (4, (.slice none 0 0)), (5, ow), (6, (.pointer (some _p20))), (7, (.int .i64 ((n : Nat) : Int))), (23, (.bool (decide (((n : Nat) : Int) ≤ length)))), (27, (.slice Au27_0 (_vs27_0).length Cu27_0)), (28, (.int .i64 ((_vs27_0.length : Nat) : Int))), (29, (.int .i64 ((i : Nat) : Int)))]) (fun ⟨i, us, ow⟩ wx => Ch [] w wx ∧ _w_32.heap.size ≤ wx.heap.size ∧ (i ≤ (wdL R9 ((n : Nat) : Int).toNat).length) ∧ (us.length = (wuT R9 tt20 n ++ ((wdL R9 ((n : Nat) : Int).toNat).take i).filter (fun w : List Int => mtT w tt20 0 w.length)).length) ∧ At wx _w_17.heap.size _w_21.heap.size _p20 ([.int .i64 tt20.tok.kind, .int .i64 tt20.tok.letter, .int .i64 tt20.tok.low, .int .i64 tt20.tok.high, (.slice _A_20 _ps_20.length _C_20)]) ∧ TrAt wx _w_17.heap.size _w_21.heap.size _p20 tt20 ∧ Ls acs 1 wx _w_17.heap.size _w_21.heap.size (.slice _A_20 _ps_20.length _C_20) _ps_20 ∧ Kd wx _w_17.heap.size _w_21.heap.size _ps_20 tt20.kids ∧ Ls Sv.cs 1 wx _wr_26.heap.size _w_32.heap.size (.slice Au27_0 (_vs27_0).length Cu27_0) _vs27_0 ∧ Rd ics 1 wx _wr_26.heap.size _w_32.heap.size _vs27_0 (wdL R9 ((n : Nat) : Int).toNat) ∧ Ol Sv.cs 30 1 wx ow us ∧ Lo _w_11.heap.size ow ∧ Od ics 3 1 wx w.heap.size wx.heap.size (us ++ _vs27_0.drop i) (wuT R9 tt20 n ++ ((wdL R9 ((n : Nat) : Int).toNat).take i).filter (fun w : List Int => mtT w tt20 0 w.length) ++ (wdL R9 ((n : Nat) : Int).toNat).drop i) ∧ (∀ g ∈ bl ow, g < _wr_26.heap.size ∨ _w_32.heap.size ≤ g) ∧ (∀ g ∈ bl ow, g < _w_17.heap.size ∨ _w_21.heap.size ≤ g) ∧ (Sep ow (us ++ _vs27_0.drop i))) (fun ⟨i, us, ow⟩ => (wdL R9 ((n : Nat) : Int).toNat).length - i) (0, vs, (.slice Aov (vs).length Cov)) (Sub.cons rfl (Sub.cons rfl (Sub.cons rfl (Sub.cons rfl (Sub.cons rfl (Sub.cons rfl (Sub.cons rfl (Sub.cons rfl (Sub.cons rfl (Sub.nil _)))))))))) ⟨E, (Nat.le_refl _), (by omega), (by have _h9 := od.1; simpa using _h9), _f_36, _f_37, _f_38, _f_39, lsr27, rdr27, _oi_34, _lo0_5, ((Od.app _f_35 _od_vs27_0 (by omega) (by omega) (by omega)).eq (by simp)), (fun g hm => by have _h1 := _lo0_5 _ hm; have _h2 := hiov _ hm; have _h19 := gp0_5 _ hm; omega), (fun g hm => by have _h1 := _lo0_5 _ hm; have _h2 := hiov _ hm; have _h19 := gp0_5 _ hm; omega), (appSep _spl0_5 (Od.sepO _od_vs27_0 (fun g hm => by have _h1 := _lo0_5 _ hm; have _h2 := hiov _ hm; have _h19 := gp0_5 _ hm; omega)))⟩ ?_
          rintro ⟨i, us, ow⟩ _wr_40 ⟨E, _zz1, hi, hul, _F1_0, _F1_1, _F1_2, _F1_3, _F1_4, _F1_5, _o1_5, _lo1_5, od, gp1_5, gp1_5_1, _spl1_5⟩
          have _E1h := E
          have _E1hz := _E1h.size
          obtain ⟨Aow, Cow, eow⟩ := _o1_5.val
          subst eow
          have low := _o1_5.len
          have hiow := _o1_5.lt
          refine W_seq fun _K_41 _hK_41 => ?_
          refine W_region ?_
          refine WL_step rfl rfl (r_lss rfl rfl) ?_
          refine WL_nil ?_
          refine thn_nrm (_hK_41 _ _ ?_)
          clear _hK_41
          refine W_seq fun _K_42 _hK_42 => ?_
          refine W_cond rfl (fun _h30 => ?_) (fun _h30 => ?_)
          · have _kb_43 := _h30
            have _h30 := bt_d _h30
            refine W_skip ?_
            refine thn_nrm (_hK_42 _ _ ?_)
            clear _hK_42
            refine W_seq fun _K_44 _hK_44 => ?_
            refine W_block ?_
            refine W_seq fun _K_45 _hK_45 => ?_
            refine W_region ?_
            refine WL_s rfl rfl ?_
            refine (s_index _F1_4 Sv.len el25 sz30 rfl rfl rfl (by omega) fun _p31 _y31 _hy31 _a31 => ?_)
            obtain ⟨_ys31, _hys31, _fs31⟩ := _F1_5.get _hy31
            obtain ⟨_A31, _n31, _C31⟩ := _y31
            obtain rfl := _fs31.eqn
            have _l31 := _fs31.len
            replace _fs31 : Ls ics 1 _wr_40 _wr_26.heap.size _w_32.heap.size (.slice _A31 _ys31.length _C31) _ys31 := _fs31
            replace _a31 : At _wr_40 _wr_26.heap.size _w_32.heap.size _p31 ([(.slice _A31 _ys31.length _C31)]) := _a31
            have ym9 := wdL_len (mem_of_get _hys31)
            have bl9 := wu_le (t := tt20) (m := n) (W := wdL R9 ((n : Nat) : Int).toNat) (P := fun w : List Int => mtT w tt20 0 w.length) (i := i) (by omega) (by omega)
            have bl8 := wdL_size R9 ((n : Nat) : Int).toNat
            have bl7 := R9_pow (n := ((n : Nat) : Int).toNat) (by omega)
            refine WL_step rfl rfl (r_loadAt0 _a31 agg30 rfl rfl) ?_
            refine WL_step rfl rfl (r_assign rfl) ?_
            refine WL_nil ?_
            refine thn_nrm (_hK_45 _ _ ?_)
            clear _hK_45
            refine W_seq fun _K_46 _hK_46 => ?_
            refine W_region ?_
            refine WL_step rfl rfl (r_move rfl) ?_
            refine WL_step rfl rfl (r_move rfl) ?_
            refine WL_s rfl rfl ?_
            refine Step.call (r_call (xs := [.tmp 33, .tmp 34]) fk130 rfl) (c_impl_tree_matches _F1_1 _fs31 (by rw [ht9] at _e20; cases _e20; exact ok9) (by omega)) fun _v35 _w_47 _q35 => ?_
            obtain ⟨rfl, _cw_47⟩ := _q35
            have _cw_47z := _cw_47.size
            have E := E.trans _cw_47
            refine WL_nil ?_
            refine thn_nrm (_hK_46 _ _ ?_)
            clear _hK_46
            refine W_cond rfl (fun _h35 => ?_) (fun _h35 => ?_)
            · have _kb_48 := _h35
              refine W_region ?_
              refine WL_step rfl rfl (r_move rfl) ?_
              refine WL_step rfl rfl (r_move rfl) ?_
              refine WL_s rfl rfl ?_
              refine s_buildSlice (cs := Sv.cs) (parts := [(0, .tmp 37)]) (⟨none, 0, 0⟩ : Sv) [(⟨_A31, _ys31.length, _C31⟩ : Sv)] el25 sz30 zr30 Sv.len (by decide) rfl rfl rfl (by decide) (by decide) rfl fun _v38 _w_49 _q38 _lo38 _cw_49 => ?_
              have _cw_49z := _cw_49.size
              have E := E.trans _cw_49
              obtain ⟨_Av38, _Cv38, _ev38⟩ := _q38.val
              subst _ev38
              have _lv38 := _q38.len
              have _hiv38 := _q38.lt
              have _f_50 := ((_fs31.ch0 _cw_47).ch0 _cw_49)
              have _rd38 : Rd ics 1 _w_49 0 _w_49.heap.size ([(⟨_A31, _ys31.length, _C31⟩ : Sv)]) ([_ys31]) := (Rd.cons (_f_50.up (by omega) (by omega)) Rd.nil)
              refine WL_s rfl rfl ?_
              have _f_52 := ((_o1_5.ch0 _cw_47).ch0 _cw_49)
              refine s_append (cs := Sv.cs) el25 sz30 by30 zr30 rfl (by decide) Sv.one _f_52 _q38.ls rfl rfl (by simp only [List.length_singleton]; omega) (by simp only [List.length_singleton]; omega) _lo1_5 (by omega) fun _v39 _w_51 _q39 _lo39 _ap39 _cw_51 => ?_
              have _cw_51z := _cw_51.size
              have E := E.step _cw_51 (fun i hi => .inl (by have _h1 := _lo1_5 _ hi; omega))
              obtain ⟨_Av39, _Cv39, _ev39⟩ := _q39.val
              subst _ev39
              have _lv39 := _q39.len
              have _hiv39 := _q39.lt
              refine WL_step rfl rfl (r_assign rfl) ?_
              refine WL_nil ?_
              refine inB_nrm ?_
              refine thn_nrm (_hK_44 _ _ ?_)
              clear _hK_44
              refine W_region ?_
              refine WL_step rfl rfl (r_add (by omega) rfl rfl) ?_
              refine WL_step rfl rfl (r_move rfl) ?_
              refine WL_nil ?_
              have _on_53 : Ol Sv.cs 30 1 _w_51 (.slice _Av39 ((us ++ [(⟨_A31, _ys31.length, _C31⟩ : Sv)])).length _Cv39) ((us ++ [(⟨_A31, _ys31.length, _C31⟩ : Sv)])) := by
                have hx := _q39
                exact hx
              have _f_54 := (((od.ch0 _cw_47).ch0 _cw_49).chS _cw_51 _spl1_5)
              have _f_55 := (((_F1_0.ch0 _cw_47).ch0 _cw_49).ch _cw_51 (fun i hm => by have _h1 := _lo1_5 _ hm; have _h2 := hiow _ hm; have _h19 := gp1_5 _ hm; have _h191 := gp1_5_1 _ hm; omega))
              have _f_56 := (((_F1_1.ch0 _cw_47).ch0 _cw_49).ch _cw_51 (fun i hm => by have _h1 := _lo1_5 _ hm; have _h2 := hiow _ hm; have _h19 := gp1_5 _ hm; have _h191 := gp1_5_1 _ hm; omega))
              have _f_57 := (((_F1_2.ch0 _cw_47).ch0 _cw_49).ch _cw_51 (fun i hm => by have _h1 := _lo1_5 _ hm; have _h2 := hiow _ hm; have _h19 := gp1_5 _ hm; have _h191 := gp1_5_1 _ hm; omega))
              have _f_58 := (((_F1_3.ch0 _cw_47).ch0 _cw_49).ch _cw_51 (fun i hm => by have _h1 := _lo1_5 _ hm; have _h2 := hiow _ hm; have _h19 := gp1_5 _ hm; have _h191 := gp1_5_1 _ hm; omega))
              have _f_59 := (((_F1_4.ch0 _cw_47).ch0 _cw_49).ch _cw_51 (fun i hm => by have _h1 := _lo1_5 _ hm; have _h2 := hiow _ hm; have _h19 := gp1_5 _ hm; have _h191 := gp1_5_1 _ hm; omega))
              have _f_60 := (((_F1_5.ch0 _cw_47).ch0 _cw_49).ch _cw_51 (fun i hm => by have _h1 := _lo1_5 _ hm; have _h2 := hiow _ hm; have _h19 := gp1_5 _ hm; have _h191 := gp1_5_1 _ hm; omega))
              exact thn_nrm (Exists.intro ((i + 1), (us ++ [(⟨_A31, _ys31.length, _C31⟩ : Sv)]), (.slice _Av39 ((us ++ [(⟨_A31, _ys31.length, _C31⟩ : Sv)])).length _Cv39)) ⟨⟨E, (by omega), (by omega), (by rw [take_snoc _hys31, List.filter_append]; simp [_h35] at hul ⊢; omega), _f_55, _f_56, _f_57, _f_58, _f_59, _f_60, _on_53, (Lo.down _lo39 (by omega)), (Od.eq2 (_f_54.up (Nat.le_refl _) (by omega)) (by rw [drop_of _hy31]; simp) (wu_keep _hys31 _h35)), (fun g hm => by rcases _ap39 with ea | ea; (rw [ea] at hm; have _h1 := _lo1_5 _ hm; have _h2 := hiow _ hm; have _h19 := gp1_5 _ hm; have _h191 := gp1_5_1 _ hm; omega); (have z2hm := _hiv39 _ hm; rw [ea] at hm; have _z1 := List.mem_singleton.1 hm; omega)), (fun g hm => by rcases _ap39 with ea | ea; (rw [ea] at hm; have _h1 := _lo1_5 _ hm; have _h2 := hiow _ hm; have _h19 := gp1_5 _ hm; have _h191 := gp1_5_1 _ hm; omega); (have z2hm := _hiv39 _ hm; rw [ea] at hm; have _z1 := List.mem_singleton.1 hm; omega)), (fun u hu g hg hm => by have hu9 := _spl1_5 u (by rw [drop_of _hy31]; simpa using hu) g hg; have _h9 := _f_54.rng (u := u) (by rw [drop_of _hy31]; simpa using hu) hg; rcases _ap39 with ea | ea; (rw [ea] at hm; exact hu9 hm); (have z2hm := _hiv39 _ hm; rw [ea] at hm; have _z1 := List.mem_singleton.1 hm; omega))⟩, Sub.cons rfl (Sub.cons rfl (Sub.cons rfl (Sub.cons rfl (Sub.cons rfl (Sub.cons rfl (Sub.cons rfl (Sub.cons rfl (Sub.cons rfl (Sub.nil _))))))))), (by first | omega | (dsimp only; omega))⟩)
            · have _kb_48 := _h35
              refine W_skip ?_
              refine inB_nrm ?_
              refine thn_nrm (_hK_44 _ _ ?_)
              clear _hK_44
              refine W_region ?_
              refine WL_step rfl rfl (r_add (by omega) rfl rfl) ?_
              refine WL_step rfl rfl (r_move rfl) ?_
              refine WL_nil ?_
              have _f_62 := (_o1_5.ch0 _cw_47)
              have _on_61 : Ol Sv.cs 30 1 _w_47 (.slice Aow (us).length Cow) (us) := by
                have hx := _f_62
                exact hx
              have _f_63 := (od.ch0 _cw_47)
              have _f_64 := (_F1_0.ch0 _cw_47)
              have _f_65 := (_F1_1.ch0 _cw_47)
              have _f_66 := (_F1_2.ch0 _cw_47)
              have _f_67 := (_F1_3.ch0 _cw_47)
              have _f_68 := (_F1_4.ch0 _cw_47)
              have _f_69 := (_F1_5.ch0 _cw_47)
              exact thn_nrm (Exists.intro ((i + 1), us, (.slice Aow (us).length Cow)) ⟨⟨E, (by omega), (by omega), (by rw [take_snoc _hys31, List.filter_append]; simp [_h35] at hul ⊢; omega), _f_64, _f_65, _f_66, _f_67, _f_68, _f_69, _on_61, (Lo.down _lo1_5 (by omega)), ((Od.skip (v := (⟨_A31, _ys31.length, _C31⟩ : Sv)) (x := _ys31) (Od.eq2 (_f_63.up (Nat.le_refl _) (by omega)) (by rw [← drop_of _hy31]) (by rw [← drop_of _hys31])) (by omega)).eq (wu_drop _hys31 _h35)), (fun g hm => by have _h1 := _lo1_5 _ hm; have _h2 := hiow _ hm; have _h19 := gp1_5 _ hm; have _h191 := gp1_5_1 _ hm; omega), (fun g hm => by have _h1 := _lo1_5 _ hm; have _h2 := hiow _ hm; have _h19 := gp1_5 _ hm; have _h191 := gp1_5_1 _ hm; omega), (subSep _spl1_5 (fun u hu => by rw [drop_of _hy31]; rcases List.mem_append.1 hu with hu | hu; (exact List.mem_append_left _ hu); (exact List.mem_append_right _ (List.mem_cons_of_mem _ hu))))⟩, Sub.cons rfl (Sub.cons rfl (Sub.cons rfl (Sub.cons rfl (Sub.cons rfl (Sub.cons rfl (Sub.cons rfl (Sub.cons rfl (Sub.cons rfl (Sub.nil _))))))))), (by first | omega | (dsimp only; omega))⟩)
          · have _kb_43 := _h30
            have _h30 := bf_d _h30
            refine W_exit (thn_exit (thn_exit (inB_hit ?_)))
            refine inB_nrm ?_
            refine thn_nrm (_hK_30 _ _ ?_)
            clear _hK_30
            refine W_region ?_
            refine WL_step rfl rfl (r_move rfl) ?_
            refine WL_step rfl rfl (r_add (by omega) rfl rfl) ?_
            refine WL_step rfl rfl (r_assign rfl) ?_
            refine WL_nil ?_
            have _on_70 : Ol Sv.cs 30 1 _wr_40 (.slice Aow (us).length Cow) (us) := by
              have hx := _o1_5
              exact hx
            exact thn_nrm (Exists.intro ((n + 1), us, (.slice Aow (us).length Cow)) ⟨⟨E, (by omega), (by omega), _F1_0, _F1_1, _F1_2, _F1_3, _on_70, (Lo.down _lo1_5 (by omega)), (Od.eq2 od (by rw [List.drop_of_length_le (by omega), List.append_nil]) (by rw [List.drop_of_length_le (by omega), List.append_nil, List.take_of_length_le (by omega), wuT_succ, Int.toNat_natCast])), (fun g hm => by have _h1 := _lo1_5 _ hm; have _h2 := hiow _ hm; have _h19 := gp1_5 _ hm; have _h191 := gp1_5_1 _ hm; omega), (by have _h9 := _spl1_5; rw [List.drop_of_length_le (by omega), List.append_nil] at _h9; exact _h9)⟩, Sub.cons rfl (Sub.cons rfl (Sub.cons rfl (Sub.cons rfl (Sub.cons rfl (Sub.nil _))))), (by first | omega | (dsimp only; omega))⟩)
        · have _kb_29 := _h23
          have _h23 := bf_d _h23
          refine W_exit (thn_exit (thn_exit (inB_hit ?_)))
          refine thn_nrm (_hK_22 _ _ ?_)
          clear _hK_22
          refine W_seq fun _K_71 _hK_71 => ?_
          refine W_region ?_
          refine WL_step rfl rfl (r_move rfl) ?_
          refine WL_step rfl rfl (r_assign rfl) ?_
          refine WL_nil ?_
          refine thn_nrm (_hK_71 _ _ ?_)
          clear _hK_71
          refine W_ret ?_
          clear _hK_27
          have _o_72 : Ol Sv.cs 30 1 _wr_26 (.slice Aov (vs).length Cov) vs := by
            have hx := _o0_5
            exact hx
          have _o_73 : Od ics 3 1 _wr_26 w.heap.size _wr_26.heap.size vs (wuR e length) := by
            have hx := od.up (lo' := w.heap.size) (hi' := _wr_26.heap.size) (by omega) (by omega)
            exact hx.eq (wuR_y _h13 (by omega) _e20 (by omega))
          exact ret_intro [_] ⟨rfl, trivial⟩ ⟨(.slice Aov (vs).length Cov), vs, rfl, _o_72, (Lo.down _lo0_5 (by omega)), _o_73, _spl0_5, E⟩

/-- laws.big -/
theorem c_laws_big {w : World} {LL_code _B_code : Nat} {_v_code : Value} {code : List Int} (_h_code : Ls ucs 1 w LL_code _B_code _v_code code) :
    Ctr Try.prog 9 #[_v_code] w (fun v w' => v = .bool (decide (1048576 < (code.length : Int))) ∧ Ch [] w w') := by
  obtain ⟨_A_code, _C_code, _e1_code⟩ := _h_code.val
  subst _e1_code
  have _l_code := _h_code.len
  have _h_code := _h_code.here (by decide)
  have E := Ch.refl [] w
  refine Ctr_of_W (N := 6) (vs0 := [(.slice _A_code code.length _C_code)]) Try.func9 rfl rfl rfl ?_
  refine W_seq fun _K_1 _hK_1 => ?_
  refine W_region ?_
  refine WL_step rfl rfl (r_assign rfl) ?_
  refine WL_nil ?_
  refine thn_nrm (_hK_1 _ _ ?_)
  clear _hK_1
  refine W_seq fun _K_2 _hK_2 => ?_
  refine W_region ?_
  refine WL_step rfl rfl (r_move rfl) ?_
  refine WL_step rfl rfl (r_len (by rw [el22]; rfl) rfl) ?_
  refine WL_step rfl rfl (r_gtr rfl rfl) ?_
  refine WL_step rfl rfl (r_assign rfl) ?_
  refine WL_nil ?_
  refine thn_nrm (_hK_2 _ _ ?_)
  clear _hK_2
  refine W_ret ?_
  exact ret_intro [_] ⟨rfl, trivial⟩ ⟨congrArg Value.bool rfl, E⟩

/-- laws.sameInts -/
theorem c_laws_sameInts {w : World} {LL_a _B_a : Nat} {_v_a : Value} {a : List Int} (_h_a : Ls ics 1 w LL_a _B_a _v_a a) {LL_b _B_b : Nat} {_v_b : Value} {b : List Int} (_h_b : Ls ics 1 w LL_b _B_b _v_b b) :
    Ctr Try.prog 13 #[_v_a, _v_b] w (fun v w' => v = .bool (decide (a = b)) ∧ Ch [] w w') := by
  obtain ⟨_A_a, _C_a, _e1_a⟩ := _h_a.val
  subst _e1_a
  have _l_a := _h_a.len
  have _h_a := _h_a.here (by decide)
  obtain ⟨_A_b, _C_b, _e1_b⟩ := _h_b.val
  subst _e1_b
  have _l_b := _h_b.len
  have _h_b := _h_b.here (by decide)
  have E := Ch.refl [] w
  refine Ctr_of_W (N := 26) (vs0 := [(.slice _A_a a.length _C_a), (.slice _A_b b.length _C_b)]) Try.func13 rfl rfl rfl ?_
  refine W_seq fun _K_1 _hK_1 => ?_
  refine W_region ?_
  refine WL_step rfl rfl (r_assign rfl) ?_
  refine WL_nil ?_
  refine thn_nrm (_hK_1 _ _ ?_)
  clear _hK_1
  refine W_seq fun _K_2 _hK_2 => ?_
  refine W_seq fun _K_3 _hK_3 => ?_
  refine W_region ?_
  refine WL_step rfl rfl (r_move rfl) ?_
  refine WL_step rfl rfl (r_len (by rw [el30]; rfl) rfl) ?_
  refine WL_step rfl rfl (r_move rfl) ?_
  refine WL_step rfl rfl (r_len (by rw [el30]; rfl) rfl) ?_
  refine WL_step rfl rfl (r_neq rfl rfl) ?_
  refine WL_nil ?_
  refine thn_nrm (_hK_3 _ _ ?_)
  clear _hK_3
  refine W_cond rfl (fun _h10 => ?_) (fun _h10 => ?_)
  · have _kb_4 := _h10
    have _h10 := bf_d (bt_n _h10)
    refine W_seq fun _K_5 _hK_5 => ?_
    refine W_region ?_
    refine WL_step rfl rfl (r_assign rfl) ?_
    refine WL_nil ?_
    refine thn_nrm (_hK_5 _ _ ?_)
    clear _hK_5
    refine W_ret (thn_ret ?_)
    clear _hK_2
    exact ret_intro [_] ⟨rfl, trivial⟩ ⟨congrArg Value.bool (decide_eq_false (fun e => _h10 (by rw [e]))).symm, E⟩
  · have _kb_4 := _h10
    have _h10 := bt_d (bf_n _h10)
    refine W_skip ?_
    refine thn_nrm (_hK_2 _ _ ?_)
    clear _hK_2
    refine W_seq fun _K_6 _hK_6 => ?_
    refine W_seq fun _K_7 _hK_7 => ?_
    refine W_region ?_
    refine WL_step rfl rfl (r_assign rfl) ?_
    refine WL_nil ?_
    refine thn_nrm (_hK_7 _ _ ?_)
    clear _hK_7
    refine W_block ?_
    refine W_loop (σ := Nat) (fun (k : Nat) => [(0, (.slice _A_a a.length _C_a)), (1, (.slice _A_b b.length _C_b)), (5, (.int .i64 ((k : Nat) : Int)))]) (fun (k : Nat) wx => Ch [] w wx ∧ w.heap.size ≤ wx.heap.size ∧ (k ≤ a.length) ∧ (a.take k = b.take k)) (fun (k : Nat) => a.length - k) 0 (Sub.cons rfl (Sub.cons rfl (Sub.cons rfl (Sub.nil _)))) ⟨E, (Nat.le_refl _), (by omega), rfl⟩ ?_
    rintro k _wr_8 ⟨E, _zz0, _hk, _ht⟩
    have _E0h := E
    have _E0hz := _E0h.size
    refine W_seq fun _K_9 _hK_9 => ?_
    refine W_seq fun _K_10 _hK_10 => ?_
    refine W_region ?_
    refine WL_step rfl rfl (r_move rfl) ?_
    refine WL_step rfl rfl (r_move rfl) ?_
    refine WL_step rfl rfl (r_len (by rw [el30]; rfl) rfl) ?_
    refine WL_step rfl rfl (r_lss rfl rfl) ?_
    refine WL_nil ?_
    refine thn_nrm (_hK_10 _ _ ?_)
    clear _hK_10
    refine W_cond rfl (fun _h14 => ?_) (fun _h14 => ?_)
    · have _kb_11 := _h14
      have _h14 := bt_d _h14
      refine W_skip ?_
      refine thn_nrm (_hK_9 _ _ ?_)
      clear _hK_9
      refine W_seq fun _K_12 _hK_12 => ?_
      refine W_block ?_
      refine W_seq fun _K_13 _hK_13 => ?_
      refine W_drawC [] 9 mixed rfl fun _w_14 _cw_14 => ?_
      have _cw_14z := _cw_14.size
      have E := E.trans _cw_14
      refine DR_s 0 rfl (by kernel_rfl) rfl rfl (t_v (fun _ => (r_move rfl)) ?_)
      refine DR_s 1 rfl (by kernel_rfl) rfl rfl (t_v (fun _ => (r_move rfl)) ?_)
      have _f_15 := ((_h_a.ch0 _E0h).ch0 _cw_14)
      refine DR_s 2 rfl (by kernel_rfl) rfl rfl (t_index _f_15 ics_len el30 sz3 rfl rfl rfl (by omega) fun _p19 _y19 _hy19 _a19 => ?_)
      refine DR_s 3 rfl (by kernel_rfl) rfl rfl (t_loadAt0 _a19 (fun i hi => absurd hi List.not_mem_nil) agg3 rfl rfl ?_)
      refine DR_s 4 rfl (by kernel_rfl) rfl rfl (t_v (fun _ => (r_move rfl)) ?_)
      refine DR_s 5 rfl (by kernel_rfl) rfl rfl (t_v (fun _ => (r_move rfl)) ?_)
      have _f_16 := ((_h_b.ch0 _E0h).ch0 _cw_14)
      refine DR_s 6 rfl (by kernel_rfl) rfl rfl (t_index _f_16 ics_len el30 sz3 rfl rfl rfl (by omega) fun _p23 _y23 _hy23 _a23 => ?_)
      refine DR_s 7 rfl (by kernel_rfl) rfl rfl (t_loadAt0 _a23 (fun i hi => absurd hi List.not_mem_nil) agg3 rfl rfl ?_)
      refine DR_s 8 rfl (by kernel_rfl) rfl rfl (t_v (fun _ => (r_neq rfl rfl)) ?_)
      refine DR_done (by kernel_rfl) ?_
      refine thn_nrm (_hK_13 _ _ ?_)
      clear _hK_13
      refine W_cond rfl (fun _h25 => ?_) (fun _h25 => ?_)
      · have _kb_17 := _h25
        have _h25 := bf_d (bt_n _h25)
        refine W_seq fun _K_18 _hK_18 => ?_
        refine W_region ?_
        refine WL_step rfl rfl (r_assign rfl) ?_
        refine WL_nil ?_
        refine thn_nrm (_hK_18 _ _ ?_)
        clear _hK_18
        refine W_ret (inB_ret (thn_ret (thn_ret (inB_ret (thn_ret ?_)))))
        clear _hK_6 _hK_12
        exact ret_intro [_] ⟨rfl, trivial⟩ ⟨congrArg Value.bool (decide_eq_false (ne_of_get _hy19 _hy23 _h25)).symm, E⟩
      · have _kb_17 := _h25
        have _h25 := bt_d (bf_n _h25)
        refine W_skip ?_
        refine inB_nrm ?_
        refine thn_nrm (_hK_12 _ _ ?_)
        clear _hK_12
        refine W_region ?_
        refine WL_step rfl rfl (r_move rfl) ?_
        refine WL_step rfl rfl (r_add (by omega) rfl rfl) ?_
        refine WL_step rfl rfl (r_assign rfl) ?_
        refine WL_nil ?_
        exact thn_nrm (Exists.intro (k + 1) ⟨⟨E, (by omega), (by omega), (take_eq_succ _ht _hy19 _hy23 _h25)⟩, Sub.cons rfl (Sub.cons rfl (Sub.cons rfl (Sub.nil _))), (by first | omega | (dsimp only; omega))⟩)
    · have _kb_11 := _h14
      have _h14 := bf_d _h14
      refine W_exit (thn_exit (thn_exit (inB_hit ?_)))
      refine thn_nrm (_hK_6 _ _ ?_)
      clear _hK_6
      refine W_seq fun _K_19 _hK_19 => ?_
      refine W_region ?_
      refine WL_step rfl rfl (r_assign rfl) ?_
      refine WL_nil ?_
      refine thn_nrm (_hK_19 _ _ ?_)
      clear _hK_19
      refine W_ret ?_
      clear _hK_9
      exact ret_intro [_] ⟨rfl, trivial⟩ ⟨congrArg Value.bool (decide_eq_true (eq_of_take _ht (by omega) (by omega))).symm, E⟩

end Go.Proofs.Ytholldndjafnpaa
