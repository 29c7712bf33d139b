/- Walks of functions that FnDerivatives reaches: what each returns, and that it leaves the memory that was there alone. -/
import Derived.Test.YtholldndjafnpaaGreatLibA
import Derived.Test.YtholldndjafnpaaGreatLibB
import Derived.Test.YtholldndjafnpaaGreatWDerivatives
import Derived.Test.YtholldndjafnpaaGreatWDerivativesb
import Derived.Test.YtholldndjafnpaaGreatProg
namespace Go.Proofs.YtholldndjafnpaaGreat
open Go.KLib Go.Shelf
set_option maxHeartbeats 1000000
set_option maxRecDepth 20000
set_option linter.unusedVariables false
set_option linter.unusedSimpArgs false
namespace TDerivativesc
theorem agg24 : aggB Tryz.prog 24 = some false := by kernel_rfl
theorem agg26 : aggB Tryz.prog 26 = some true := by kernel_rfl
theorem agg3 : aggB Tryz.prog 3 = some false := by kernel_rfl
theorem agg52 : aggB Tryz.prog 52 = some true := by kernel_rfl
theorem by52 : bytesB Tryz.prog 52 = some 32 := by kernel_rfl
theorem el24 : elB Tryz.prog 24 = some 52 := by kernel_rfl
theorem fa26_0 : faB Tryz.prog 26 0 = some 0 := by kernel_rfl
theorem fa52_0 : faB Tryz.prog 52 0 = some 0 := by kernel_rfl
theorem fa52_1 : faB Tryz.prog 52 1 = some 1 := by kernel_rfl
theorem fa52_2 : faB Tryz.prog 52 2 = some 2 := by kernel_rfl
theorem fa52_3 : faB Tryz.prog 52 3 = some 3 := by kernel_rfl
theorem fk10 : fnB Tryz.prog 10 = true := by kernel_rfl
theorem fk30 : fnB Tryz.prog 30 = true := by kernel_rfl
theorem fk31 : fnB Tryz.prog 31 = true := by kernel_rfl
theorem fk32 : fnB Tryz.prog 32 = true := by kernel_rfl
theorem fk37 : fnB Tryz.prog 37 = true := by kernel_rfl
theorem fk50 : fnB Tryz.prog 50 = true := by kernel_rfl
theorem fk51 : fnB Tryz.prog 51 = true := by kernel_rfl
theorem fk59 : fnB Tryz.prog 59 = true := by kernel_rfl
theorem fk60 : fnB Tryz.prog 60 = true := by kernel_rfl
theorem fk61 : fnB Tryz.prog 61 = true := by kernel_rfl
theorem fk62 : fnB Tryz.prog 62 = true := by kernel_rfl
theorem fk63 : fnB Tryz.prog 63 = true := by kernel_rfl
theorem fk64 : fnB Tryz.prog 64 = true := by kernel_rfl
theorem fk79 : fnB Tryz.prog 79 = true := by kernel_rfl
theorem fk80 : fnB Tryz.prog 80 = true := by kernel_rfl
theorem ist52 : intStructB Tryz.prog 52 4 = true := by kernel_rfl
theorem mixed : Tryz.prog.follows .mixedOrders = true := by kernel_rfl
theorem pl26 : placesB Tryz.prog 26 = some [(0, 1)] := by kernel_rfl
theorem pl52 : placesB Tryz.prog 52 = some [(0, 1), (1, 1), (2, 1), (3, 1)] := by kernel_rfl
theorem sz24 : sizeB Tryz.prog 24 = some 1 := by kernel_rfl
theorem sz26 : sizeB Tryz.prog 26 = some 1 := by kernel_rfl
theorem sz52 : sizeB Tryz.prog 52 = some 4 := by kernel_rfl
theorem zr26 : zeroB Tryz.prog 26 = some (.agg #[.slice none 0 0]) := by kernel_rfl
theorem zr52 : zeroB Tryz.prog 52 = some (.agg #[.int .i64 0, .int .i64 0, .int .i64 0, .int .i64 0]) := by kernel_rfl
end TDerivativesc
open TDerivativesc

/-- spec.l8Arity -/
theorem c_spec_l8Arity {w : World} (t : Token) :
    Ctr Tryz.prog 50 #[(.agg #[(.int .i64 t.kind), (.int .i64 t.letter), (.int .i64 t.low), (.int .i64 t.high)])] w (fun v w' => v = .int .i64 (arT t) ∧ Ch [] w w') := by
  have E := Ch.refl [] w
  refine Ctr_of_W (N := 87) (vs0 := [(.agg #[(.int .i64 t.kind), (.int .i64 t.letter), (.int .i64 t.low), (.int .i64 t.high)])]) Tryz.func50 rfl rfl rfl ?_
  refine W_seq fun _K_1 _hK_1 => ?_
  refine W_region ?_
  refine WL_s rfl rfl ?_
  refine s_box rfl fun _b1 _w_2 _m1 _cw_2 _e1 => ?_
  have _cw_2z := _cw_2.size
  have E := E.trans _cw_2
  have _z1 := _m1.lt
  replace _m1 : Blk _w_2 _b1 52 [(.int .i64 t.kind), (.int .i64 t.letter), (.int .i64 t.low), (.int .i64 t.high)] := _m1
  refine WL_step rfl rfl (r_assign rfl) ?_
  refine WL_nil ?_
  refine thn_nrm (_hK_1 _ _ ?_)
  clear _hK_1
  refine W_seq fun _K_3 _hK_3 => ?_
  refine W_seq fun _K_4 _hK_4 => ?_
  refine W_region ?_
  refine WL_step rfl rfl (r_fieldAddr fa52_0 rfl) ?_
  refine WL_step rfl rfl (r_loadAt _m1.at_ agg3 rfl rfl) ?_
  refine WL_nil ?_
  refine thn_nrm (_hK_4 _ _ ?_)
  clear _hK_4
  refine W_block ?_
  refine W_seq fun _K_5 _hK_5 => ?_
  refine W_seq fun _K_6 _hK_6 => ?_
  refine W_region ?_
  refine WL_step rfl rfl (r_eql rfl rfl) ?_
  refine WL_step rfl rfl (r_assign rfl) ?_
  refine WL_nil ?_
  refine thn_nrm (_hK_6 _ _ ?_)
  clear _hK_6
  refine W_cond rfl (fun _h5 => ?_) (fun _h5 => ?_)
  · have _kb_7 := _h5
    have _h5 := bt_d _h5
    refine W_skip ?_
    refine thn_nrm (_hK_5 _ _ ?_)
    clear _hK_5
    refine W_condTk rfl _kb_7 ?_
    refine W_seq fun _K_8 _hK_8 => ?_
    refine W_seq fun _K_9 _hK_9 => ?_
    refine W_region ?_
    refine WL_step rfl rfl (r_fieldAddr fa52_1 rfl) ?_
    refine WL_step rfl rfl (r_loadAt _m1.at_ agg3 rfl rfl) ?_
    refine WL_step rfl rfl (r_neq rfl rfl) ?_
    refine WL_step rfl rfl (r_move rfl) ?_
    refine WL_split (d := 11) rfl (fun _h11 => ?_) (fun _h11 => ?_)
    · have _kb_10 := _h11
      have _h11 := bf_d (bt_n _h11)
      refine WL_skip rfl rfl ?_
      refine WL_skip rfl rfl ?_
      refine WL_skip rfl rfl ?_
      refine WL_step rfl rfl (r_pickT rfl rfl) ?_
      refine WL_step rfl rfl (r_move rfl) ?_
      refine WL_skip rfl rfl ?_
      refine WL_skip rfl rfl ?_
      refine WL_skip rfl rfl ?_
      refine WL_step rfl rfl (r_pickT rfl rfl) ?_
      refine WL_nil ?_
      refine thn_nrm (_hK_9 _ _ ?_)
      clear _hK_9
      refine W_condT rfl ?_
      refine W_seq fun _K_11 _hK_11 => ?_
      refine W_region ?_
      refine WL_step rfl rfl (r_assign rfl) ?_
      refine WL_nil ?_
      refine thn_nrm (_hK_11 _ _ ?_)
      clear _hK_11
      refine W_ret (thn_ret (inB_ret (thn_ret ?_)))
      clear _hK_3 _hK_8
      exact ret_intro [_] ⟨rfl, trivial⟩ ⟨congrArg (Value.int .i64) (by unfold arT; repeat (first | rw [if_pos (by omega)] | rw [if_neg (by omega)])), E⟩
    · have _kb_10 := _h11
      have _h11 := bt_d (bf_n _h11)
      refine WL_step rfl rfl (r_fieldAddr fa52_2 rfl) ?_
      refine WL_step rfl rfl (r_loadAt _m1.at_ agg3 rfl rfl) ?_
      refine WL_step rfl rfl (r_neq rfl rfl) ?_
      refine WL_step rfl rfl (r_pickF rfl rfl) ?_
      refine WL_step rfl rfl (r_move rfl) ?_
      refine WL_split (d := 16) rfl (fun _h16 => ?_) (fun _h16 => ?_)
      · have _kb_12 := _h16
        have _h16 := bf_d (bt_n _h16)
        refine WL_skip rfl rfl ?_
        refine WL_skip rfl rfl ?_
        refine WL_skip rfl rfl ?_
        refine WL_step rfl rfl (r_pickT rfl rfl) ?_
        refine WL_nil ?_
        refine thn_nrm (_hK_9 _ _ ?_)
        clear _hK_9
        refine W_condT rfl ?_
        refine W_seq fun _K_13 _hK_13 => ?_
        refine W_region ?_
        refine WL_step rfl rfl (r_assign rfl) ?_
        refine WL_nil ?_
        refine thn_nrm (_hK_13 _ _ ?_)
        clear _hK_13
        refine W_ret (thn_ret (inB_ret (thn_ret ?_)))
        clear _hK_3 _hK_8
        exact ret_intro [_] ⟨rfl, trivial⟩ ⟨congrArg (Value.int .i64) (by unfold arT; repeat (first | rw [if_pos (by omega)] | rw [if_neg (by omega)])), E⟩
      · have _kb_12 := _h16
        have _h16 := bt_d (bf_n _h16)
        refine WL_step rfl rfl (r_fieldAddr fa52_3 rfl) ?_
        refine WL_step rfl rfl (r_loadAt _m1.at_ agg3 rfl rfl) ?_
        refine WL_step rfl rfl (r_neq rfl rfl) ?_
        refine WL_step rfl rfl (r_pickF rfl rfl) ?_
        refine WL_nil ?_
        refine thn_nrm (_hK_9 _ _ ?_)
        clear _hK_9
        refine W_cond rfl (fun _h20 => ?_) (fun _h20 => ?_)
        · have _kb_14 := _h20
          have _h20 := bf_d (bt_n _h20)
          refine W_seq fun _K_15 _hK_15 => ?_
          refine W_region ?_
          refine WL_step rfl rfl (r_assign rfl) ?_
          refine WL_nil ?_
          refine thn_nrm (_hK_15 _ _ ?_)
          clear _hK_15
          refine W_ret (thn_ret (inB_ret (thn_ret ?_)))
          clear _hK_3 _hK_8
          exact ret_intro [_] ⟨rfl, trivial⟩ ⟨congrArg (Value.int .i64) (by unfold arT; repeat (first | rw [if_pos (by omega)] | rw [if_neg (by omega)])), E⟩
        · have _kb_14 := _h20
          have _h20 := bt_d (bf_n _h20)
          refine W_skip ?_
          refine thn_nrm (_hK_8 _ _ ?_)
          clear _hK_8
          refine W_seq fun _K_16 _hK_16 => ?_
          refine W_region ?_
          refine WL_step rfl rfl (r_assign rfl) ?_
          refine WL_nil ?_
          refine thn_nrm (_hK_16 _ _ ?_)
          clear _hK_16
          refine W_ret (inB_ret (thn_ret ?_))
          clear _hK_3
          exact ret_intro [_] ⟨rfl, trivial⟩ ⟨congrArg (Value.int .i64) (by unfold arT; repeat (first | rw [if_pos (by omega)] | rw [if_neg (by omega)])), E⟩
  · have _kb_7 := _h5
    have _h5 := bf_d _h5
    refine W_region ?_
    refine WL_step rfl rfl (r_eql rfl rfl) ?_
    refine WL_step rfl rfl (r_assign rfl) ?_
    refine WL_nil ?_
    refine thn_nrm (_hK_5 _ _ ?_)
    clear _hK_5
    refine W_cond rfl (fun _h5 => ?_) (fun _h5 => ?_)
    · have _kb_17 := _h5
      have _h5 := bt_d _h5
      refine W_seq fun _K_18 _hK_18 => ?_
      refine W_seq fun _K_19 _hK_19 => ?_
      refine W_region ?_
      refine WL_step rfl rfl (r_fieldAddr fa52_1 rfl) ?_
      refine WL_step rfl rfl (r_loadAt _m1.at_ agg3 rfl rfl) ?_
      refine WL_step rfl rfl (r_neq rfl rfl) ?_
      refine WL_step rfl rfl (r_move rfl) ?_
      refine WL_split (d := 11) rfl (fun _h11 => ?_) (fun _h11 => ?_)
      · have _kb_20 := _h11
        have _h11 := bf_d (bt_n _h11)
        refine WL_skip rfl rfl ?_
        refine WL_skip rfl rfl ?_
        refine WL_skip rfl rfl ?_
        refine WL_step rfl rfl (r_pickT rfl rfl) ?_
        refine WL_step rfl rfl (r_move rfl) ?_
        refine WL_skip rfl rfl ?_
        refine WL_skip rfl rfl ?_
        refine WL_skip rfl rfl ?_
        refine WL_step rfl rfl (r_pickT rfl rfl) ?_
        refine WL_nil ?_
        refine thn_nrm (_hK_19 _ _ ?_)
        clear _hK_19
        refine W_condT rfl ?_
        refine W_seq fun _K_21 _hK_21 => ?_
        refine W_region ?_
        refine WL_step rfl rfl (r_assign rfl) ?_
        refine WL_nil ?_
        refine thn_nrm (_hK_21 _ _ ?_)
        clear _hK_21
        refine W_ret (thn_ret (inB_ret (thn_ret ?_)))
        clear _hK_3 _hK_18
        exact ret_intro [_] ⟨rfl, trivial⟩ ⟨congrArg (Value.int .i64) (by unfold arT; repeat (first | rw [if_pos (by omega)] | rw [if_neg (by omega)])), E⟩
      · have _kb_20 := _h11
        have _h11 := bt_d (bf_n _h11)
        refine WL_step rfl rfl (r_fieldAddr fa52_2 rfl) ?_
        refine WL_step rfl rfl (r_loadAt _m1.at_ agg3 rfl rfl) ?_
        refine WL_step rfl rfl (r_neq rfl rfl) ?_
        refine WL_step rfl rfl (r_pickF rfl rfl) ?_
        refine WL_step rfl rfl (r_move rfl) ?_
        refine WL_split (d := 16) rfl (fun _h16 => ?_) (fun _h16 => ?_)
        · have _kb_22 := _h16
          have _h16 := bf_d (bt_n _h16)
          refine WL_skip rfl rfl ?_
          refine WL_skip rfl rfl ?_
          refine WL_skip rfl rfl ?_
          refine WL_step rfl rfl (r_pickT rfl rfl) ?_
          refine WL_nil ?_
          refine thn_nrm (_hK_19 _ _ ?_)
          clear _hK_19
          refine W_condT rfl ?_
          refine W_seq fun _K_23 _hK_23 => ?_
          refine W_region ?_
          refine WL_step rfl rfl (r_assign rfl) ?_
          refine WL_nil ?_
          refine thn_nrm (_hK_23 _ _ ?_)
          clear _hK_23
          refine W_ret (thn_ret (inB_ret (thn_ret ?_)))
          clear _hK_3 _hK_18
          exact ret_intro [_] ⟨rfl, trivial⟩ ⟨congrArg (Value.int .i64) (by unfold arT; repeat (first | rw [if_pos (by omega)] | rw [if_neg (by omega)])), E⟩
        · have _kb_22 := _h16
          have _h16 := bt_d (bf_n _h16)
          refine WL_step rfl rfl (r_fieldAddr fa52_3 rfl) ?_
          refine WL_step rfl rfl (r_loadAt _m1.at_ agg3 rfl rfl) ?_
          refine WL_step rfl rfl (r_neq rfl rfl) ?_
          refine WL_step rfl rfl (r_pickF rfl rfl) ?_
          refine WL_nil ?_
          refine thn_nrm (_hK_19 _ _ ?_)
          clear _hK_19
          refine W_cond rfl (fun _h20 => ?_) (fun _h20 => ?_)
          · have _kb_24 := _h20
            have _h20 := bf_d (bt_n _h20)
            refine W_seq fun _K_25 _hK_25 => ?_
            refine W_region ?_
            refine WL_step rfl rfl (r_assign rfl) ?_
            refine WL_nil ?_
            refine thn_nrm (_hK_25 _ _ ?_)
            clear _hK_25
            refine W_ret (thn_ret (inB_ret (thn_ret ?_)))
            clear _hK_3 _hK_18
            exact ret_intro [_] ⟨rfl, trivial⟩ ⟨congrArg (Value.int .i64) (by unfold arT; repeat (first | rw [if_pos (by omega)] | rw [if_neg (by omega)])), E⟩
          · have _kb_24 := _h20
            have _h20 := bt_d (bf_n _h20)
            refine W_skip ?_
            refine thn_nrm (_hK_18 _ _ ?_)
            clear _hK_18
            refine W_seq fun _K_26 _hK_26 => ?_
            refine W_region ?_
            refine WL_step rfl rfl (r_assign rfl) ?_
            refine WL_nil ?_
            refine thn_nrm (_hK_26 _ _ ?_)
            clear _hK_26
            refine W_ret (inB_ret (thn_ret ?_))
            clear _hK_3
            exact ret_intro [_] ⟨rfl, trivial⟩ ⟨congrArg (Value.int .i64) (by unfold arT; repeat (first | rw [if_pos (by omega)] | rw [if_neg (by omega)])), E⟩
    · have _kb_17 := _h5
      have _h5 := bf_d _h5
      refine W_seq fun _K_27 _hK_27 => ?_
      refine W_region ?_
      refine WL_step rfl rfl (r_eql rfl rfl) ?_
      refine WL_step rfl rfl (r_assign rfl) ?_
      refine WL_nil ?_
      refine thn_nrm (_hK_27 _ _ ?_)
      clear _hK_27
      refine W_cond rfl (fun _h21 => ?_) (fun _h21 => ?_)
      · have _kb_28 := _h21
        have _h21 := bt_d _h21
        refine W_seq fun _K_29 _hK_29 => ?_
        refine W_seq fun _K_30 _hK_30 => ?_
        refine W_region ?_
        refine WL_step rfl rfl (r_fieldAddr fa52_1 rfl) ?_
        refine WL_step rfl rfl (r_loadAt _m1.at_ agg3 rfl rfl) ?_
        refine WL_s rfl rfl ?_
        refine Step.call (r_call (xs := [.tmp 24]) fk32 rfl) (c_spec_l2Letter _ ) fun _v25 _w_31 _q25 => ?_
        obtain ⟨rfl, _cw_31⟩ := _q25
        have _cw_31z := _cw_31.size
        have E := E.trans _cw_31
        refine WL_step rfl rfl (r_not rfl) ?_
        refine WL_step rfl rfl (r_move rfl) ?_
        refine WL_split (d := 27) rfl (fun _h27 => ?_) (fun _h27 => ?_)
        · have _kb_32 := _h27
          have _h27 := bf_d (bt_n _h27)
          refine WL_skip rfl rfl ?_
          refine WL_skip rfl rfl ?_
          refine WL_skip rfl rfl ?_
          refine WL_step rfl rfl (r_pickT rfl rfl) ?_
          refine WL_step rfl rfl (r_move rfl) ?_
          refine WL_skip rfl rfl ?_
          refine WL_skip rfl rfl ?_
          refine WL_skip rfl rfl ?_
          refine WL_step rfl rfl (r_pickT rfl rfl) ?_
          refine WL_nil ?_
          refine thn_nrm (_hK_30 _ _ ?_)
          clear _hK_30
          refine W_condT rfl ?_
          refine W_seq fun _K_33 _hK_33 => ?_
          refine W_region ?_
          refine WL_step rfl rfl (r_assign rfl) ?_
          refine WL_nil ?_
          refine thn_nrm (_hK_33 _ _ ?_)
          clear _hK_33
          refine W_ret (thn_ret (inB_ret (thn_ret ?_)))
          clear _hK_3 _hK_29
          exact ret_intro [_] ⟨rfl, trivial⟩ ⟨congrArg (Value.int .i64) (by unfold arT; repeat (first | rw [if_pos (by omega)] | rw [if_neg (by omega)])), E⟩
        · have _kb_32 := _h27
          have _h27 := bt_d (bf_n _h27)
          refine WL_step rfl rfl (r_fieldAddr fa52_2 rfl) ?_
          have _f_34 := (_m1.ch0 _cw_31)
          refine WL_step rfl rfl (r_loadAt _f_34.at_ agg3 rfl rfl) ?_
          refine WL_step rfl rfl (r_neq rfl rfl) ?_
          refine WL_step rfl rfl (r_pickF rfl rfl) ?_
          refine WL_step rfl rfl (r_move rfl) ?_
          refine WL_split (d := 32) rfl (fun _h32 => ?_) (fun _h32 => ?_)
          · have _kb_35 := _h32
            have _h32 := bf_d (bt_n _h32)
            refine WL_skip rfl rfl ?_
            refine WL_skip rfl rfl ?_
            refine WL_skip rfl rfl ?_
            refine WL_step rfl rfl (r_pickT rfl rfl) ?_
            refine WL_nil ?_
            refine thn_nrm (_hK_30 _ _ ?_)
            clear _hK_30
            refine W_condT rfl ?_
            refine W_seq fun _K_36 _hK_36 => ?_
            refine W_region ?_
            refine WL_step rfl rfl (r_assign rfl) ?_
            refine WL_nil ?_
            refine thn_nrm (_hK_36 _ _ ?_)
            clear _hK_36
            refine W_ret (thn_ret (inB_ret (thn_ret ?_)))
            clear _hK_3 _hK_29
            exact ret_intro [_] ⟨rfl, trivial⟩ ⟨congrArg (Value.int .i64) (by unfold arT; repeat (first | rw [if_pos (by omega)] | rw [if_neg (by omega)])), E⟩
          · have _kb_35 := _h32
            have _h32 := bt_d (bf_n _h32)
            refine WL_step rfl rfl (r_fieldAddr fa52_3 rfl) ?_
            refine WL_step rfl rfl (r_loadAt _f_34.at_ agg3 rfl rfl) ?_
            refine WL_step rfl rfl (r_neq rfl rfl) ?_
            refine WL_step rfl rfl (r_pickF rfl rfl) ?_
            refine WL_nil ?_
            refine thn_nrm (_hK_30 _ _ ?_)
            clear _hK_30
            refine W_cond rfl (fun _h36 => ?_) (fun _h36 => ?_)
            · have _kb_37 := _h36
              have _h36 := bf_d (bt_n _h36)
              refine W_seq fun _K_38 _hK_38 => ?_
              refine W_region ?_
              refine WL_step rfl rfl (r_assign rfl) ?_
              refine WL_nil ?_
              refine thn_nrm (_hK_38 _ _ ?_)
              clear _hK_38
              refine W_ret (thn_ret (inB_ret (thn_ret ?_)))
              clear _hK_3 _hK_29
              exact ret_intro [_] ⟨rfl, trivial⟩ ⟨congrArg (Value.int .i64) (by unfold arT; repeat (first | rw [if_pos (by omega)] | rw [if_neg (by omega)])), E⟩
            · have _kb_37 := _h36
              have _h36 := bt_d (bf_n _h36)
              refine W_skip ?_
              refine thn_nrm (_hK_29 _ _ ?_)
              clear _hK_29
              refine W_seq fun _K_39 _hK_39 => ?_
              refine W_region ?_
              refine WL_step rfl rfl (r_assign rfl) ?_
              refine WL_nil ?_
              refine thn_nrm (_hK_39 _ _ ?_)
              clear _hK_39
              refine W_ret (inB_ret (thn_ret ?_))
              clear _hK_3
              exact ret_intro [_] ⟨rfl, trivial⟩ ⟨congrArg (Value.int .i64) (by unfold arT; repeat (first | rw [if_pos (by omega)] | rw [if_neg (by omega)])), E⟩
      · have _kb_28 := _h21
        have _h21 := bf_d _h21
        refine W_seq fun _K_40 _hK_40 => ?_
        refine W_seq fun _K_41 _hK_41 => ?_
        refine W_region ?_
        refine WL_step rfl rfl (r_eql rfl rfl) ?_
        refine WL_step rfl rfl (r_assign rfl) ?_
        refine WL_nil ?_
        refine thn_nrm (_hK_41 _ _ ?_)
        clear _hK_41
        refine W_cond rfl (fun _h37 => ?_) (fun _h37 => ?_)
        · have _kb_42 := _h37
          have _h37 := bt_d _h37
          refine W_skip ?_
          refine thn_nrm (_hK_40 _ _ ?_)
          clear _hK_40
          refine W_condTk rfl _kb_42 ?_
          refine W_seq fun _K_43 _hK_43 => ?_
          refine W_seq fun _K_44 _hK_44 => ?_
          refine W_region ?_
          refine WL_step rfl rfl (r_fieldAddr fa52_1 rfl) ?_
          refine WL_step rfl rfl (r_loadAt _m1.at_ agg3 rfl rfl) ?_
          refine WL_step rfl rfl (r_neq rfl rfl) ?_
          refine WL_step rfl rfl (r_move rfl) ?_
          refine WL_split (d := 43) rfl (fun _h43 => ?_) (fun _h43 => ?_)
          · have _kb_45 := _h43
            have _h43 := bf_d (bt_n _h43)
            refine WL_skip rfl rfl ?_
            refine WL_skip rfl rfl ?_
            refine WL_skip rfl rfl ?_
            refine WL_step rfl rfl (r_pickT rfl rfl) ?_
            refine WL_step rfl rfl (r_move rfl) ?_
            refine WL_skip rfl rfl ?_
            refine WL_skip rfl rfl ?_
            refine WL_skip rfl rfl ?_
            refine WL_step rfl rfl (r_pickT rfl rfl) ?_
            refine WL_nil ?_
            refine thn_nrm (_hK_44 _ _ ?_)
            clear _hK_44
            refine W_condT rfl ?_
            refine W_seq fun _K_46 _hK_46 => ?_
            refine W_region ?_
            refine WL_step rfl rfl (r_assign rfl) ?_
            refine WL_nil ?_
            refine thn_nrm (_hK_46 _ _ ?_)
            clear _hK_46
            refine W_ret (thn_ret (inB_ret (thn_ret ?_)))
            clear _hK_3 _hK_43
            exact ret_intro [_] ⟨rfl, trivial⟩ ⟨congrArg (Value.int .i64) (by unfold arT; repeat (first | rw [if_pos (by omega)] | rw [if_neg (by omega)])), E⟩
          · have _kb_45 := _h43
            have _h43 := bt_d (bf_n _h43)
            refine WL_step rfl rfl (r_fieldAddr fa52_2 rfl) ?_
            refine WL_step rfl rfl (r_loadAt _m1.at_ agg3 rfl rfl) ?_
            refine WL_step rfl rfl (r_neq rfl rfl) ?_
            refine WL_step rfl rfl (r_pickF rfl rfl) ?_
            refine WL_step rfl rfl (r_move rfl) ?_
            refine WL_split (d := 48) rfl (fun _h48 => ?_) (fun _h48 => ?_)
            · have _kb_47 := _h48
              have _h48 := bf_d (bt_n _h48)
              refine WL_skip rfl rfl ?_
              refine WL_skip rfl rfl ?_
              refine WL_skip rfl rfl ?_
              refine WL_step rfl rfl (r_pickT rfl rfl) ?_
              refine WL_nil ?_
              refine thn_nrm (_hK_44 _ _ ?_)
              clear _hK_44
              refine W_condT rfl ?_
              refine W_seq fun _K_48 _hK_48 => ?_
              refine W_region ?_
              refine WL_step rfl rfl (r_assign rfl) ?_
              refine WL_nil ?_
              refine thn_nrm (_hK_48 _ _ ?_)
              clear _hK_48
              refine W_ret (thn_ret (inB_ret (thn_ret ?_)))
              clear _hK_3 _hK_43
              exact ret_intro [_] ⟨rfl, trivial⟩ ⟨congrArg (Value.int .i64) (by unfold arT; repeat (first | rw [if_pos (by omega)] | rw [if_neg (by omega)])), E⟩
            · have _kb_47 := _h48
              have _h48 := bt_d (bf_n _h48)
              refine WL_step rfl rfl (r_fieldAddr fa52_3 rfl) ?_
              refine WL_step rfl rfl (r_loadAt _m1.at_ agg3 rfl rfl) ?_
              refine WL_step rfl rfl (r_neq rfl rfl) ?_
              refine WL_step rfl rfl (r_pickF rfl rfl) ?_
              refine WL_nil ?_
              refine thn_nrm (_hK_44 _ _ ?_)
              clear _hK_44
              refine W_cond rfl (fun _h52 => ?_) (fun _h52 => ?_)
              · have _kb_49 := _h52
                have _h52 := bf_d (bt_n _h52)
                refine W_seq fun _K_50 _hK_50 => ?_
                refine W_region ?_
                refine WL_step rfl rfl (r_assign rfl) ?_
                refine WL_nil ?_
                refine thn_nrm (_hK_50 _ _ ?_)
                clear _hK_50
                refine W_ret (thn_ret (inB_ret (thn_ret ?_)))
                clear _hK_3 _hK_43
                exact ret_intro [_] ⟨rfl, trivial⟩ ⟨congrArg (Value.int .i64) (by unfold arT; repeat (first | rw [if_pos (by omega)] | rw [if_neg (by omega)])), E⟩
              · have _kb_49 := _h52
                have _h52 := bt_d (bf_n _h52)
                refine W_skip ?_
                refine thn_nrm (_hK_43 _ _ ?_)
                clear _hK_43
                refine W_seq fun _K_51 _hK_51 => ?_
                refine W_region ?_
                refine WL_step rfl rfl (r_assign rfl) ?_
                refine WL_nil ?_
                refine thn_nrm (_hK_51 _ _ ?_)
                clear _hK_51
                refine W_ret (inB_ret (thn_ret ?_))
                clear _hK_3
                exact ret_intro [_] ⟨rfl, trivial⟩ ⟨congrArg (Value.int .i64) (by unfold arT; repeat (first | rw [if_pos (by omega)] | rw [if_neg (by omega)])), E⟩
        · have _kb_42 := _h37
          have _h37 := bf_d _h37
          refine W_region ?_
          refine WL_step rfl rfl (r_eql rfl rfl) ?_
          refine WL_step rfl rfl (r_assign rfl) ?_
          refine WL_nil ?_
          refine thn_nrm (_hK_40 _ _ ?_)
          clear _hK_40
          refine W_cond rfl (fun _h37 => ?_) (fun _h37 => ?_)
          · have _kb_52 := _h37
            have _h37 := bt_d _h37
            refine W_seq fun _K_53 _hK_53 => ?_
            refine W_seq fun _K_54 _hK_54 => ?_
            refine W_region ?_
            refine WL_step rfl rfl (r_fieldAddr fa52_1 rfl) ?_
            refine WL_step rfl rfl (r_loadAt _m1.at_ agg3 rfl rfl) ?_
            refine WL_step rfl rfl (r_neq rfl rfl) ?_
            refine WL_step rfl rfl (r_move rfl) ?_
            refine WL_split (d := 43) rfl (fun _h43 => ?_) (fun _h43 => ?_)
            · have _kb_55 := _h43
              have _h43 := bf_d (bt_n _h43)
              refine WL_skip rfl rfl ?_
              refine WL_skip rfl rfl ?_
              refine WL_skip rfl rfl ?_
              refine WL_step rfl rfl (r_pickT rfl rfl) ?_
              refine WL_step rfl rfl (r_move rfl) ?_
              refine WL_skip rfl rfl ?_
              refine WL_skip rfl rfl ?_
              refine WL_skip rfl rfl ?_
              refine WL_step rfl rfl (r_pickT rfl rfl) ?_
              refine WL_nil ?_
              refine thn_nrm (_hK_54 _ _ ?_)
              clear _hK_54
              refine W_condT rfl ?_
              refine W_seq fun _K_56 _hK_56 => ?_
              refine W_region ?_
              refine WL_step rfl rfl (r_assign rfl) ?_
              refine WL_nil ?_
              refine thn_nrm (_hK_56 _ _ ?_)
              clear _hK_56
              refine W_ret (thn_ret (inB_ret (thn_ret ?_)))
              clear _hK_3 _hK_53
              exact ret_intro [_] ⟨rfl, trivial⟩ ⟨congrArg (Value.int .i64) (by unfold arT; repeat (first | rw [if_pos (by omega)] | rw [if_neg (by omega)])), E⟩
            · have _kb_55 := _h43
              have _h43 := bt_d (bf_n _h43)
              refine WL_step rfl rfl (r_fieldAddr fa52_2 rfl) ?_
              refine WL_step rfl rfl (r_loadAt _m1.at_ agg3 rfl rfl) ?_
              refine WL_step rfl rfl (r_neq rfl rfl) ?_
              refine WL_step rfl rfl (r_pickF rfl rfl) ?_
              refine WL_step rfl rfl (r_move rfl) ?_
              refine WL_split (d := 48) rfl (fun _h48 => ?_) (fun _h48 => ?_)
              · have _kb_57 := _h48
                have _h48 := bf_d (bt_n _h48)
                refine WL_skip rfl rfl ?_
                refine WL_skip rfl rfl ?_
                refine WL_skip rfl rfl ?_
                refine WL_step rfl rfl (r_pickT rfl rfl) ?_
                refine WL_nil ?_
                refine thn_nrm (_hK_54 _ _ ?_)
                clear _hK_54
                refine W_condT rfl ?_
                refine W_seq fun _K_58 _hK_58 => ?_
                refine W_region ?_
                refine WL_step rfl rfl (r_assign rfl) ?_
                refine WL_nil ?_
                refine thn_nrm (_hK_58 _ _ ?_)
                clear _hK_58
                refine W_ret (thn_ret (inB_ret (thn_ret ?_)))
                clear _hK_3 _hK_53
                exact ret_intro [_] ⟨rfl, trivial⟩ ⟨congrArg (Value.int .i64) (by unfold arT; repeat (first | rw [if_pos (by omega)] | rw [if_neg (by omega)])), E⟩
              · have _kb_57 := _h48
                have _h48 := bt_d (bf_n _h48)
                refine WL_step rfl rfl (r_fieldAddr fa52_3 rfl) ?_
                refine WL_step rfl rfl (r_loadAt _m1.at_ agg3 rfl rfl) ?_
                refine WL_step rfl rfl (r_neq rfl rfl) ?_
                refine WL_step rfl rfl (r_pickF rfl rfl) ?_
                refine WL_nil ?_
                refine thn_nrm (_hK_54 _ _ ?_)
                clear _hK_54
                refine W_cond rfl (fun _h52 => ?_) (fun _h52 => ?_)
                · have _kb_59 := _h52
                  have _h52 := bf_d (bt_n _h52)
                  refine W_seq fun _K_60 _hK_60 => ?_
                  refine W_region ?_
                  refine WL_step rfl rfl (r_assign rfl) ?_
                  refine WL_nil ?_
                  refine thn_nrm (_hK_60 _ _ ?_)
                  clear _hK_60
                  refine W_ret (thn_ret (inB_ret (thn_ret ?_)))
                  clear _hK_3 _hK_53
                  exact ret_intro [_] ⟨rfl, trivial⟩ ⟨congrArg (Value.int .i64) (by unfold arT; repeat (first | rw [if_pos (by omega)] | rw [if_neg (by omega)])), E⟩
                · have _kb_59 := _h52
                  have _h52 := bt_d (bf_n _h52)
                  refine W_skip ?_
                  refine thn_nrm (_hK_53 _ _ ?_)
                  clear _hK_53
                  refine W_seq fun _K_61 _hK_61 => ?_
                  refine W_region ?_
                  refine WL_step rfl rfl (r_assign rfl) ?_
                  refine WL_nil ?_
                  refine thn_nrm (_hK_61 _ _ ?_)
                  clear _hK_61
                  refine W_ret (inB_ret (thn_ret ?_))
                  clear _hK_3
                  exact ret_intro [_] ⟨rfl, trivial⟩ ⟨congrArg (Value.int .i64) (by unfold arT; repeat (first | rw [if_pos (by omega)] | rw [if_neg (by omega)])), E⟩
          · have _kb_52 := _h37
            have _h37 := bf_d _h37
            refine W_seq fun _K_62 _hK_62 => ?_
            refine W_region ?_
            refine WL_step rfl rfl (r_eql rfl rfl) ?_
            refine WL_step rfl rfl (r_assign rfl) ?_
            refine WL_nil ?_
            refine thn_nrm (_hK_62 _ _ ?_)
            clear _hK_62
            refine W_cond rfl (fun _h53 => ?_) (fun _h53 => ?_)
            · have _kb_63 := _h53
              have _h53 := bt_d _h53
              refine W_seq fun _K_64 _hK_64 => ?_
              refine W_seq fun _K_65 _hK_65 => ?_
              refine W_region ?_
              refine WL_step rfl rfl (r_fieldAddr fa52_1 rfl) ?_
              refine WL_step rfl rfl (r_loadAt _m1.at_ agg3 rfl rfl) ?_
              refine WL_step rfl rfl (r_neq rfl rfl) ?_
              refine WL_step rfl rfl (r_move rfl) ?_
              refine WL_split (d := 58) rfl (fun _h58 => ?_) (fun _h58 => ?_)
              · have _kb_66 := _h58
                have _h58 := bf_d (bt_n _h58)
                refine WL_skip rfl rfl ?_
                refine WL_skip rfl rfl ?_
                refine WL_skip rfl rfl ?_
                refine WL_step rfl rfl (r_pickT rfl rfl) ?_
                refine WL_step rfl rfl (r_move rfl) ?_
                refine WL_skip rfl rfl ?_
                refine WL_skip rfl rfl ?_
                refine WL_skip rfl rfl ?_
                refine WL_step rfl rfl (r_pickT rfl rfl) ?_
                refine WL_nil ?_
                refine thn_nrm (_hK_65 _ _ ?_)
                clear _hK_65
                refine W_condT rfl ?_
                refine W_seq fun _K_67 _hK_67 => ?_
                refine W_region ?_
                refine WL_step rfl rfl (r_assign rfl) ?_
                refine WL_nil ?_
                refine thn_nrm (_hK_67 _ _ ?_)
                clear _hK_67
                refine W_ret (thn_ret (inB_ret (thn_ret ?_)))
                clear _hK_3 _hK_64
                exact ret_intro [_] ⟨rfl, trivial⟩ ⟨congrArg (Value.int .i64) (by unfold arT; repeat (first | rw [if_pos (by omega)] | rw [if_neg (by omega)])), E⟩
              · have _kb_66 := _h58
                have _h58 := bt_d (bf_n _h58)
                refine WL_step rfl rfl (r_fieldAddr fa52_2 rfl) ?_
                refine WL_step rfl rfl (r_loadAt _m1.at_ agg3 rfl rfl) ?_
                refine WL_step rfl rfl (r_neq rfl rfl) ?_
                refine WL_step rfl rfl (r_pickF rfl rfl) ?_
                refine WL_step rfl rfl (r_move rfl) ?_
                refine WL_split (d := 63) rfl (fun _h63 => ?_) (fun _h63 => ?_)
                · have _kb_68 := _h63
                  have _h63 := bf_d (bt_n _h63)
                  refine WL_skip rfl rfl ?_
                  refine WL_skip rfl rfl ?_
                  refine WL_skip rfl rfl ?_
                  refine WL_step rfl rfl (r_pickT rfl rfl) ?_
                  refine WL_nil ?_
                  refine thn_nrm (_hK_65 _ _ ?_)
                  clear _hK_65
                  refine W_condT rfl ?_
                  refine W_seq fun _K_69 _hK_69 => ?_
                  refine W_region ?_
                  refine WL_step rfl rfl (r_assign rfl) ?_
                  refine WL_nil ?_
                  refine thn_nrm (_hK_69 _ _ ?_)
                  clear _hK_69
                  refine W_ret (thn_ret (inB_ret (thn_ret ?_)))
                  clear _hK_3 _hK_64
                  exact ret_intro [_] ⟨rfl, trivial⟩ ⟨congrArg (Value.int .i64) (by unfold arT; repeat (first | rw [if_pos (by omega)] | rw [if_neg (by omega)])), E⟩
                · have _kb_68 := _h63
                  have _h63 := bt_d (bf_n _h63)
                  refine WL_step rfl rfl (r_fieldAddr fa52_3 rfl) ?_
                  refine WL_step rfl rfl (r_loadAt _m1.at_ agg3 rfl rfl) ?_
                  refine WL_step rfl rfl (r_neq rfl rfl) ?_
                  refine WL_step rfl rfl (r_pickF rfl rfl) ?_
                  refine WL_nil ?_
                  refine thn_nrm (_hK_65 _ _ ?_)
                  clear _hK_65
                  refine W_cond rfl (fun _h67 => ?_) (fun _h67 => ?_)
                  · have _kb_70 := _h67
                    have _h67 := bf_d (bt_n _h67)
                    refine W_seq fun _K_71 _hK_71 => ?_
                    refine W_region ?_
                    refine WL_step rfl rfl (r_assign rfl) ?_
                    refine WL_nil ?_
                    refine thn_nrm (_hK_71 _ _ ?_)
                    clear _hK_71
                    refine W_ret (thn_ret (inB_ret (thn_ret ?_)))
                    clear _hK_3 _hK_64
                    exact ret_intro [_] ⟨rfl, trivial⟩ ⟨congrArg (Value.int .i64) (by unfold arT; repeat (first | rw [if_pos (by omega)] | rw [if_neg (by omega)])), E⟩
                  · have _kb_70 := _h67
                    have _h67 := bt_d (bf_n _h67)
                    refine W_skip ?_
                    refine thn_nrm (_hK_64 _ _ ?_)
                    clear _hK_64
                    refine W_seq fun _K_72 _hK_72 => ?_
                    refine W_region ?_
                    refine WL_step rfl rfl (r_assign rfl) ?_
                    refine WL_nil ?_
                    refine thn_nrm (_hK_72 _ _ ?_)
                    clear _hK_72
                    refine W_ret (inB_ret (thn_ret ?_))
                    clear _hK_3
                    exact ret_intro [_] ⟨rfl, trivial⟩ ⟨congrArg (Value.int .i64) (by unfold arT; repeat (first | rw [if_pos (by omega)] | rw [if_neg (by omega)])), E⟩
            · have _kb_63 := _h53
              have _h53 := bf_d _h53
              refine W_seq fun _K_73 _hK_73 => ?_
              refine W_region ?_
              refine WL_step rfl rfl (r_eql rfl rfl) ?_
              refine WL_step rfl rfl (r_assign rfl) ?_
              refine WL_nil ?_
              refine thn_nrm (_hK_73 _ _ ?_)
              clear _hK_73
              refine W_cond rfl (fun _h68 => ?_) (fun _h68 => ?_)
              · have _kb_74 := _h68
                have _h68 := bt_d _h68
                refine W_seq fun _K_75 _hK_75 => ?_
                refine W_seq fun _K_76 _hK_76 => ?_
                refine W_region ?_
                refine WL_step rfl rfl (r_fieldAddr fa52_1 rfl) ?_
                refine WL_step rfl rfl (r_loadAt _m1.at_ agg3 rfl rfl) ?_
                refine WL_step rfl rfl (r_neq rfl rfl) ?_
                refine WL_step rfl rfl (r_move rfl) ?_
                refine WL_split (d := 73) rfl (fun _h73 => ?_) (fun _h73 => ?_)
                · have _kb_77 := _h73
                  have _h73 := bf_d (bt_n _h73)
                  refine WL_skip rfl rfl ?_
                  refine WL_skip rfl rfl ?_
                  refine WL_skip rfl rfl ?_
                  refine WL_skip rfl rfl ?_
                  refine WL_step rfl rfl (r_pickT rfl rfl) ?_
                  refine WL_step rfl rfl (r_move rfl) ?_
                  refine WL_skip rfl rfl ?_
                  refine WL_skip rfl rfl ?_
                  refine WL_skip rfl rfl ?_
                  refine WL_skip rfl rfl ?_
                  refine WL_skip rfl rfl ?_
                  refine WL_skip rfl rfl ?_
                  refine WL_step rfl rfl (r_pickT rfl rfl) ?_
                  refine WL_nil ?_
                  refine thn_nrm (_hK_76 _ _ ?_)
                  clear _hK_76
                  refine W_condT rfl ?_
                  refine W_seq fun _K_78 _hK_78 => ?_
                  refine W_region ?_
                  refine WL_step rfl rfl (r_assign rfl) ?_
                  refine WL_nil ?_
                  refine thn_nrm (_hK_78 _ _ ?_)
                  clear _hK_78
                  refine W_ret (thn_ret (inB_ret (thn_ret ?_)))
                  clear _hK_3 _hK_75
                  exact ret_intro [_] ⟨rfl, trivial⟩ ⟨congrArg (Value.int .i64) (by unfold arT; repeat (first | rw [if_pos (by omega)] | rw [if_neg (by omega)])), E⟩
                · have _kb_77 := _h73
                  have _h73 := bt_d (bf_n _h73)
                  refine WL_step rfl rfl (r_fieldAddr fa52_3 rfl) ?_
                  refine WL_step rfl rfl (r_loadAt _m1.at_ agg3 rfl rfl) ?_
                  refine WL_s rfl rfl ?_
                  refine Step.call (r_call (xs := [.tmp 75, .const (Go.Value.int Go.IntKind.i64 1), .const (Go.Value.int Go.IntKind.i64 3)]) fk51 rfl) (c_spec_l1In _ _ _ ) fun _v76 _w_79 _q76 => ?_
                  obtain ⟨rfl, _cw_79⟩ := _q76
                  have _cw_79z := _cw_79.size
                  have E := E.trans _cw_79
                  refine WL_step rfl rfl (r_not rfl) ?_
                  refine WL_step rfl rfl (r_pickF rfl rfl) ?_
                  refine WL_step rfl rfl (r_move rfl) ?_
                  refine WL_split (d := 79) rfl (fun _h79 => ?_) (fun _h79 => ?_)
                  · have _kb_80 := _h79
                    have _h79 := bf_d (bt_n _h79)
                    refine WL_skip rfl rfl ?_
                    refine WL_skip rfl rfl ?_
                    refine WL_skip rfl rfl ?_
                    refine WL_skip rfl rfl ?_
                    refine WL_skip rfl rfl ?_
                    refine WL_skip rfl rfl ?_
                    refine WL_step rfl rfl (r_pickT rfl rfl) ?_
                    refine WL_nil ?_
                    refine thn_nrm (_hK_76 _ _ ?_)
                    clear _hK_76
                    refine W_condT rfl ?_
                    refine W_seq fun _K_81 _hK_81 => ?_
                    refine W_region ?_
                    refine WL_step rfl rfl (r_assign rfl) ?_
                    refine WL_nil ?_
                    refine thn_nrm (_hK_81 _ _ ?_)
                    clear _hK_81
                    refine W_ret (thn_ret (inB_ret (thn_ret ?_)))
                    clear _hK_3 _hK_75
                    exact ret_intro [_] ⟨rfl, trivial⟩ ⟨congrArg (Value.int .i64) (by unfold arT; repeat (first | rw [if_pos (by omega)] | rw [if_neg (by omega)])), E⟩
                  · have _kb_80 := _h79
                    have _h79 := bt_d (bf_n _h79)
                    refine WL_step rfl rfl (r_fieldAddr fa52_2 rfl) ?_
                    have _f_82 := (_m1.ch0 _cw_79)
                    refine WL_step rfl rfl (r_loadAt _f_82.at_ agg3 rfl rfl) ?_
                    refine WL_step rfl rfl (r_fieldAddr fa52_3 rfl) ?_
                    refine WL_step rfl rfl (r_loadAt _f_82.at_ agg3 rfl rfl) ?_
                    refine WL_s rfl rfl ?_
                    refine Step.call (r_call (xs := [.tmp 81, .const (Go.Value.int Go.IntKind.i64 0), .tmp 83]) fk51 rfl) (c_spec_l1In _ _ _ ) fun _v84 _w_83 _q84 => ?_
                    obtain ⟨rfl, _cw_83⟩ := _q84
                    have _cw_83z := _cw_83.size
                    have E := E.trans _cw_83
                    refine WL_step rfl rfl (r_not rfl) ?_
                    refine WL_step rfl rfl (r_pickF rfl rfl) ?_
                    refine WL_nil ?_
                    refine thn_nrm (_hK_76 _ _ ?_)
                    clear _hK_76
                    refine W_cond rfl (fun _h86 => ?_) (fun _h86 => ?_)
                    · have _kb_84 := _h86
                      have _h86 := bf_d (bt_n _h86)
                      refine W_seq fun _K_85 _hK_85 => ?_
                      refine W_region ?_
                      refine WL_step rfl rfl (r_assign rfl) ?_
                      refine WL_nil ?_
                      refine thn_nrm (_hK_85 _ _ ?_)
                      clear _hK_85
                      refine W_ret (thn_ret (inB_ret (thn_ret ?_)))
                      clear _hK_3 _hK_75
                      exact ret_intro [_] ⟨rfl, trivial⟩ ⟨congrArg (Value.int .i64) (by unfold arT; repeat (first | rw [if_pos (by omega)] | rw [if_neg (by omega)])), E⟩
                    · have _kb_84 := _h86
                      have _h86 := bt_d (bf_n _h86)
                      refine W_skip ?_
                      refine thn_nrm (_hK_75 _ _ ?_)
                      clear _hK_75
                      refine W_seq fun _K_86 _hK_86 => ?_
                      refine W_region ?_
                      refine WL_step rfl rfl (r_assign rfl) ?_
                      refine WL_nil ?_
                      refine thn_nrm (_hK_86 _ _ ?_)
                      clear _hK_86
                      refine W_ret (inB_ret (thn_ret ?_))
                      clear _hK_3
                      exact ret_intro [_] ⟨rfl, trivial⟩ ⟨congrArg (Value.int .i64) (by unfold arT; repeat (first | rw [if_pos (by omega)] | rw [if_neg (by omega)])), E⟩
              · have _kb_74 := _h68
                have _h68 := bf_d _h68
                refine W_skip ?_
                refine inB_nrm ?_
                refine thn_nrm (_hK_3 _ _ ?_)
                clear _hK_3
                refine W_seq fun _K_87 _hK_87 => ?_
                refine W_region ?_
                refine WL_step rfl rfl (r_assign rfl) ?_
                refine WL_nil ?_
                refine thn_nrm (_hK_87 _ _ ?_)
                clear _hK_87
                refine W_ret ?_
                exact ret_intro [_] ⟨rfl, trivial⟩ ⟨congrArg (Value.int .i64) (by unfold arT; repeat (first | rw [if_pos (by omega)] | rw [if_neg (by omega)])), E⟩

/-- spec.IsExpr -/
theorem c_spec_IsExpr {w : World} {LL_e _B_e : Nat} {_v_e : Value} {e : List Token} (_h_e : Ls Token.cs 4 w LL_e _B_e _v_e e) :
    Ctr Tryz.prog 30 #[(.agg #[_v_e])] w (fun v w' => v = .bool (isE e) ∧ Ch [] w w') := by
  obtain ⟨_A_e, _C_e, _e1_e⟩ := _h_e.val
  subst _e1_e
  have _l_e := _h_e.len
  have _h_e := _h_e.here (by decide)
  have E := Ch.refl [] w
  refine Ctr_of_W (N := 32) (vs0 := [(.agg #[(.slice _A_e e.length _C_e)])]) Tryz.func30 rfl rfl rfl ?_
  refine W_seq fun _K_1 _hK_1 => ?_
  refine W_region ?_
  refine WL_s rfl rfl ?_
  refine s_box rfl fun _b1 _w_2 _m1 _cw_2 _e1 => ?_
  have _cw_2z := _cw_2.size
  have E := E.trans _cw_2
  have _z1 := _m1.lt
  replace _m1 : Blk _w_2 _b1 26 [(.slice _A_e e.length _C_e)] := _m1
  refine WL_step rfl rfl (r_assign rfl) ?_
  refine WL_nil ?_
  refine thn_nrm (_hK_1 _ _ ?_)
  clear _hK_1
  refine W_seq fun _K_3 _hK_3 => ?_
  refine W_region ?_
  refine WL_step rfl rfl (r_assign rfl) ?_
  refine WL_nil ?_
  refine thn_nrm (_hK_3 _ _ ?_)
  clear _hK_3
  refine W_seq fun _K_4 _hK_4 => ?_
  refine W_seq fun _K_5 _hK_5 => ?_
  refine W_region ?_
  refine WL_step rfl rfl (r_assign rfl) ?_
  refine WL_nil ?_
  refine thn_nrm (_hK_5 _ _ ?_)
  clear _hK_5
  refine W_block ?_
  refine W_loop (σ := Nat × Int × List Tr) (fun ⟨i, d, st⟩ => [(1, (.pointer (some ⟨_b1, 0, none⟩))), (3, (.int .i64 d)), (4, (.int .i64 ((i : Nat) : Int)))]) (fun ⟨i, d, st⟩ wx => Ch [] w wx ∧ _w_2.heap.size ≤ wx.heap.size ∧ (i ≤ e.length) ∧ (d = st.length) ∧ (st.length ≤ i) ∧ (prs [] (e.take i) = some st) ∧ Blk wx _b1 26 [(.slice _A_e e.length _C_e)]) (fun ⟨i, d, st⟩ => e.length - i) (0, 0, ([] : List Tr)) (Sub.cons rfl (Sub.cons rfl (Sub.cons rfl (Sub.nil _)))) ⟨E, (Nat.le_refl _), (by omega), rfl, (Nat.le_refl _), rfl, _m1⟩ ?_
  rintro ⟨i, d, st⟩ _wr_6 ⟨E, _zz0, hi, hd, hs, hp, _F0_0⟩
  have _E0h := E
  have _E0hz := _E0h.size
  have _F0_0z := _F0_0.lt
  refine W_seq fun _K_7 _hK_7 => ?_
  refine W_seq fun _K_8 _hK_8 => ?_
  refine W_region ?_
  refine WL_step rfl rfl (r_move rfl) ?_
  refine WL_step rfl rfl (r_fieldAddr fa26_0 rfl) ?_
  refine WL_step rfl rfl (r_loadAt _F0_0.at_ agg24 rfl rfl) ?_
  refine WL_step rfl rfl (r_len (by rw [el24]; rfl) rfl) ?_
  refine WL_step rfl rfl (r_lss rfl rfl) ?_
  refine WL_nil ?_
  refine thn_nrm (_hK_8 _ _ ?_)
  clear _hK_8
  refine W_cond rfl (fun _h10 => ?_) (fun _h10 => ?_)
  · have _kb_9 := _h10
    have _h10 := bt_d _h10
    refine W_skip ?_
    refine thn_nrm (_hK_7 _ _ ?_)
    clear _hK_7
    refine W_seq fun _K_10 _hK_10 => ?_
    refine W_block ?_
    refine W_seq fun _K_11 _hK_11 => ?_
    refine W_region ?_
    refine WL_step rfl rfl (r_fieldAddr fa26_0 rfl) ?_
    refine WL_step rfl rfl (r_loadAt _F0_0.at_ agg24 rfl rfl) ?_
    refine WL_step rfl rfl (r_move rfl) ?_
    refine WL_s rfl rfl ?_
    have _f_12 := (_h_e.ch0 _E0h)
    refine (s_index _f_12 Token.len el24 sz52 rfl rfl rfl (by omega) fun _p16 _y16 _hy16 _a16 => ?_)
    refine WL_step rfl rfl (r_loadAtA0 _a16 agg52 sz52 rfl) ?_
    refine WL_s rfl rfl ?_
    refine Step.call (r_call (xs := [.tmp 17]) fk50 rfl) (c_spec_l8Arity _y16 ) fun _v18 _w_13 _q18 => ?_
    obtain ⟨rfl, _cw_13⟩ := _q18
    have _cw_13z := _cw_13.size
    have E := E.trans _cw_13
    have _a18 := arT_cases _y16
    refine WL_step rfl rfl (r_assign rfl) ?_
    refine WL_nil ?_
    refine thn_nrm (_hK_11 _ _ ?_)
    clear _hK_11
    refine W_seq fun _K_14 _hK_14 => ?_
    refine W_seq fun _K_15 _hK_15 => ?_
    refine W_region ?_
    refine WL_step rfl rfl (r_move rfl) ?_
    refine WL_step rfl rfl (r_lss rfl rfl) ?_
    refine WL_step rfl rfl (r_move rfl) ?_
    refine WL_split (d := 21) rfl (fun _h21 => ?_) (fun _h21 => ?_)
    · have _kb_16 := _h21
      have _h21 := bt_d _h21
      refine WL_skip rfl rfl ?_
      refine WL_skip rfl rfl ?_
      refine WL_skip rfl rfl ?_
      refine WL_step rfl rfl (r_pickT rfl rfl) ?_
      refine WL_nil ?_
      refine thn_nrm (_hK_15 _ _ ?_)
      clear _hK_15
      refine W_condT rfl ?_
      refine W_seq fun _K_17 _hK_17 => ?_
      refine W_region ?_
      refine WL_step rfl rfl (r_assign rfl) ?_
      refine WL_nil ?_
      refine thn_nrm (_hK_17 _ _ ?_)
      clear _hK_17
      refine W_ret (thn_ret (inB_ret (thn_ret (thn_ret (inB_ret (thn_ret ?_))))))
      clear _hK_4 _hK_10 _hK_14
      exact ret_intro [_] ⟨rfl, trivial⟩ ⟨congrArg Value.bool (by first | (rw [isE_end hp (by omega), hd]; done) | exact isE_none (isE_no hp _hy16 (push_no (by omega)))), E⟩
    · have _kb_16 := _h21
      have _h21 := bf_d _h21
      refine WL_step rfl rfl (r_move rfl) ?_
      refine WL_step rfl rfl (r_move rfl) ?_
      refine WL_step rfl rfl (r_gtr rfl rfl) ?_
      refine WL_step rfl rfl (r_pickF rfl rfl) ?_
      refine WL_nil ?_
      refine thn_nrm (_hK_15 _ _ ?_)
      clear _hK_15
      refine W_cond rfl (fun _h25 => ?_) (fun _h25 => ?_)
      · have _kb_18 := _h25
        have _h25 := bt_d _h25
        refine W_seq fun _K_19 _hK_19 => ?_
        refine W_region ?_
        refine WL_step rfl rfl (r_assign rfl) ?_
        refine WL_nil ?_
        refine thn_nrm (_hK_19 _ _ ?_)
        clear _hK_19
        refine W_ret (thn_ret (inB_ret (thn_ret (thn_ret (inB_ret (thn_ret ?_))))))
        clear _hK_4 _hK_10 _hK_14
        exact ret_intro [_] ⟨rfl, trivial⟩ ⟨congrArg Value.bool (by first | (rw [isE_end hp (by omega), hd]; done) | exact isE_none (isE_no hp _hy16 (push_no (by omega)))), E⟩
      · have _kb_18 := _h25
        have _h25 := bf_d _h25
        refine W_skip ?_
        refine thn_nrm (_hK_14 _ _ ?_)
        clear _hK_14
        refine W_region ?_
        refine WL_step rfl rfl (r_move rfl) ?_
        refine WL_step rfl rfl (r_move rfl) ?_
        refine WL_step rfl rfl (r_sub (by omega) rfl rfl) ?_
        refine WL_step rfl rfl (r_add (by omega) rfl rfl) ?_
        refine WL_step rfl rfl (r_assign rfl) ?_
        refine WL_nil ?_
        refine inB_nrm ?_
        refine thn_nrm (_hK_10 _ _ ?_)
        clear _hK_10
        refine W_region ?_
        refine WL_step rfl rfl (r_move rfl) ?_
        refine WL_step rfl rfl (r_add (by omega) rfl rfl) ?_
        refine WL_step rfl rfl (r_assign rfl) ?_
        refine WL_nil ?_
        obtain ⟨s2, _p2, _l2⟩ := push_yes (t := _y16) (st := st) (by omega) (by omega)
        have _f_20 := (_F0_0.ch0 _cw_13)
        exact thn_nrm (Exists.intro ((i + 1), ((d - arT _y16) + 1), s2) ⟨⟨E, (by omega), (by omega), (by omega), (by omega), ((prs_snoc hp _hy16).trans _p2), _f_20⟩, Sub.cons rfl (Sub.cons rfl (Sub.cons rfl (Sub.nil _))), (by first | omega | (dsimp only; omega))⟩)
  · have _kb_9 := _h10
    have _h10 := bf_d _h10
    refine W_exit (thn_exit (thn_exit (inB_hit ?_)))
    refine thn_nrm (_hK_4 _ _ ?_)
    clear _hK_4
    refine W_seq fun _K_21 _hK_21 => ?_
    refine W_region ?_
    refine WL_step rfl rfl (r_move rfl) ?_
    refine WL_step rfl rfl (r_eql rfl rfl) ?_
    refine WL_step rfl rfl (r_assign rfl) ?_
    refine WL_nil ?_
    refine thn_nrm (_hK_21 _ _ ?_)
    clear _hK_21
    refine W_ret ?_
    clear _hK_7
    exact ret_intro [_] ⟨rfl, trivial⟩ ⟨congrArg Value.bool (by first | (rw [isE_end hp (by omega), hd]; done) | exact isE_none (isE_no hp _hy16 (push_no (by omega)))), E⟩

/-- spec.l8Copy -/
theorem c_spec_l8Copy {w : World} {LL_l _B_l : Nat} {_v_l : Value} {l : List Token} (_h_l : Ls Token.cs 4 w LL_l _B_l _v_l l) (hb : l.length ≤ 4194304) :
    Ctr Tryz.prog 31 #[_v_l] w (fun v w' => ∃ u, v = .agg #[u] ∧ Ol Token.cs 52 4 w' u (l) ∧ Lo w.heap.size u ∧ Ch [] w w') := by
  obtain ⟨_A_l, _C_l, _e1_l⟩ := _h_l.val
  subst _e1_l
  have _l_l := _h_l.len
  have _h_l := _h_l.here (by decide)
  have E := Ch.refl [] w
  refine Ctr_of_W (N := 7) (vs0 := [(.slice _A_l l.length _C_l)]) Tryz.func31 rfl rfl rfl ?_
  refine W_seq fun _K_1 _hK_1 => ?_
  refine W_region ?_
  refine WL_s rfl rfl ?_
  refine s_alloc zr26 fun _b2 _w_2 _m2 _cw_2 _e2 => ?_
  have _cw_2z := _cw_2.size
  have E := E.trans _cw_2
  have _z2 := _m2.lt
  replace _m2 : Blk _w_2 _b2 26 [(.slice none 0 0)] := _m2
  refine WL_nil ?_
  refine thn_nrm (_hK_1 _ _ ?_)
  clear _hK_1
  refine W_seq fun _K_3 _hK_3 => ?_
  refine W_region ?_
  refine WL_s rfl rfl ?_
  refine s_buildSlice0 (k := 4) Token.cs el24 sz52 fun _v3 _w_4 _q3 _lo3 _cw_4 => ?_
  have _cw_4z := _cw_4.size
  have E := E.trans _cw_4
  obtain ⟨_Av3, _Cv3, _ev3⟩ := _q3.val
  subst _ev3
  have _lv3 := _q3.len
  have _hiv3 := _q3.lt
  refine WL_step rfl rfl (r_move rfl) ?_
  refine WL_s rfl rfl ?_
  have _f_6 := ((_h_l.ch0 _cw_2).ch0 _cw_4)
  refine s_append (cs := Token.cs) el24 sz52 by52 zr52 rfl (by decide) Token.one _q3 _f_6 rfl rfl (by first | omega | (simp only [List.length_append, List.length_nil, List.length_cons, List.length_replicate, List.length_set, List.length_reverse, List.length_map] at *; omega) | (simp at *; omega)) (by first | omega | (simp only [List.length_append, List.length_nil, List.length_cons, List.length_replicate, List.length_set, List.length_reverse, List.length_map] at *; omega) | (simp at *; omega)) _lo3 (by omega) fun _v5 _w_5 _q5 _lo5 _ap5 _cw_5 => ?_
  have _cw_5z := _cw_5.size
  have E := E.step _cw_5 (fun i hi => .inl (by have _h1 := _lo3 _ hi; omega))
  replace _q5 : Ol Token.cs 52 4 _w_5 _v5 l := _q5
  obtain ⟨_Av5, _Cv5, _ev5⟩ := _q5.val
  subst _ev5
  have _lv5 := _q5.len
  have _hiv5 := _q5.lt
  refine WL_step rfl rfl (r_build (parts := [(0, .tmp 5)]) (cells := [(.slice _Av5 (l).length _Cv5)]) zr26 pl26 rfl rfl) ?_
  refine WL_s rfl rfl ?_
  have _f_7 := ((_m2.ch0 _cw_4).ch _cw_5 (fun hm => by have _h1 := _lo3 _ hm; have _h2 := _hiv3 _ hm; omega))
  refine s_storeA (off := 0) 1 _f_7 sz26 rfl (us := [(.slice _Av5 (l).length _Cv5)]) rfl rfl rfl rfl fun _w_8 _m_9 _cw_8 => ?_
  have _cw_8z := _cw_8.size
  have E := E.step _cw_8 (fun i hi => .inl (by have _h1 := List.mem_singleton.1 hi; omega))
  replace _m_9 : Blk _w_8 _b2 26 [(.slice _Av5 (l).length _Cv5)] := _m_9
  refine WL_nil ?_
  refine thn_nrm (_hK_3 _ _ ?_)
  clear _hK_3
  refine W_ret ?_
  have _f_11 := (_q5.ch _cw_8 (fun g hg hm => by have _h0 := List.mem_singleton.1 hm; rcases _ap5 with ea | ea; (rw [ea] at hg; have _h2 := _lo3 _ hg; have _h3 := _hiv3 _ hg; omega); (rw [ea] at hg; have _z1 := List.mem_singleton.1 hg; omega)))
  have _o_10 : Ol Token.cs 52 4 _w_8 (.slice _Av5 (l).length _Cv5) (l) := by
    have hx := _f_11
    first | exact hx | simpa using hx
  exact ret_intro [_] (resOf_loadA _m_9 rfl agg26 sz26 trivial) ⟨_, rfl, _o_10, Lo.down _lo5 (by omega), E⟩

/-- spec.l8Is -/
theorem c_spec_l8Is {w : World} {LL_e _B_e : Nat} {_v_e : Value} {e : List Token} (_h_e : Ls Token.cs 4 w LL_e _B_e _v_e e) (kind : Int) :
    Ctr Tryz.prog 79 #[(.agg #[_v_e]), (.int .i64 kind)] w (fun v w' => v = .bool (isK e kind) ∧ Ch [] w w') := by
  obtain ⟨_A_e, _C_e, _e1_e⟩ := _h_e.val
  subst _e1_e
  have _l_e := _h_e.len
  have _h_e := _h_e.here (by decide)
  have E := Ch.refl [] w
  refine Ctr_of_W (N := 18) (vs0 := [(.agg #[(.slice _A_e e.length _C_e)]), (.int .i64 kind)]) Tryz.func79 rfl rfl rfl ?_
  refine W_seq fun _K_1 _hK_1 => ?_
  refine W_region ?_
  refine WL_s rfl rfl ?_
  refine s_box rfl fun _b2 _w_2 _m2 _cw_2 _e2 => ?_
  have _cw_2z := _cw_2.size
  have E := E.trans _cw_2
  have _z2 := _m2.lt
  replace _m2 : Blk _w_2 _b2 26 [(.slice _A_e e.length _C_e)] := _m2
  refine WL_step rfl rfl (r_assign rfl) ?_
  refine WL_nil ?_
  refine thn_nrm (_hK_1 _ _ ?_)
  clear _hK_1
  refine W_seq fun _K_3 _hK_3 => ?_
  refine W_region ?_
  refine WL_step rfl rfl (r_fieldAddr fa26_0 rfl) ?_
  refine WL_step rfl rfl (r_loadAt _m2.at_ agg24 rfl rfl) ?_
  refine WL_step rfl rfl (r_len (by rw [el24]; rfl) rfl) ?_
  refine WL_step rfl rfl (r_eql rfl rfl) ?_
  refine WL_step rfl rfl (r_move rfl) ?_
  refine WL_split (d := 9) rfl (fun _h9 => ?_) (fun _h9 => ?_)
  · have _kb_4 := _h9
    have _h9 := bt_d _h9
    refine WL_step rfl rfl (r_fieldAddr fa26_0 rfl) ?_
    refine WL_step rfl rfl (r_loadAt _m2.at_ agg24 rfl rfl) ?_
    refine WL_s rfl rfl ?_
    have _f_5 := (_h_e.ch0 _cw_2)
    refine (s_index (j := 0) _f_5 Token.len el24 sz52 rfl rfl rfl (by omega) fun _p12 _y12 _hy12 _a12 => ?_)
    refine WL_step rfl rfl (r_fieldAddr fa52_0 rfl) ?_
    refine WL_step rfl rfl (r_loadAt _a12 agg3 rfl rfl) ?_
    refine WL_step rfl rfl (r_move rfl) ?_
    refine WL_step rfl rfl (r_eql rfl rfl) ?_
    refine WL_step rfl rfl (r_pickT rfl rfl) ?_
    refine WL_step rfl rfl (r_assign rfl) ?_
    refine WL_nil ?_
    refine thn_nrm (_hK_3 _ _ ?_)
    clear _hK_3
    refine W_ret ?_
    exact ret_intro [_] ⟨rfl, trivial⟩ ⟨congrArg Value.bool (by first | exact isK_n _h9 | exact isK_y _h9 _hy12 | (cases hb : decide (_y12.kind = kind) <;> rw [← hb] <;> exact isK_y _h9 _hy12)), E⟩
  · have _kb_4 := _h9
    have _h9 := bf_d _h9
    refine WL_skip rfl rfl ?_
    refine WL_skip rfl rfl ?_
    refine WL_skip rfl rfl ?_
    refine WL_skip rfl rfl ?_
    refine WL_skip rfl rfl ?_
    refine WL_skip rfl rfl ?_
    refine WL_skip rfl rfl ?_
    refine WL_step rfl rfl (r_pickF rfl rfl) ?_
    refine WL_step rfl rfl (r_assign rfl) ?_
    refine WL_nil ?_
    refine thn_nrm (_hK_3 _ _ ?_)
    clear _hK_3
    refine W_ret ?_
    exact ret_intro [_] ⟨rfl, trivial⟩ ⟨congrArg Value.bool (by first | exact isK_n _h9 | exact isK_y _h9 _hy12 | (cases hb : decide (_y12.kind = kind) <;> rw [← hb] <;> exact isK_y _h9 _hy12)), E⟩

/-- spec.l8Join -/
theorem c_spec_l8Join {w : World} {LL_a _B_a : Nat} {_v_a : Value} {a : List Token} (_h_a : Ls Token.cs 4 w LL_a _B_a _v_a a) {LL_b _B_b : Nat} {_v_b : Value} {b : List Token} (_h_b : Ls Token.cs 4 w LL_b _B_b _v_b b) (t : Token) (hb : a.length + b.length ≤ 4194304) :
    Ctr Tryz.prog 80 #[(.agg #[_v_a]), (.agg #[_v_b]), (.agg #[(.int .i64 t.kind), (.int .i64 t.letter), (.int .i64 t.low), (.int .i64 t.high)])] w (fun v w' => ∃ u, v = .agg #[u] ∧ Ol Token.cs 52 4 w' u (a ++ b ++ [t]) ∧ Lo w.heap.size u ∧ Ch [] w w') := by
  obtain ⟨_A_a, _C_a, _e1_a⟩ := _h_a.val
  subst _e1_a
  have _l_a := _h_a.len
  have _h_a := _h_a.here (by decide)
  obtain ⟨_A_b, _C_b, _e1_b⟩ := _h_b.val
  subst _e1_b
  have _l_b := _h_b.len
  have _h_b := _h_b.here (by decide)
  have E := Ch.refl [] w
  refine Ctr_of_W (N := 24) (vs0 := [(.agg #[(.slice _A_a a.length _C_a)]), (.agg #[(.slice _A_b b.length _C_b)]), (.agg #[(.int .i64 t.kind), (.int .i64 t.letter), (.int .i64 t.low), (.int .i64 t.high)])]) Tryz.func80 rfl rfl rfl ?_
  refine W_seq fun _K_1 _hK_1 => ?_
  refine W_region ?_
  refine WL_s rfl rfl ?_
  refine s_box rfl fun _b3 _w_2 _m3 _cw_2 _e3 => ?_
  have _cw_2z := _cw_2.size
  have E := E.trans _cw_2
  have _z3 := _m3.lt
  replace _m3 : Blk _w_2 _b3 26 [(.slice _A_a a.length _C_a)] := _m3
  refine WL_s rfl rfl ?_
  refine s_box rfl fun _b4 _w_3 _m4 _cw_3 _e4 => ?_
  have _cw_3z := _cw_3.size
  have E := E.trans _cw_3
  have _z4 := _m4.lt
  replace _m4 : Blk _w_3 _b4 26 [(.slice _A_b b.length _C_b)] := _m4
  refine WL_s rfl rfl ?_
  refine s_box rfl fun _b5 _w_4 _m5 _cw_4 _e5 => ?_
  have _cw_4z := _cw_4.size
  have E := E.trans _cw_4
  have _z5 := _m5.lt
  replace _m5 : Blk _w_4 _b5 52 [(.int .i64 t.kind), (.int .i64 t.letter), (.int .i64 t.low), (.int .i64 t.high)] := _m5
  refine WL_s rfl rfl ?_
  refine s_alloc zr26 fun _b6 _w_5 _m6 _cw_5 _e6 => ?_
  have _cw_5z := _cw_5.size
  have E := E.trans _cw_5
  have _z6 := _m6.lt
  replace _m6 : Blk _w_5 _b6 26 [(.slice none 0 0)] := _m6
  refine WL_nil ?_
  refine thn_nrm (_hK_1 _ _ ?_)
  clear _hK_1
  refine W_seq fun _K_6 _hK_6 => ?_
  refine W_region ?_
  refine WL_step rfl rfl (r_fieldAddr fa26_0 rfl) ?_
  have _f_7 := (((_m3.ch0 _cw_3).ch0 _cw_4).ch0 _cw_5)
  refine WL_step rfl rfl (r_loadAt _f_7.at_ agg24 rfl rfl) ?_
  refine WL_s rfl rfl ?_
  have _f_8 := ((((_h_a.ch0 _cw_2).ch0 _cw_3).ch0 _cw_4).ch0 _cw_5)
  refine Step.call (r_call (xs := [.tmp 9]) fk31 rfl) (c_spec_l8Copy _f_8 (by omega)) fun _v10 _w_9 _q10 => ?_
  obtain ⟨_u10, rfl, _q10, _lo10, _cw_9⟩ := _q10
  have _cw_9z := _cw_9.size
  have E := E.trans _cw_9
  obtain ⟨_Au10, _Cu10, _eu10⟩ := _q10.val
  subst _eu10
  have _lu10 := _q10.len
  have _hiu10 := _q10.lt
  refine WL_s rfl rfl ?_
  refine s_alloc zr26 fun _b7 _w_10 _m7 _cw_10 _e7 => ?_
  have _cw_10z := _cw_10.size
  have E := E.trans _cw_10
  have _z7 := _m7.lt
  replace _m7 : Blk _w_10 _b7 26 [(.slice none 0 0)] := _m7
  refine WL_s rfl rfl ?_
  refine s_storeA (off := 0) 1 _m7 sz26 rfl (us := [(.slice _Au10 (a).length _Cu10)]) rfl rfl rfl rfl fun _w_11 _m_12 _cw_11 => ?_
  have _cw_11z := _cw_11.size
  have E := E.step _cw_11 (fun i hi => .inl (by have _h1 := List.mem_singleton.1 hi; omega))
  replace _m_12 : Blk _w_11 _b7 26 [(.slice _Au10 (a).length _Cu10)] := _m_12
  refine WL_nil ?_
  refine thn_nrm (_hK_6 _ _ ?_)
  clear _hK_6
  refine W_seq fun _K_13 _hK_13 => ?_
  refine W_region ?_
  refine WL_step rfl rfl (r_fieldAddr fa26_0 rfl) ?_
  refine WL_step rfl rfl (r_loadAt _m_12.at_ agg24 rfl rfl) ?_
  refine WL_step rfl rfl (r_fieldAddr fa26_0 rfl) ?_
  have _f_14 := (((((_m4.ch0 _cw_4).ch0 _cw_5).ch0 _cw_9).ch0 _cw_10).ch _cw_11 (fun hm => by have _h1 := List.mem_singleton.1 hm; omega))
  refine WL_step rfl rfl (r_loadAt _f_14.at_ agg24 rfl rfl) ?_
  refine WL_s rfl rfl ?_
  have _f_16 := ((_q10.ch0 _cw_10).ch _cw_11 (fun g hg hm => by have _h0 := List.mem_singleton.1 hm; have _h2 := _lo10 _ hg; have _h3 := _hiu10 _ hg; omega))
  have _f_17 := (((((((_h_b.ch0 _cw_2).ch0 _cw_3).ch0 _cw_4).ch0 _cw_5).ch0 _cw_9).ch0 _cw_10).ch _cw_11 (fun i hi => by have _h1 := List.mem_singleton.1 hi; omega))
  refine s_append (cs := Token.cs) el24 sz52 by52 zr52 rfl (by decide) Token.one _f_16 _f_17 rfl rfl (by first | omega | (simp only [List.length_append, List.length_nil, List.length_cons, List.length_replicate, List.length_set, List.length_reverse, List.length_map] at *; omega) | (simp at *; omega)) (by first | omega | (simp only [List.length_append, List.length_nil, List.length_cons, List.length_replicate, List.length_set, List.length_reverse, List.length_map] at *; omega) | (simp at *; omega)) _lo10 (by omega) fun _v15 _w_15 _q15 _lo15 _ap15 _cw_15 => ?_
  have _cw_15z := _cw_15.size
  have E := E.step _cw_15 (fun i hi => .inl (by have _h1 := _lo10 _ hi; omega))
  obtain ⟨_Av15, _Cv15, _ev15⟩ := _q15.val
  subst _ev15
  have _lv15 := _q15.len
  have _hiv15 := _q15.lt
  refine WL_step rfl rfl (r_fieldAddr fa26_0 rfl) ?_
  refine WL_s rfl rfl ?_
  have _f_18 := (_m_12.ch _cw_15 (fun hm => by have _h1 := _lo10 _ hm; have _h2 := _hiu10 _ hm; omega))
  refine s_store1 (off := 0) _f_18 sz24 rfl rfl rfl rfl fun _w_19 _m_20 _cw_19 => ?_
  have _cw_19z := _cw_19.size
  have E := E.step _cw_19 (fun i hi => .inl (by have _h1 := List.mem_singleton.1 hi; omega))
  replace _m_20 : Blk _w_19 _b7 26 [(.slice _Av15 ((a ++ b)).length _Cv15)] := _m_20
  refine WL_nil ?_
  refine thn_nrm (_hK_13 _ _ ?_)
  clear _hK_13
  refine W_seq fun _K_21 _hK_21 => ?_
  refine W_region ?_
  refine WL_step rfl rfl (r_fieldAddr fa26_0 rfl) ?_
  refine WL_step rfl rfl (r_loadAt _m_20.at_ agg24 rfl rfl) ?_
  have _f_22 := ((((((_m5.ch0 _cw_5).ch0 _cw_9).ch0 _cw_10).ch _cw_11 (fun hm => by have _h1 := List.mem_singleton.1 hm; omega)).ch _cw_15 (fun hm => by have _h1 := _lo10 _ hm; have _h2 := _hiu10 _ hm; omega)).ch _cw_19 (fun hm => by have _h1 := List.mem_singleton.1 hm; omega))
  refine WL_step rfl rfl (r_loadAtA0 _f_22.at_ agg52 sz52 rfl) ?_
  refine WL_s rfl rfl ?_
  refine s_buildSlice (cs := Token.cs) (parts := [(0, .tmp 19)]) (⟨0, 0, 0, 0⟩ : Token) [t] el24 sz52 zr52 Token.len (by decide) rfl rfl rfl (by decide) (by decide) rfl fun _v20 _w_23 _q20 _lo20 _cw_23 => ?_
  have _cw_23z := _cw_23.size
  have E := E.trans _cw_23
  obtain ⟨_Av20, _Cv20, _ev20⟩ := _q20.val
  subst _ev20
  have _lv20 := _q20.len
  have _hiv20 := _q20.lt
  refine WL_s rfl rfl ?_
  have _f_25 := ((_q15.ch _cw_19 (fun g hg hm => by have _h0 := List.mem_singleton.1 hm; rcases _ap15 with ea | ea; (rw [ea] at hg; have _h2 := _lo10 _ hg; have _h3 := _hiu10 _ hg; omega); (rw [ea] at hg; have _z1 := List.mem_singleton.1 hg; omega))).ch0 _cw_23)
  refine s_append (cs := Token.cs) el24 sz52 by52 zr52 rfl (by decide) Token.one _f_25 _q20.ls rfl rfl (by first | omega | (simp only [List.length_append, List.length_nil, List.length_cons, List.length_replicate, List.length_set, List.length_reverse, List.length_map] at *; omega) | (simp at *; omega)) (by first | omega | (simp only [List.length_append, List.length_nil, List.length_cons, List.length_replicate, List.length_set, List.length_reverse, List.length_map] at *; omega) | (simp at *; omega)) _lo15 (by omega) fun _v21 _w_24 _q21 _lo21 _ap21 _cw_24 => ?_
  have _cw_24z := _cw_24.size
  have E := E.step _cw_24 (fun i hi => .inl (by have _h1 := _lo15 _ hi; omega))
  obtain ⟨_Av21, _Cv21, _ev21⟩ := _q21.val
  subst _ev21
  have _lv21 := _q21.len
  have _hiv21 := _q21.lt
  refine WL_step rfl rfl (r_fieldAddr fa26_0 rfl) ?_
  refine WL_s rfl rfl ?_
  have _f_26 := ((_m_20.ch0 _cw_23).ch _cw_24 (fun hm => by rcases _ap15 with ea | ea; (rw [ea] at hm; have _h1 := _lo10 _ hm; have _h2 := _hiu10 _ hm; omega); (rw [ea] at hm; have _z1 := List.mem_singleton.1 hm; omega)))
  refine s_store1 (off := 0) _f_26 sz24 rfl rfl rfl rfl fun _w_27 _m_28 _cw_27 => ?_
  have _cw_27z := _cw_27.size
  have E := E.step _cw_27 (fun i hi => .inl (by have _h1 := List.mem_singleton.1 hi; omega))
  replace _m_28 : Blk _w_27 _b7 26 [(.slice _Av21 (((a ++ b) ++ [t])).length _Cv21)] := _m_28
  refine WL_nil ?_
  refine thn_nrm (_hK_21 _ _ ?_)
  clear _hK_21
  refine W_seq fun _K_29 _hK_29 => ?_
  refine W_region ?_
  refine WL_step rfl rfl (r_loadAtA0 _m_28.at_ agg26 sz26 rfl) ?_
  refine WL_s rfl rfl ?_
  have _f_30 := ((((((((_m6.ch0 _cw_9).ch0 _cw_10).ch _cw_11 (fun hm => by have _h1 := List.mem_singleton.1 hm; omega)).ch _cw_15 (fun hm => by have _h1 := _lo10 _ hm; have _h2 := _hiu10 _ hm; omega)).ch _cw_19 (fun hm => by have _h1 := List.mem_singleton.1 hm; omega)).ch0 _cw_23).ch _cw_24 (fun hm => by rcases _ap15 with ea | ea; (rw [ea] at hm; have _h1 := _lo10 _ hm; have _h2 := _hiu10 _ hm; omega); (rw [ea] at hm; have _z1 := List.mem_singleton.1 hm; omega))).ch _cw_27 (fun hm => by have _h1 := List.mem_singleton.1 hm; omega))
  refine s_storeA (off := 0) 1 _f_30 sz26 rfl (us := [(.slice _Av21 (((a ++ b) ++ [t])).length _Cv21)]) rfl rfl rfl rfl fun _w_31 _m_32 _cw_31 => ?_
  have _cw_31z := _cw_31.size
  have E := E.step _cw_31 (fun i hi => .inl (by have _h1 := List.mem_singleton.1 hi; omega))
  replace _m_32 : Blk _w_31 _b6 26 [(.slice _Av21 (((a ++ b) ++ [t])).length _Cv21)] := _m_32
  refine WL_nil ?_
  refine thn_nrm (_hK_29 _ _ ?_)
  clear _hK_29
  refine W_ret ?_
  have _f_34 := ((_q21.ch _cw_27 (fun g hg hm => by have _h0 := List.mem_singleton.1 hm; rcases _ap21 with ea | ea; (rw [ea] at hg; rcases _ap15 with ea | ea; (rw [ea] at hg; have _h2 := _lo10 _ hg; have _h3 := _hiu10 _ hg; omega); (rw [ea] at hg; have _z1 := List.mem_singleton.1 hg; omega)); (rw [ea] at hg; have _z1 := List.mem_singleton.1 hg; omega))).ch _cw_31 (fun g hg hm => by have _h0 := List.mem_singleton.1 hm; rcases _ap21 with ea | ea; (rw [ea] at hg; rcases _ap15 with ea | ea; (rw [ea] at hg; have _h2 := _lo10 _ hg; have _h3 := _hiu10 _ hg; omega); (rw [ea] at hg; have _z1 := List.mem_singleton.1 hg; omega)); (rw [ea] at hg; have _z1 := List.mem_singleton.1 hg; omega)))
  have _o_33 : Ol Token.cs 52 4 _w_31 (.slice _Av21 (((a ++ b) ++ [t])).length _Cv21) (a ++ b ++ [t]) := by
    have hx := _f_34
    first | exact hx | simpa using hx
  exact ret_intro [_] (resOf_loadA _m_32 rfl agg26 sz26 trivial) ⟨_, rfl, _o_33, Lo.down _lo21 (by omega), E⟩

/-- spec.l8Leaf -/
theorem c_spec_l8Leaf {w : World} (kind : Int) :
    Ctr Tryz.prog 59 #[(.int .i64 kind)] w (fun v w' => ∃ u, v = .agg #[u] ∧ Ol Token.cs 52 4 w' u ([(⟨kind, 0, 0, 0⟩ : Token)]) ∧ Lo w.heap.size u ∧ Ch [] w w') := by
  have E := Ch.refl [] w
  refine Ctr_of_W (N := 7) (vs0 := [(.int .i64 kind)]) Tryz.func59 rfl rfl rfl ?_
  refine W_seq fun _K_1 _hK_1 => ?_
  refine W_region ?_
  refine WL_s rfl rfl ?_
  refine s_alloc zr26 fun _b2 _w_2 _m2 _cw_2 _e2 => ?_
  have _cw_2z := _cw_2.size
  have E := E.trans _cw_2
  have _z2 := _m2.lt
  replace _m2 : Blk _w_2 _b2 26 [(.slice none 0 0)] := _m2
  refine WL_nil ?_
  refine thn_nrm (_hK_1 _ _ ?_)
  clear _hK_1
  refine W_seq fun _K_3 _hK_3 => ?_
  refine W_region ?_
  refine WL_step rfl rfl (r_move rfl) ?_
  refine WL_step rfl rfl (r_build (parts := [(0, .tmp 3)]) (cells := [(.int .i64 kind), (.int .i64 0), (.int .i64 0), (.int .i64 0)]) zr52 pl52 rfl rfl) ?_
  refine WL_s rfl rfl ?_
  refine s_buildSlice (cs := Token.cs) (parts := [(0, .tmp 4)]) (⟨0, 0, 0, 0⟩ : Token) [(⟨kind, 0, 0, 0⟩ : Token)] el24 sz52 zr52 Token.len (by decide) rfl rfl rfl (by decide) (by decide) rfl fun _v5 _w_4 _q5 _lo5 _cw_4 => ?_
  have _cw_4z := _cw_4.size
  have E := E.trans _cw_4
  obtain ⟨_Av5, _Cv5, _ev5⟩ := _q5.val
  subst _ev5
  have _lv5 := _q5.len
  have _hiv5 := _q5.lt
  refine WL_step rfl rfl (r_build (parts := [(0, .tmp 5)]) (cells := [(.slice _Av5 ([(⟨kind, 0, 0, 0⟩ : Token)]).length _Cv5)]) zr26 pl26 rfl rfl) ?_
  refine WL_s rfl rfl ?_
  have _f_5 := (_m2.ch0 _cw_4)
  refine s_storeA (off := 0) 1 _f_5 sz26 rfl (us := [(.slice _Av5 ([(⟨kind, 0, 0, 0⟩ : Token)]).length _Cv5)]) rfl rfl rfl rfl fun _w_6 _m_7 _cw_6 => ?_
  have _cw_6z := _cw_6.size
  have E := E.step _cw_6 (fun i hi => .inl (by have _h1 := List.mem_singleton.1 hi; omega))
  replace _m_7 : Blk _w_6 _b2 26 [(.slice _Av5 ([(⟨kind, 0, 0, 0⟩ : Token)]).length _Cv5)] := _m_7
  refine WL_nil ?_
  refine thn_nrm (_hK_3 _ _ ?_)
  clear _hK_3
  refine W_ret ?_
  have _f_9 := (_q5.ch _cw_6 (fun g hg hm => by have _h0 := List.mem_singleton.1 hm; have _h2 := _lo5 _ hg; have _h3 := _hiv5 _ hg; omega))
  have _o_8 : Ol Token.cs 52 4 _w_6 (.slice _Av5 ([(⟨kind, 0, 0, 0⟩ : Token)]).length _Cv5) ([(⟨kind, 0, 0, 0⟩ : Token)]) := by
    have hx := _f_9
    first | exact hx | simpa using hx
  exact ret_intro [_] (resOf_loadA _m_7 rfl agg26 sz26 trivial) ⟨_, rfl, _o_8, Lo.down _lo5 (by omega), E⟩

/-- spec.ConcatExpr -/
theorem c_spec_ConcatExpr {w : World} {LL_a _B_a : Nat} {_v_a : Value} {a : List Token} (_h_a : Ls Token.cs 4 w LL_a _B_a _v_a a) {LL_b _B_b : Nat} {_v_b : Value} {b : List Token} (_h_b : Ls Token.cs 4 w LL_b _B_b _v_b b) (hb : a.length + b.length ≤ 1048576) :
    Ctr Tryz.prog 61 #[(.agg #[_v_a]), (.agg #[_v_b])] w (fun v w' => ∃ u, v = .agg #[u] ∧ Ol Token.cs 52 4 w' u (catE a b) ∧ Lo w.heap.size u ∧ Ch [] w w') := by
  obtain ⟨_A_a, _C_a, _e1_a⟩ := _h_a.val
  subst _e1_a
  have _l_a := _h_a.len
  have _h_a := _h_a.here (by decide)
  obtain ⟨_A_b, _C_b, _e1_b⟩ := _h_b.val
  subst _e1_b
  have _l_b := _h_b.len
  have _h_b := _h_b.here (by decide)
  have E := Ch.refl [] w
  refine Ctr_of_W (N := 29) (vs0 := [(.agg #[(.slice _A_a a.length _C_a)]), (.agg #[(.slice _A_b b.length _C_b)])]) Tryz.func61 rfl rfl rfl ?_
  refine W_seq fun _K_1 _hK_1 => ?_
  refine W_region ?_
  refine WL_s rfl rfl ?_
  refine s_box rfl fun _b2 _w_2 _m2 _cw_2 _e2 => ?_
  have _cw_2z := _cw_2.size
  have E := E.trans _cw_2
  have _z2 := _m2.lt
  replace _m2 : Blk _w_2 _b2 26 [(.slice _A_a a.length _C_a)] := _m2
  refine WL_s rfl rfl ?_
  refine s_box rfl fun _b3 _w_3 _m3 _cw_3 _e3 => ?_
  have _cw_3z := _cw_3.size
  have E := E.trans _cw_3
  have _z3 := _m3.lt
  replace _m3 : Blk _w_3 _b3 26 [(.slice _A_b b.length _C_b)] := _m3
  refine WL_s rfl rfl ?_
  refine s_alloc zr26 fun _b4 _w_4 _m4 _cw_4 _e4 => ?_
  have _cw_4z := _cw_4.size
  have E := E.trans _cw_4
  have _z4 := _m4.lt
  replace _m4 : Blk _w_4 _b4 26 [(.slice none 0 0)] := _m4
  refine WL_nil ?_
  refine thn_nrm (_hK_1 _ _ ?_)
  clear _hK_1
  refine W_seq fun _K_5 _hK_5 => ?_
  refine W_block ?_
  refine W_seq fun _K_6 _hK_6 => ?_
  refine W_region ?_
  have _f_7 := ((_m2.ch0 _cw_3).ch0 _cw_4)
  refine WL_step rfl rfl (r_loadAtA0 _f_7.at_ agg26 sz26 rfl) ?_
  refine WL_s rfl rfl ?_
  have _f_8 := (((_h_a.ch0 _cw_2).ch0 _cw_3).ch0 _cw_4)
  refine Step.call (r_call (xs := [.tmp 6, .const (Go.Value.int Go.IntKind.i64 1)]) fk79 rfl) (c_spec_l8Is _f_8 _ ) fun _v7 _w_9 _q7 => ?_
  obtain ⟨rfl, _cw_9⟩ := _q7
  have _cw_9z := _cw_9.size
  have E := E.trans _cw_9
  refine WL_step rfl rfl (r_move rfl) ?_
  refine WL_split (d := 8) rfl (fun _h8 => ?_) (fun _h8 => ?_)
  · have _kb_10 := _h8
    refine WL_skip rfl rfl ?_
    refine WL_skip rfl rfl ?_
    refine WL_step rfl rfl (r_pickT rfl rfl) ?_
    refine WL_step rfl rfl (r_assign rfl) ?_
    refine WL_nil ?_
    refine thn_nrm (_hK_6 _ _ ?_)
    clear _hK_6
    refine W_condT rfl ?_
    refine W_seq fun _K_11 _hK_11 => ?_
    refine W_region ?_
    refine WL_s rfl rfl ?_
    refine Step.call (r_call (xs := [.const (Go.Value.int Go.IntKind.i64 1)]) fk59 rfl) (c_spec_l8Leaf _ ) fun _v12 _w_12 _q12 => ?_
    obtain ⟨_u12, rfl, _q12, _lo12, _cw_12⟩ := _q12
    have _cw_12z := _cw_12.size
    have E := E.trans _cw_12
    obtain ⟨_Au12, _Cu12, _eu12⟩ := _q12.val
    subst _eu12
    have _lu12 := _q12.len
    have _hiu12 := _q12.lt
    refine WL_s rfl rfl ?_
    have _f_13 := ((_m4.ch0 _cw_9).ch0 _cw_12)
    refine s_storeA (off := 0) 1 _f_13 sz26 rfl (us := [(.slice _Au12 ([(⟨1, 0, 0, 0⟩ : Token)]).length _Cu12)]) rfl rfl rfl rfl fun _w_14 _m_15 _cw_14 => ?_
    have _cw_14z := _cw_14.size
    have E := E.step _cw_14 (fun i hi => .inl (by have _h1 := List.mem_singleton.1 hi; omega))
    replace _m_15 : Blk _w_14 _b4 26 [(.slice _Au12 ([(⟨1, 0, 0, 0⟩ : Token)]).length _Cu12)] := _m_15
    refine WL_nil ?_
    refine thn_nrm (_hK_11 _ _ ?_)
    clear _hK_11
    refine W_ret (inB_ret (thn_ret ?_))
    clear _hK_5
    have _f_17 := (_q12.ch _cw_14 (fun g hg hm => by have _h0 := List.mem_singleton.1 hm; have _h2 := _lo12 _ hg; have _h3 := _hiu12 _ hg; omega))
    have _o_16 : Ol Token.cs 52 4 _w_14 (.slice _Au12 ([(⟨1, 0, 0, 0⟩ : Token)]).length _Cu12) (catE a b) := by
      have hx := _f_17
      (unfold catE; simp_all)
    exact ret_intro [_] (resOf_loadA _m_15 rfl agg26 sz26 trivial) ⟨_, rfl, _o_16, Lo.down _lo12 (by omega), E⟩
  · have _kb_10 := _h8
    have _f_18 := ((_m3.ch0 _cw_4).ch0 _cw_9)
    refine WL_step rfl rfl (r_loadAtA0 _f_18.at_ agg26 sz26 rfl) ?_
    refine WL_s rfl rfl ?_
    have _f_19 := ((((_h_b.ch0 _cw_2).ch0 _cw_3).ch0 _cw_4).ch0 _cw_9)
    refine Step.call (r_call (xs := [.tmp 9, .const (Go.Value.int Go.IntKind.i64 1)]) fk79 rfl) (c_spec_l8Is _f_19 _ ) fun _v10 _w_20 _q10 => ?_
    obtain ⟨rfl, _cw_20⟩ := _q10
    have _cw_20z := _cw_20.size
    have E := E.trans _cw_20
    refine WL_step rfl rfl (r_pickF rfl rfl) ?_
    refine WL_step rfl rfl (r_assign rfl) ?_
    refine WL_nil ?_
    refine thn_nrm (_hK_6 _ _ ?_)
    clear _hK_6
    refine W_cond rfl (fun _h5 => ?_) (fun _h5 => ?_)
    · have _kb_21 := _h5
      refine W_seq fun _K_22 _hK_22 => ?_
      refine W_region ?_
      refine WL_s rfl rfl ?_
      refine Step.call (r_call (xs := [.const (Go.Value.int Go.IntKind.i64 1)]) fk59 rfl) (c_spec_l8Leaf _ ) fun _v12 _w_23 _q12 => ?_
      obtain ⟨_u12, rfl, _q12, _lo12, _cw_23⟩ := _q12
      have _cw_23z := _cw_23.size
      have E := E.trans _cw_23
      obtain ⟨_Au12, _Cu12, _eu12⟩ := _q12.val
      subst _eu12
      have _lu12 := _q12.len
      have _hiu12 := _q12.lt
      refine WL_s rfl rfl ?_
      have _f_24 := (((_m4.ch0 _cw_9).ch0 _cw_20).ch0 _cw_23)
      refine s_storeA (off := 0) 1 _f_24 sz26 rfl (us := [(.slice _Au12 ([(⟨1, 0, 0, 0⟩ : Token)]).length _Cu12)]) rfl rfl rfl rfl fun _w_25 _m_26 _cw_25 => ?_
      have _cw_25z := _cw_25.size
      have E := E.step _cw_25 (fun i hi => .inl (by have _h1 := List.mem_singleton.1 hi; omega))
      replace _m_26 : Blk _w_25 _b4 26 [(.slice _Au12 ([(⟨1, 0, 0, 0⟩ : Token)]).length _Cu12)] := _m_26
      refine WL_nil ?_
      refine thn_nrm (_hK_22 _ _ ?_)
      clear _hK_22
      refine W_ret (inB_ret (thn_ret ?_))
      clear _hK_5
      have _f_28 := (_q12.ch _cw_25 (fun g hg hm => by have _h0 := List.mem_singleton.1 hm; have _h2 := _lo12 _ hg; have _h3 := _hiu12 _ hg; omega))
      have _o_27 : Ol Token.cs 52 4 _w_25 (.slice _Au12 ([(⟨1, 0, 0, 0⟩ : Token)]).length _Cu12) (catE a b) := by
        have hx := _f_28
        (unfold catE; simp_all)
      exact ret_intro [_] (resOf_loadA _m_26 rfl agg26 sz26 trivial) ⟨_, rfl, _o_27, Lo.down _lo12 (by omega), E⟩
    · have _kb_21 := _h5
      refine W_seq fun _K_29 _hK_29 => ?_
      refine W_region ?_
      have _f_30 := ((_f_7.ch0 _cw_9).ch0 _cw_20)
      refine WL_step rfl rfl (r_loadAtA0 _f_30.at_ agg26 sz26 rfl) ?_
      refine WL_s rfl rfl ?_
      have _f_31 := ((_f_8.ch0 _cw_9).ch0 _cw_20)
      refine Step.call (r_call (xs := [.tmp 14, .const (Go.Value.int Go.IntKind.i64 2)]) fk79 rfl) (c_spec_l8Is _f_31 _ ) fun _v15 _w_32 _q15 => ?_
      obtain ⟨rfl, _cw_32⟩ := _q15
      have _cw_32z := _cw_32.size
      have E := E.trans _cw_32
      refine WL_step rfl rfl (r_assign rfl) ?_
      refine WL_nil ?_
      refine thn_nrm (_hK_29 _ _ ?_)
      clear _hK_29
      refine W_cond rfl (fun _h13 => ?_) (fun _h13 => ?_)
      · have _kb_33 := _h13
        refine W_seq fun _K_34 _hK_34 => ?_
        refine W_region ?_
        refine WL_step rfl rfl (r_fieldAddr fa26_0 rfl) ?_
        have _f_35 := ((_f_18.ch0 _cw_20).ch0 _cw_32)
        refine WL_step rfl rfl (r_loadAt _f_35.at_ agg24 rfl rfl) ?_
        refine WL_s rfl rfl ?_
        have _f_36 := ((_f_19.ch0 _cw_20).ch0 _cw_32)
        refine Step.call (r_call (xs := [.tmp 17]) fk31 rfl) (c_spec_l8Copy _f_36 (by omega)) fun _v18 _w_37 _q18 => ?_
        obtain ⟨_u18, rfl, _q18, _lo18, _cw_37⟩ := _q18
        have _cw_37z := _cw_37.size
        have E := E.trans _cw_37
        obtain ⟨_Au18, _Cu18, _eu18⟩ := _q18.val
        subst _eu18
        have _lu18 := _q18.len
        have _hiu18 := _q18.lt
        refine WL_s rfl rfl ?_
        have _f_38 := ((((_m4.ch0 _cw_9).ch0 _cw_20).ch0 _cw_32).ch0 _cw_37)
        refine s_storeA (off := 0) 1 _f_38 sz26 rfl (us := [(.slice _Au18 (b).length _Cu18)]) rfl rfl rfl rfl fun _w_39 _m_40 _cw_39 => ?_
        have _cw_39z := _cw_39.size
        have E := E.step _cw_39 (fun i hi => .inl (by have _h1 := List.mem_singleton.1 hi; omega))
        replace _m_40 : Blk _w_39 _b4 26 [(.slice _Au18 (b).length _Cu18)] := _m_40
        refine WL_nil ?_
        refine thn_nrm (_hK_34 _ _ ?_)
        clear _hK_34
        refine W_ret (inB_ret (thn_ret ?_))
        clear _hK_5
        have _f_42 := (_q18.ch _cw_39 (fun g hg hm => by have _h0 := List.mem_singleton.1 hm; have _h2 := _lo18 _ hg; have _h3 := _hiu18 _ hg; omega))
        have _o_41 : Ol Token.cs 52 4 _w_39 (.slice _Au18 (b).length _Cu18) (catE a b) := by
          have hx := _f_42
          (unfold catE; simp_all)
        exact ret_intro [_] (resOf_loadA _m_40 rfl agg26 sz26 trivial) ⟨_, rfl, _o_41, Lo.down _lo18 (by omega), E⟩
      · have _kb_33 := _h13
        refine W_seq fun _K_43 _hK_43 => ?_
        refine W_region ?_
        have _f_44 := ((_f_18.ch0 _cw_20).ch0 _cw_32)
        refine WL_step rfl rfl (r_loadAtA0 _f_44.at_ agg26 sz26 rfl) ?_
        refine WL_s rfl rfl ?_
        have _f_45 := ((_f_19.ch0 _cw_20).ch0 _cw_32)
        refine Step.call (r_call (xs := [.tmp 20, .const (Go.Value.int Go.IntKind.i64 2)]) fk79 rfl) (c_spec_l8Is _f_45 _ ) fun _v21 _w_46 _q21 => ?_
        obtain ⟨rfl, _cw_46⟩ := _q21
        have _cw_46z := _cw_46.size
        have E := E.trans _cw_46
        refine WL_step rfl rfl (r_assign rfl) ?_
        refine WL_nil ?_
        refine thn_nrm (_hK_43 _ _ ?_)
        clear _hK_43
        refine W_cond rfl (fun _h19 => ?_) (fun _h19 => ?_)
        · have _kb_47 := _h19
          refine W_seq fun _K_48 _hK_48 => ?_
          refine W_region ?_
          refine WL_step rfl rfl (r_fieldAddr fa26_0 rfl) ?_
          have _f_49 := ((_f_30.ch0 _cw_32).ch0 _cw_46)
          refine WL_step rfl rfl (r_loadAt _f_49.at_ agg24 rfl rfl) ?_
          refine WL_s rfl rfl ?_
          have _f_50 := ((_f_31.ch0 _cw_32).ch0 _cw_46)
          refine Step.call (r_call (xs := [.tmp 23]) fk31 rfl) (c_spec_l8Copy _f_50 (by omega)) fun _v24 _w_51 _q24 => ?_
          obtain ⟨_u24, rfl, _q24, _lo24, _cw_51⟩ := _q24
          have _cw_51z := _cw_51.size
          have E := E.trans _cw_51
          obtain ⟨_Au24, _Cu24, _eu24⟩ := _q24.val
          subst _eu24
          have _lu24 := _q24.len
          have _hiu24 := _q24.lt
          refine WL_s rfl rfl ?_
          have _f_52 := (((((_m4.ch0 _cw_9).ch0 _cw_20).ch0 _cw_32).ch0 _cw_46).ch0 _cw_51)
          refine s_storeA (off := 0) 1 _f_52 sz26 rfl (us := [(.slice _Au24 (a).length _Cu24)]) rfl rfl rfl rfl fun _w_53 _m_54 _cw_53 => ?_
          have _cw_53z := _cw_53.size
          have E := E.step _cw_53 (fun i hi => .inl (by have _h1 := List.mem_singleton.1 hi; omega))
          replace _m_54 : Blk _w_53 _b4 26 [(.slice _Au24 (a).length _Cu24)] := _m_54
          refine WL_nil ?_
          refine thn_nrm (_hK_48 _ _ ?_)
          clear _hK_48
          refine W_ret (inB_ret (thn_ret ?_))
          clear _hK_5
          have _f_56 := (_q24.ch _cw_53 (fun g hg hm => by have _h0 := List.mem_singleton.1 hm; have _h2 := _lo24 _ hg; have _h3 := _hiu24 _ hg; omega))
          have _o_55 : Ol Token.cs 52 4 _w_53 (.slice _Au24 (a).length _Cu24) (catE a b) := by
            have hx := _f_56
            (unfold catE; simp_all)
          exact ret_intro [_] (resOf_loadA _m_54 rfl agg26 sz26 trivial) ⟨_, rfl, _o_55, Lo.down _lo24 (by omega), E⟩
        · have _kb_47 := _h19
          refine W_skip ?_
          refine inB_nrm ?_
          refine thn_nrm (_hK_5 _ _ ?_)
          clear _hK_5
          refine W_seq fun _K_57 _hK_57 => ?_
          refine W_region ?_
          have _f_58 := ((_f_30.ch0 _cw_32).ch0 _cw_46)
          refine WL_step rfl rfl (r_loadAtA0 _f_58.at_ agg26 sz26 rfl) ?_
          have _f_59 := (_f_44.ch0 _cw_46)
          refine WL_step rfl rfl (r_loadAtA0 _f_59.at_ agg26 sz26 rfl) ?_
          refine WL_step rfl rfl (r_build (parts := [(0, .const (Go.Value.int Go.IntKind.i64 4))]) (cells := [(.int .i64 4), (.int .i64 0), (.int .i64 0), (.int .i64 0)]) zr52 pl52 rfl rfl) ?_
          refine WL_s rfl rfl ?_
          have _f_60 := ((_f_31.ch0 _cw_32).ch0 _cw_46)
          have _f_61 := (_f_45.ch0 _cw_46)
          refine Step.call (r_call (xs := [.tmp 25, .tmp 26, .tmp 27]) fk80 rfl) (c_spec_l8Join _f_60 _f_61 ⟨4, 0, 0, 0⟩ (by omega)) fun _v28 _w_62 _q28 => ?_
          obtain ⟨_u28, rfl, _q28, _lo28, _cw_62⟩ := _q28
          have _cw_62z := _cw_62.size
          have E := E.trans _cw_62
          obtain ⟨_Au28, _Cu28, _eu28⟩ := _q28.val
          subst _eu28
          have _lu28 := _q28.len
          have _hiu28 := _q28.lt
          refine WL_s rfl rfl ?_
          have _f_63 := (((((_m4.ch0 _cw_9).ch0 _cw_20).ch0 _cw_32).ch0 _cw_46).ch0 _cw_62)
          refine s_storeA (off := 0) 1 _f_63 sz26 rfl (us := [(.slice _Au28 (a ++ b ++ [(⟨4, 0, 0, 0⟩ : Token)]).length _Cu28)]) rfl rfl rfl rfl fun _w_64 _m_65 _cw_64 => ?_
          have _cw_64z := _cw_64.size
          have E := E.step _cw_64 (fun i hi => .inl (by have _h1 := List.mem_singleton.1 hi; omega))
          replace _m_65 : Blk _w_64 _b4 26 [(.slice _Au28 (a ++ b ++ [(⟨4, 0, 0, 0⟩ : Token)]).length _Cu28)] := _m_65
          refine WL_nil ?_
          refine thn_nrm (_hK_57 _ _ ?_)
          clear _hK_57
          refine W_ret ?_
          have _f_67 := (_q28.ch _cw_64 (fun g hg hm => by have _h0 := List.mem_singleton.1 hm; have _h2 := _lo28 _ hg; have _h3 := _hiu28 _ hg; omega))
          have _o_66 : Ol Token.cs 52 4 _w_64 (.slice _Au28 (a ++ b ++ [(⟨4, 0, 0, 0⟩ : Token)]).length _Cu28) (catE a b) := by
            have hx := _f_67
            (unfold catE; simp_all)
          exact ret_intro [_] (resOf_loadA _m_65 rfl agg26 sz26 trivial) ⟨_, rfl, _o_66, Lo.down _lo28 (by omega), E⟩

/-- spec.RepeatExpr -/
theorem c_spec_RepeatExpr {w : World} {LL_e _B_e : Nat} {_v_e : Value} {e : List Token} (_h_e : Ls Token.cs 4 w LL_e _B_e _v_e e) (low : Int) (high : Int) (hb : e.length ≤ 1048576) :
    Ctr Tryz.prog 64 #[(.agg #[_v_e]), (.int .i64 low), (.int .i64 high)] w (fun v w' => ∃ u, v = .agg #[u] ∧ Ol Token.cs 52 4 w' u (repE e low high) ∧ Lo w.heap.size u ∧ Ch [] w w') := by
  obtain ⟨_A_e, _C_e, _e1_e⟩ := _h_e.val
  subst _e1_e
  have _l_e := _h_e.len
  have _h_e := _h_e.here (by decide)
  have E := Ch.refl [] w
  refine Ctr_of_W (N := 36) (vs0 := [(.agg #[(.slice _A_e e.length _C_e)]), (.int .i64 low), (.int .i64 high)]) Tryz.func64 rfl rfl rfl ?_
  refine W_seq fun _K_1 _hK_1 => ?_
  refine W_region ?_
  refine WL_s rfl rfl ?_
  refine s_box rfl fun _b3 _w_2 _m3 _cw_2 _e3 => ?_
  have _cw_2z := _cw_2.size
  have E := E.trans _cw_2
  have _z3 := _m3.lt
  replace _m3 : Blk _w_2 _b3 26 [(.slice _A_e e.length _C_e)] := _m3
  refine WL_s rfl rfl ?_
  refine s_alloc zr26 fun _b6 _w_3 _m6 _cw_3 _e6 => ?_
  have _cw_3z := _cw_3.size
  have E := E.trans _cw_3
  have _z6 := _m6.lt
  replace _m6 : Blk _w_3 _b6 26 [(.slice none 0 0)] := _m6
  refine WL_nil ?_
  refine thn_nrm (_hK_1 _ _ ?_)
  clear _hK_1
  refine W_seq fun _K_4 _hK_4 => ?_
  refine W_seq fun _K_5 _hK_5 => ?_
  refine W_region ?_
  refine WL_step rfl rfl (r_move rfl) ?_
  refine WL_step rfl rfl (r_eql rfl rfl) ?_
  refine WL_step rfl rfl (r_move rfl) ?_
  refine WL_split (d := 10) rfl (fun _h10 => ?_) (fun _h10 => ?_)
  · have _kb_6 := _h10
    have _h10 := bt_d _h10
    refine WL_step rfl rfl (r_move rfl) ?_
    refine WL_step rfl rfl (r_eql rfl rfl) ?_
    refine WL_step rfl rfl (r_pickT rfl rfl) ?_
    refine WL_nil ?_
    refine thn_nrm (_hK_5 _ _ ?_)
    clear _hK_5
    refine W_cond rfl (fun _h13 => ?_) (fun _h13 => ?_)
    · have _kb_7 := _h13
      have _h13 := bt_d _h13
      refine W_seq fun _K_8 _hK_8 => ?_
      refine W_region ?_
      refine WL_s rfl rfl ?_
      refine Step.call (r_call (xs := [.const (Go.Value.int Go.IntKind.i64 2)]) fk59 rfl) (c_spec_l8Leaf _ ) fun _v14 _w_9 _q14 => ?_
      obtain ⟨_u14, rfl, _q14, _lo14, _cw_9⟩ := _q14
      have _cw_9z := _cw_9.size
      have E := E.trans _cw_9
      obtain ⟨_Au14, _Cu14, _eu14⟩ := _q14.val
      subst _eu14
      have _lu14 := _q14.len
      have _hiu14 := _q14.lt
      refine WL_s rfl rfl ?_
      have _f_10 := (_m6.ch0 _cw_9)
      refine s_storeA (off := 0) 1 _f_10 sz26 rfl (us := [(.slice _Au14 ([(⟨2, 0, 0, 0⟩ : Token)]).length _Cu14)]) rfl rfl rfl rfl fun _w_11 _m_12 _cw_11 => ?_
      have _cw_11z := _cw_11.size
      have E := E.step _cw_11 (fun i hi => .inl (by have _h1 := List.mem_singleton.1 hi; omega))
      replace _m_12 : Blk _w_11 _b6 26 [(.slice _Au14 ([(⟨2, 0, 0, 0⟩ : Token)]).length _Cu14)] := _m_12
      refine WL_nil ?_
      refine thn_nrm (_hK_8 _ _ ?_)
      clear _hK_8
      refine W_ret (thn_ret ?_)
      clear _hK_4
      have _f_14 := (_q14.ch _cw_11 (fun g hg hm => by have _h0 := List.mem_singleton.1 hm; have _h2 := _lo14 _ hg; have _h3 := _hiu14 _ hg; omega))
      have _o_13 : Ol Token.cs 52 4 _w_11 (.slice _Au14 ([(⟨2, 0, 0, 0⟩ : Token)]).length _Cu14) (repE e low high) := by
        have hx := _f_14
        (unfold repE; simp_all)
      exact ret_intro [_] (resOf_loadA _m_12 rfl agg26 sz26 trivial) ⟨_, rfl, _o_13, Lo.down _lo14 (by omega), E⟩
    · have _kb_7 := _h13
      have _h13 := bf_d _h13
      refine W_skip ?_
      refine thn_nrm (_hK_4 _ _ ?_)
      clear _hK_4
      refine W_seq fun _K_15 _hK_15 => ?_
      refine W_seq fun _K_16 _hK_16 => ?_
      refine W_region ?_
      refine WL_step rfl rfl (r_move rfl) ?_
      refine WL_step rfl rfl (r_eql rfl rfl) ?_
      refine WL_step rfl rfl (r_move rfl) ?_
      refine WL_split (d := 17) rfl (fun _h17 => ?_) (fun _h17 => ?_)
      · have _kb_17 := _h17
        have _h17 := bt_d _h17
        refine WL_step rfl rfl (r_move rfl) ?_
        refine WL_step rfl rfl (r_eql rfl rfl) ?_
        refine WL_step rfl rfl (r_pickT rfl rfl) ?_
        refine WL_nil ?_
        refine thn_nrm (_hK_16 _ _ ?_)
        clear _hK_16
        refine W_cond rfl (fun _h20 => ?_) (fun _h20 => ?_)
        · have _kb_18 := _h20
          have _h20 := bt_d _h20
          refine W_seq fun _K_19 _hK_19 => ?_
          refine W_region ?_
          refine WL_step rfl rfl (r_fieldAddr fa26_0 rfl) ?_
          have _f_20 := (_m3.ch0 _cw_3)
          refine WL_step rfl rfl (r_loadAt _f_20.at_ agg24 rfl rfl) ?_
          refine WL_s rfl rfl ?_
          have _f_21 := ((_h_e.ch0 _cw_2).ch0 _cw_3)
          refine Step.call (r_call (xs := [.tmp 22]) fk31 rfl) (c_spec_l8Copy _f_21 (by omega)) fun _v23 _w_22 _q23 => ?_
          obtain ⟨_u23, rfl, _q23, _lo23, _cw_22⟩ := _q23
          have _cw_22z := _cw_22.size
          have E := E.trans _cw_22
          obtain ⟨_Au23, _Cu23, _eu23⟩ := _q23.val
          subst _eu23
          have _lu23 := _q23.len
          have _hiu23 := _q23.lt
          refine WL_s rfl rfl ?_
          have _f_23 := (_m6.ch0 _cw_22)
          refine s_storeA (off := 0) 1 _f_23 sz26 rfl (us := [(.slice _Au23 (e).length _Cu23)]) rfl rfl rfl rfl fun _w_24 _m_25 _cw_24 => ?_
          have _cw_24z := _cw_24.size
          have E := E.step _cw_24 (fun i hi => .inl (by have _h1 := List.mem_singleton.1 hi; omega))
          replace _m_25 : Blk _w_24 _b6 26 [(.slice _Au23 (e).length _Cu23)] := _m_25
          refine WL_nil ?_
          refine thn_nrm (_hK_19 _ _ ?_)
          clear _hK_19
          refine W_ret (thn_ret ?_)
          clear _hK_15
          have _f_27 := (_q23.ch _cw_24 (fun g hg hm => by have _h0 := List.mem_singleton.1 hm; have _h2 := _lo23 _ hg; have _h3 := _hiu23 _ hg; omega))
          have _o_26 : Ol Token.cs 52 4 _w_24 (.slice _Au23 (e).length _Cu23) (repE e low high) := by
            have hx := _f_27
            (unfold repE; simp_all)
          exact ret_intro [_] (resOf_loadA _m_25 rfl agg26 sz26 trivial) ⟨_, rfl, _o_26, Lo.down _lo23 (by omega), E⟩
        · have _kb_18 := _h20
          have _h20 := bf_d _h20
          refine W_skip ?_
          refine thn_nrm (_hK_15 _ _ ?_)
          clear _hK_15
          refine W_seq fun _K_28 _hK_28 => ?_
          refine W_region ?_
          refine WL_step rfl rfl (r_fieldAddr fa26_0 rfl) ?_
          have _f_29 := (_m3.ch0 _cw_3)
          refine WL_step rfl rfl (r_loadAt _f_29.at_ agg24 rfl rfl) ?_
          refine WL_s rfl rfl ?_
          have _f_30 := ((_h_e.ch0 _cw_2).ch0 _cw_3)
          refine Step.call (r_call (xs := [.tmp 25]) fk31 rfl) (c_spec_l8Copy _f_30 (by omega)) fun _v26 _w_31 _q26 => ?_
          obtain ⟨_u26, rfl, _q26, _lo26, _cw_31⟩ := _q26
          have _cw_31z := _cw_31.size
          have E := E.trans _cw_31
          obtain ⟨_Au26, _Cu26, _eu26⟩ := _q26.val
          subst _eu26
          have _lu26 := _q26.len
          have _hiu26 := _q26.lt
          refine WL_s rfl rfl ?_
          refine s_alloc zr26 fun _b7 _w_32 _m7 _cw_32 _e7 => ?_
          have _cw_32z := _cw_32.size
          have E := E.trans _cw_32
          have _z7 := _m7.lt
          replace _m7 : Blk _w_32 _b7 26 [(.slice none 0 0)] := _m7
          refine WL_s rfl rfl ?_
          refine s_storeA (off := 0) 1 _m7 sz26 rfl (us := [(.slice _Au26 (e).length _Cu26)]) rfl rfl rfl rfl fun _w_33 _m_34 _cw_33 => ?_
          have _cw_33z := _cw_33.size
          have E := E.step _cw_33 (fun i hi => .inl (by have _h1 := List.mem_singleton.1 hi; omega))
          replace _m_34 : Blk _w_33 _b7 26 [(.slice _Au26 (e).length _Cu26)] := _m_34
          refine WL_nil ?_
          refine thn_nrm (_hK_28 _ _ ?_)
          clear _hK_28
          refine W_seq fun _K_35 _hK_35 => ?_
          refine W_region ?_
          refine WL_step rfl rfl (r_fieldAddr fa26_0 rfl) ?_
          refine WL_step rfl rfl (r_loadAt _m_34.at_ agg24 rfl rfl) ?_
          refine WL_step rfl rfl (r_move rfl) ?_
          refine WL_step rfl rfl (r_move rfl) ?_
          refine WL_step rfl rfl (r_build (parts := [(0, .const (Go.Value.int Go.IntKind.i64 7)), (2, .tmp 29), (3, .tmp 30)]) (cells := [(.int .i64 7), (.int .i64 0), (.int .i64 low), (.int .i64 high)]) zr52 pl52 rfl rfl) ?_
          refine WL_s rfl rfl ?_
          refine s_buildSlice (cs := Token.cs) (parts := [(0, .tmp 31)]) (⟨0, 0, 0, 0⟩ : Token) [(⟨7, 0, low, high⟩ : Token)] el24 sz52 zr52 Token.len (by decide) rfl rfl rfl (by decide) (by decide) rfl fun _v32 _w_36 _q32 _lo32 _cw_36 => ?_
          have _cw_36z := _cw_36.size
          have E := E.trans _cw_36
          obtain ⟨_Av32, _Cv32, _ev32⟩ := _q32.val
          subst _ev32
          have _lv32 := _q32.len
          have _hiv32 := _q32.lt
          refine WL_s rfl rfl ?_
          have _f_38 := (((_q26.ch0 _cw_32).ch _cw_33 (fun g hg hm => by have _h0 := List.mem_singleton.1 hm; have _h2 := _lo26 _ hg; have _h3 := _hiu26 _ hg; omega)).ch0 _cw_36)
          refine s_append (cs := Token.cs) el24 sz52 by52 zr52 rfl (by decide) Token.one _f_38 _q32.ls rfl rfl (by first | omega | (simp only [List.length_append, List.length_nil, List.length_cons, List.length_replicate, List.length_set, List.length_reverse, List.length_map] at *; omega) | (simp at *; omega)) (by first | omega | (simp only [List.length_append, List.length_nil, List.length_cons, List.length_replicate, List.length_set, List.length_reverse, List.length_map] at *; omega) | (simp at *; omega)) _lo26 (by omega) fun _v33 _w_37 _q33 _lo33 _ap33 _cw_37 => ?_
          have _cw_37z := _cw_37.size
          have E := E.step _cw_37 (fun i hi => .inl (by have _h1 := _lo26 _ hi; omega))
          obtain ⟨_Av33, _Cv33, _ev33⟩ := _q33.val
          subst _ev33
          have _lv33 := _q33.len
          have _hiv33 := _q33.lt
          refine WL_step rfl rfl (r_fieldAddr fa26_0 rfl) ?_
          refine WL_s rfl rfl ?_
          have _f_39 := ((_m_34.ch0 _cw_36).ch _cw_37 (fun hm => by have _h1 := _lo26 _ hm; have _h2 := _hiu26 _ hm; omega))
          refine s_store1 (off := 0) _f_39 sz24 rfl rfl rfl rfl fun _w_40 _m_41 _cw_40 => ?_
          have _cw_40z := _cw_40.size
          have E := E.step _cw_40 (fun i hi => .inl (by have _h1 := List.mem_singleton.1 hi; omega))
          replace _m_41 : Blk _w_40 _b7 26 [(.slice _Av33 ((e ++ [(⟨7, 0, low, high⟩ : Token)])).length _Cv33)] := _m_41
          refine WL_nil ?_
          refine thn_nrm (_hK_35 _ _ ?_)
          clear _hK_35
          refine W_seq fun _K_42 _hK_42 => ?_
          refine W_region ?_
          refine WL_step rfl rfl (r_loadAtA0 _m_41.at_ agg26 sz26 rfl) ?_
          refine WL_s rfl rfl ?_
          have _f_43 := ((((((_m6.ch0 _cw_31).ch0 _cw_32).ch _cw_33 (fun hm => by have _h1 := List.mem_singleton.1 hm; omega)).ch0 _cw_36).ch _cw_37 (fun hm => by have _h1 := _lo26 _ hm; have _h2 := _hiu26 _ hm; omega)).ch _cw_40 (fun hm => by have _h1 := List.mem_singleton.1 hm; omega))
          refine s_storeA (off := 0) 1 _f_43 sz26 rfl (us := [(.slice _Av33 ((e ++ [(⟨7, 0, low, high⟩ : Token)])).length _Cv33)]) rfl rfl rfl rfl fun _w_44 _m_45 _cw_44 => ?_
          have _cw_44z := _cw_44.size
          have E := E.step _cw_44 (fun i hi => .inl (by have _h1 := List.mem_singleton.1 hi; omega))
          replace _m_45 : Blk _w_44 _b6 26 [(.slice _Av33 ((e ++ [(⟨7, 0, low, high⟩ : Token)])).length _Cv33)] := _m_45
          refine WL_nil ?_
          refine thn_nrm (_hK_42 _ _ ?_)
          clear _hK_42
          refine W_ret ?_
          have _f_47 := ((_q33.ch _cw_40 (fun g hg hm => by have _h0 := List.mem_singleton.1 hm; rcases _ap33 with ea | ea; (rw [ea] at hg; have _h2 := _lo26 _ hg; have _h3 := _hiu26 _ hg; omega); (rw [ea] at hg; have _z1 := List.mem_singleton.1 hg; omega))).ch _cw_44 (fun g hg hm => by have _h0 := List.mem_singleton.1 hm; rcases _ap33 with ea | ea; (rw [ea] at hg; have _h2 := _lo26 _ hg; have _h3 := _hiu26 _ hg; omega); (rw [ea] at hg; have _z1 := List.mem_singleton.1 hg; omega)))
          have _o_46 : Ol Token.cs 52 4 _w_44 (.slice _Av33 ((e ++ [(⟨7, 0, low, high⟩ : Token)])).length _Cv33) (repE e low high) := by
            have hx := _f_47
            (unfold repE; simp_all)
          exact ret_intro [_] (resOf_loadA _m_45 rfl agg26 sz26 trivial) ⟨_, rfl, _o_46, Lo.down _lo33 (by omega), E⟩
      · have _kb_17 := _h17
        have _h17 := bf_d _h17
        refine WL_skip rfl rfl ?_
        refine WL_skip rfl rfl ?_
        refine WL_step rfl rfl (r_pickF rfl rfl) ?_
        refine WL_nil ?_
        refine thn_nrm (_hK_16 _ _ ?_)
        clear _hK_16
        refine W_condF rfl ?_
        refine W_skip ?_
        refine thn_nrm (_hK_15 _ _ ?_)
        clear _hK_15
        refine W_seq fun _K_48 _hK_48 => ?_
        refine W_region ?_
        refine WL_step rfl rfl (r_fieldAddr fa26_0 rfl) ?_
        have _f_49 := (_m3.ch0 _cw_3)
        refine WL_step rfl rfl (r_loadAt _f_49.at_ agg24 rfl rfl) ?_
        refine WL_s rfl rfl ?_
        have _f_50 := ((_h_e.ch0 _cw_2).ch0 _cw_3)
        refine Step.call (r_call (xs := [.tmp 25]) fk31 rfl) (c_spec_l8Copy _f_50 (by omega)) fun _v26 _w_51 _q26 => ?_
        obtain ⟨_u26, rfl, _q26, _lo26, _cw_51⟩ := _q26
        have _cw_51z := _cw_51.size
        have E := E.trans _cw_51
        obtain ⟨_Au26, _Cu26, _eu26⟩ := _q26.val
        subst _eu26
        have _lu26 := _q26.len
        have _hiu26 := _q26.lt
        refine WL_s rfl rfl ?_
        refine s_alloc zr26 fun _b7 _w_52 _m7 _cw_52 _e7 => ?_
        have _cw_52z := _cw_52.size
        have E := E.trans _cw_52
        have _z7 := _m7.lt
        replace _m7 : Blk _w_52 _b7 26 [(.slice none 0 0)] := _m7
        refine WL_s rfl rfl ?_
        refine s_storeA (off := 0) 1 _m7 sz26 rfl (us := [(.slice _Au26 (e).length _Cu26)]) rfl rfl rfl rfl fun _w_53 _m_54 _cw_53 => ?_
        have _cw_53z := _cw_53.size
        have E := E.step _cw_53 (fun i hi => .inl (by have _h1 := List.mem_singleton.1 hi; omega))
        replace _m_54 : Blk _w_53 _b7 26 [(.slice _Au26 (e).length _Cu26)] := _m_54
        refine WL_nil ?_
        refine thn_nrm (_hK_48 _ _ ?_)
        clear _hK_48
        refine W_seq fun _K_55 _hK_55 => ?_
        refine W_region ?_
        refine WL_step rfl rfl (r_fieldAddr fa26_0 rfl) ?_
        refine WL_step rfl rfl (r_loadAt _m_54.at_ agg24 rfl rfl) ?_
        refine WL_step rfl rfl (r_move rfl) ?_
        refine WL_step rfl rfl (r_move rfl) ?_
        refine WL_step rfl rfl (r_build (parts := [(0, .const (Go.Value.int Go.IntKind.i64 7)), (2, .tmp 29), (3, .tmp 30)]) (cells := [(.int .i64 7), (.int .i64 0), (.int .i64 low), (.int .i64 high)]) zr52 pl52 rfl rfl) ?_
        refine WL_s rfl rfl ?_
        refine s_buildSlice (cs := Token.cs) (parts := [(0, .tmp 31)]) (⟨0, 0, 0, 0⟩ : Token) [(⟨7, 0, low, high⟩ : Token)] el24 sz52 zr52 Token.len (by decide) rfl rfl rfl (by decide) (by decide) rfl fun _v32 _w_56 _q32 _lo32 _cw_56 => ?_
        have _cw_56z := _cw_56.size
        have E := E.trans _cw_56
        obtain ⟨_Av32, _Cv32, _ev32⟩ := _q32.val
        subst _ev32
        have _lv32 := _q32.len
        have _hiv32 := _q32.lt
        refine WL_s rfl rfl ?_
        have _f_58 := (((_q26.ch0 _cw_52).ch _cw_53 (fun g hg hm => by have _h0 := List.mem_singleton.1 hm; have _h2 := _lo26 _ hg; have _h3 := _hiu26 _ hg; omega)).ch0 _cw_56)
        refine s_append (cs := Token.cs) el24 sz52 by52 zr52 rfl (by decide) Token.one _f_58 _q32.ls rfl rfl (by first | omega | (simp only [List.length_append, List.length_nil, List.length_cons, List.length_replicate, List.length_set, List.length_reverse, List.length_map] at *; omega) | (simp at *; omega)) (by first | omega | (simp only [List.length_append, List.length_nil, List.length_cons, List.length_replicate, List.length_set, List.length_reverse, List.length_map] at *; omega) | (simp at *; omega)) _lo26 (by omega) fun _v33 _w_57 _q33 _lo33 _ap33 _cw_57 => ?_
        have _cw_57z := _cw_57.size
        have E := E.step _cw_57 (fun i hi => .inl (by have _h1 := _lo26 _ hi; omega))
        obtain ⟨_Av33, _Cv33, _ev33⟩ := _q33.val
        subst _ev33
        have _lv33 := _q33.len
        have _hiv33 := _q33.lt
        refine WL_step rfl rfl (r_fieldAddr fa26_0 rfl) ?_
        refine WL_s rfl rfl ?_
        have _f_59 := ((_m_54.ch0 _cw_56).ch _cw_57 (fun hm => by have _h1 := _lo26 _ hm; have _h2 := _hiu26 _ hm; omega))
        refine s_store1 (off := 0) _f_59 sz24 rfl rfl rfl rfl fun _w_60 _m_61 _cw_60 => ?_
        have _cw_60z := _cw_60.size
        have E := E.step _cw_60 (fun i hi => .inl (by have _h1 := List.mem_singleton.1 hi; omega))
        replace _m_61 : Blk _w_60 _b7 26 [(.slice _Av33 ((e ++ [(⟨7, 0, low, high⟩ : Token)])).length _Cv33)] := _m_61
        refine WL_nil ?_
        refine thn_nrm (_hK_55 _ _ ?_)
        clear _hK_55
        refine W_seq fun _K_62 _hK_62 => ?_
        refine W_region ?_
        refine WL_step rfl rfl (r_loadAtA0 _m_61.at_ agg26 sz26 rfl) ?_
        refine WL_s rfl rfl ?_
        have _f_63 := ((((((_m6.ch0 _cw_51).ch0 _cw_52).ch _cw_53 (fun hm => by have _h1 := List.mem_singleton.1 hm; omega)).ch0 _cw_56).ch _cw_57 (fun hm => by have _h1 := _lo26 _ hm; have _h2 := _hiu26 _ hm; omega)).ch _cw_60 (fun hm => by have _h1 := List.mem_singleton.1 hm; omega))
        refine s_storeA (off := 0) 1 _f_63 sz26 rfl (us := [(.slice _Av33 ((e ++ [(⟨7, 0, low, high⟩ : Token)])).length _Cv33)]) rfl rfl rfl rfl fun _w_64 _m_65 _cw_64 => ?_
        have _cw_64z := _cw_64.size
        have E := E.step _cw_64 (fun i hi => .inl (by have _h1 := List.mem_singleton.1 hi; omega))
        replace _m_65 : Blk _w_64 _b6 26 [(.slice _Av33 ((e ++ [(⟨7, 0, low, high⟩ : Token)])).length _Cv33)] := _m_65
        refine WL_nil ?_
        refine thn_nrm (_hK_62 _ _ ?_)
        clear _hK_62
        refine W_ret ?_
        have _f_67 := ((_q33.ch _cw_60 (fun g hg hm => by have _h0 := List.mem_singleton.1 hm; rcases _ap33 with ea | ea; (rw [ea] at hg; have _h2 := _lo26 _ hg; have _h3 := _hiu26 _ hg; omega); (rw [ea] at hg; have _z1 := List.mem_singleton.1 hg; omega))).ch _cw_64 (fun g hg hm => by have _h0 := List.mem_singleton.1 hm; rcases _ap33 with ea | ea; (rw [ea] at hg; have _h2 := _lo26 _ hg; have _h3 := _hiu26 _ hg; omega); (rw [ea] at hg; have _z1 := List.mem_singleton.1 hg; omega)))
        have _o_66 : Ol Token.cs 52 4 _w_64 (.slice _Av33 ((e ++ [(⟨7, 0, low, high⟩ : Token)])).length _Cv33) (repE e low high) := by
          have hx := _f_67
          (unfold repE; simp_all)
        exact ret_intro [_] (resOf_loadA _m_65 rfl agg26 sz26 trivial) ⟨_, rfl, _o_66, Lo.down _lo33 (by omega), E⟩
  · have _kb_6 := _h10
    have _h10 := bf_d _h10
    refine WL_skip rfl rfl ?_
    refine WL_skip rfl rfl ?_
    refine WL_step rfl rfl (r_pickF rfl rfl) ?_
    refine WL_nil ?_
    refine thn_nrm (_hK_5 _ _ ?_)
    clear _hK_5
    refine W_condF rfl ?_
    refine W_skip ?_
    refine thn_nrm (_hK_4 _ _ ?_)
    clear _hK_4
    refine W_seq fun _K_68 _hK_68 => ?_
    refine W_seq fun _K_69 _hK_69 => ?_
    refine W_region ?_
    refine WL_step rfl rfl (r_move rfl) ?_
    refine WL_step rfl rfl (r_eql rfl rfl) ?_
    refine WL_step rfl rfl (r_move rfl) ?_
    refine WL_split (d := 17) rfl (fun _h17 => ?_) (fun _h17 => ?_)
    · have _kb_70 := _h17
      have _h17 := bt_d _h17
      refine WL_step rfl rfl (r_move rfl) ?_
      refine WL_step rfl rfl (r_eql rfl rfl) ?_
      refine WL_step rfl rfl (r_pickT rfl rfl) ?_
      refine WL_nil ?_
      refine thn_nrm (_hK_69 _ _ ?_)
      clear _hK_69
      refine W_cond rfl (fun _h20 => ?_) (fun _h20 => ?_)
      · have _kb_71 := _h20
        have _h20 := bt_d _h20
        refine W_seq fun _K_72 _hK_72 => ?_
        refine W_region ?_
        refine WL_step rfl rfl (r_fieldAddr fa26_0 rfl) ?_
        have _f_73 := (_m3.ch0 _cw_3)
        refine WL_step rfl rfl (r_loadAt _f_73.at_ agg24 rfl rfl) ?_
        refine WL_s rfl rfl ?_
        have _f_74 := ((_h_e.ch0 _cw_2).ch0 _cw_3)
        refine Step.call (r_call (xs := [.tmp 22]) fk31 rfl) (c_spec_l8Copy _f_74 (by omega)) fun _v23 _w_75 _q23 => ?_
        obtain ⟨_u23, rfl, _q23, _lo23, _cw_75⟩ := _q23
        have _cw_75z := _cw_75.size
        have E := E.trans _cw_75
        obtain ⟨_Au23, _Cu23, _eu23⟩ := _q23.val
        subst _eu23
        have _lu23 := _q23.len
        have _hiu23 := _q23.lt
        refine WL_s rfl rfl ?_
        have _f_76 := (_m6.ch0 _cw_75)
        refine s_storeA (off := 0) 1 _f_76 sz26 rfl (us := [(.slice _Au23 (e).length _Cu23)]) rfl rfl rfl rfl fun _w_77 _m_78 _cw_77 => ?_
        have _cw_77z := _cw_77.size
        have E := E.step _cw_77 (fun i hi => .inl (by have _h1 := List.mem_singleton.1 hi; omega))
        replace _m_78 : Blk _w_77 _b6 26 [(.slice _Au23 (e).length _Cu23)] := _m_78
        refine WL_nil ?_
        refine thn_nrm (_hK_72 _ _ ?_)
        clear _hK_72
        refine W_ret (thn_ret ?_)
        clear _hK_68
        have _f_80 := (_q23.ch _cw_77 (fun g hg hm => by have _h0 := List.mem_singleton.1 hm; have _h2 := _lo23 _ hg; have _h3 := _hiu23 _ hg; omega))
        have _o_79 : Ol Token.cs 52 4 _w_77 (.slice _Au23 (e).length _Cu23) (repE e low high) := by
          have hx := _f_80
          (unfold repE; simp_all)
        exact ret_intro [_] (resOf_loadA _m_78 rfl agg26 sz26 trivial) ⟨_, rfl, _o_79, Lo.down _lo23 (by omega), E⟩
      · have _kb_71 := _h20
        have _h20 := bf_d _h20
        refine W_skip ?_
        refine thn_nrm (_hK_68 _ _ ?_)
        clear _hK_68
        refine W_seq fun _K_81 _hK_81 => ?_
        refine W_region ?_
        refine WL_step rfl rfl (r_fieldAddr fa26_0 rfl) ?_
        have _f_82 := (_m3.ch0 _cw_3)
        refine WL_step rfl rfl (r_loadAt _f_82.at_ agg24 rfl rfl) ?_
        refine WL_s rfl rfl ?_
        have _f_83 := ((_h_e.ch0 _cw_2).ch0 _cw_3)
        refine Step.call (r_call (xs := [.tmp 25]) fk31 rfl) (c_spec_l8Copy _f_83 (by omega)) fun _v26 _w_84 _q26 => ?_
        obtain ⟨_u26, rfl, _q26, _lo26, _cw_84⟩ := _q26
        have _cw_84z := _cw_84.size
        have E := E.trans _cw_84
        obtain ⟨_Au26, _Cu26, _eu26⟩ := _q26.val
        subst _eu26
        have _lu26 := _q26.len
        have _hiu26 := _q26.lt
        refine WL_s rfl rfl ?_
        refine s_alloc zr26 fun _b7 _w_85 _m7 _cw_85 _e7 => ?_
        have _cw_85z := _cw_85.size
        have E := E.trans _cw_85
        have _z7 := _m7.lt
        replace _m7 : Blk _w_85 _b7 26 [(.slice none 0 0)] := _m7
        refine WL_s rfl rfl ?_
        refine s_storeA (off := 0) 1 _m7 sz26 rfl (us := [(.slice _Au26 (e).length _Cu26)]) rfl rfl rfl rfl fun _w_86 _m_87 _cw_86 => ?_
        have _cw_86z := _cw_86.size
        have E := E.step _cw_86 (fun i hi => .inl (by have _h1 := List.mem_singleton.1 hi; omega))
        replace _m_87 : Blk _w_86 _b7 26 [(.slice _Au26 (e).length _Cu26)] := _m_87
        refine WL_nil ?_
        refine thn_nrm (_hK_81 _ _ ?_)
        clear _hK_81
        refine W_seq fun _K_88 _hK_88 => ?_
        refine W_region ?_
        refine WL_step rfl rfl (r_fieldAddr fa26_0 rfl) ?_
        refine WL_step rfl rfl (r_loadAt _m_87.at_ agg24 rfl rfl) ?_
        refine WL_step rfl rfl (r_move rfl) ?_
        refine WL_step rfl rfl (r_move rfl) ?_
        refine WL_step rfl rfl (r_build (parts := [(0, .const (Go.Value.int Go.IntKind.i64 7)), (2, .tmp 29), (3, .tmp 30)]) (cells := [(.int .i64 7), (.int .i64 0), (.int .i64 low), (.int .i64 high)]) zr52 pl52 rfl rfl) ?_
        refine WL_s rfl rfl ?_
        refine s_buildSlice (cs := Token.cs) (parts := [(0, .tmp 31)]) (⟨0, 0, 0, 0⟩ : Token) [(⟨7, 0, low, high⟩ : Token)] el24 sz52 zr52 Token.len (by decide) rfl rfl rfl (by decide) (by decide) rfl fun _v32 _w_89 _q32 _lo32 _cw_89 => ?_
        have _cw_89z := _cw_89.size
        have E := E.trans _cw_89
        obtain ⟨_Av32, _Cv32, _ev32⟩ := _q32.val
        subst _ev32
        have _lv32 := _q32.len
        have _hiv32 := _q32.lt
        refine WL_s rfl rfl ?_
        have _f_91 := (((_q26.ch0 _cw_85).ch _cw_86 (fun g hg hm => by have _h0 := List.mem_singleton.1 hm; have _h2 := _lo26 _ hg; have _h3 := _hiu26 _ hg; omega)).ch0 _cw_89)
        refine s_append (cs := Token.cs) el24 sz52 by52 zr52 rfl (by decide) Token.one _f_91 _q32.ls rfl rfl (by first | omega | (simp only [List.length_append, List.length_nil, List.length_cons, List.length_replicate, List.length_set, List.length_reverse, List.length_map] at *; omega) | (simp at *; omega)) (by first | omega | (simp only [List.length_append, List.length_nil, List.length_cons, List.length_replicate, List.length_set, List.length_reverse, List.length_map] at *; omega) | (simp at *; omega)) _lo26 (by omega) fun _v33 _w_90 _q33 _lo33 _ap33 _cw_90 => ?_
        have _cw_90z := _cw_90.size
        have E := E.step _cw_90 (fun i hi => .inl (by have _h1 := _lo26 _ hi; omega))
        obtain ⟨_Av33, _Cv33, _ev33⟩ := _q33.val
        subst _ev33
        have _lv33 := _q33.len
        have _hiv33 := _q33.lt
        refine WL_step rfl rfl (r_fieldAddr fa26_0 rfl) ?_
        refine WL_s rfl rfl ?_
        have _f_92 := ((_m_87.ch0 _cw_89).ch _cw_90 (fun hm => by have _h1 := _lo26 _ hm; have _h2 := _hiu26 _ hm; omega))
        refine s_store1 (off := 0) _f_92 sz24 rfl rfl rfl rfl fun _w_93 _m_94 _cw_93 => ?_
        have _cw_93z := _cw_93.size
        have E := E.step _cw_93 (fun i hi => .inl (by have _h1 := List.mem_singleton.1 hi; omega))
        replace _m_94 : Blk _w_93 _b7 26 [(.slice _Av33 ((e ++ [(⟨7, 0, low, high⟩ : Token)])).length _Cv33)] := _m_94
        refine WL_nil ?_
        refine thn_nrm (_hK_88 _ _ ?_)
        clear _hK_88
        refine W_seq fun _K_95 _hK_95 => ?_
        refine W_region ?_
        refine WL_step rfl rfl (r_loadAtA0 _m_94.at_ agg26 sz26 rfl) ?_
        refine WL_s rfl rfl ?_
        have _f_96 := ((((((_m6.ch0 _cw_84).ch0 _cw_85).ch _cw_86 (fun hm => by have _h1 := List.mem_singleton.1 hm; omega)).ch0 _cw_89).ch _cw_90 (fun hm => by have _h1 := _lo26 _ hm; have _h2 := _hiu26 _ hm; omega)).ch _cw_93 (fun hm => by have _h1 := List.mem_singleton.1 hm; omega))
        refine s_storeA (off := 0) 1 _f_96 sz26 rfl (us := [(.slice _Av33 ((e ++ [(⟨7, 0, low, high⟩ : Token)])).length _Cv33)]) rfl rfl rfl rfl fun _w_97 _m_98 _cw_97 => ?_
        have _cw_97z := _cw_97.size
        have E := E.step _cw_97 (fun i hi => .inl (by have _h1 := List.mem_singleton.1 hi; omega))
        replace _m_98 : Blk _w_97 _b6 26 [(.slice _Av33 ((e ++ [(⟨7, 0, low, high⟩ : Token)])).length _Cv33)] := _m_98
        refine WL_nil ?_
        refine thn_nrm (_hK_95 _ _ ?_)
        clear _hK_95
        refine W_ret ?_
        have _f_100 := ((_q33.ch _cw_93 (fun g hg hm => by have _h0 := List.mem_singleton.1 hm; rcases _ap33 with ea | ea; (rw [ea] at hg; have _h2 := _lo26 _ hg; have _h3 := _hiu26 _ hg; omega); (rw [ea] at hg; have _z1 := List.mem_singleton.1 hg; omega))).ch _cw_97 (fun g hg hm => by have _h0 := List.mem_singleton.1 hm; rcases _ap33 with ea | ea; (rw [ea] at hg; have _h2 := _lo26 _ hg; have _h3 := _hiu26 _ hg; omega); (rw [ea] at hg; have _z1 := List.mem_singleton.1 hg; omega)))
        have _o_99 : Ol Token.cs 52 4 _w_97 (.slice _Av33 ((e ++ [(⟨7, 0, low, high⟩ : Token)])).length _Cv33) (repE e low high) := by
          have hx := _f_100
          (unfold repE; simp_all)
        exact ret_intro [_] (resOf_loadA _m_98 rfl agg26 sz26 trivial) ⟨_, rfl, _o_99, Lo.down _lo33 (by omega), E⟩
    · have _kb_70 := _h17
      have _h17 := bf_d _h17
      refine WL_skip rfl rfl ?_
      refine WL_skip rfl rfl ?_
      refine WL_step rfl rfl (r_pickF rfl rfl) ?_
      refine WL_nil ?_
      refine thn_nrm (_hK_69 _ _ ?_)
      clear _hK_69
      refine W_condF rfl ?_
      refine W_skip ?_
      refine thn_nrm (_hK_68 _ _ ?_)
      clear _hK_68
      refine W_seq fun _K_101 _hK_101 => ?_
      refine W_region ?_
      refine WL_step rfl rfl (r_fieldAddr fa26_0 rfl) ?_
      have _f_102 := (_m3.ch0 _cw_3)
      refine WL_step rfl rfl (r_loadAt _f_102.at_ agg24 rfl rfl) ?_
      refine WL_s rfl rfl ?_
      have _f_103 := ((_h_e.ch0 _cw_2).ch0 _cw_3)
      refine Step.call (r_call (xs := [.tmp 25]) fk31 rfl) (c_spec_l8Copy _f_103 (by omega)) fun _v26 _w_104 _q26 => ?_
      obtain ⟨_u26, rfl, _q26, _lo26, _cw_104⟩ := _q26
      have _cw_104z := _cw_104.size
      have E := E.trans _cw_104
      obtain ⟨_Au26, _Cu26, _eu26⟩ := _q26.val
      subst _eu26
      have _lu26 := _q26.len
      have _hiu26 := _q26.lt
      refine WL_s rfl rfl ?_
      refine s_alloc zr26 fun _b7 _w_105 _m7 _cw_105 _e7 => ?_
      have _cw_105z := _cw_105.size
      have E := E.trans _cw_105
      have _z7 := _m7.lt
      replace _m7 : Blk _w_105 _b7 26 [(.slice none 0 0)] := _m7
      refine WL_s rfl rfl ?_
      refine s_storeA (off := 0) 1 _m7 sz26 rfl (us := [(.slice _Au26 (e).length _Cu26)]) rfl rfl rfl rfl fun _w_106 _m_107 _cw_106 => ?_
      have _cw_106z := _cw_106.size
      have E := E.step _cw_106 (fun i hi => .inl (by have _h1 := List.mem_singleton.1 hi; omega))
      replace _m_107 : Blk _w_106 _b7 26 [(.slice _Au26 (e).length _Cu26)] := _m_107
      refine WL_nil ?_
      refine thn_nrm (_hK_101 _ _ ?_)
      clear _hK_101
      refine W_seq fun _K_108 _hK_108 => ?_
      refine W_region ?_
      refine WL_step rfl rfl (r_fieldAddr fa26_0 rfl) ?_
      refine WL_step rfl rfl (r_loadAt _m_107.at_ agg24 rfl rfl) ?_
      refine WL_step rfl rfl (r_move rfl) ?_
      refine WL_step rfl rfl (r_move rfl) ?_
      refine WL_step rfl rfl (r_build (parts := [(0, .const (Go.Value.int Go.IntKind.i64 7)), (2, .tmp 29), (3, .tmp 30)]) (cells := [(.int .i64 7), (.int .i64 0), (.int .i64 low), (.int .i64 high)]) zr52 pl52 rfl rfl) ?_
      refine WL_s rfl rfl ?_
      refine s_buildSlice (cs := Token.cs) (parts := [(0, .tmp 31)]) (⟨0, 0, 0, 0⟩ : Token) [(⟨7, 0, low, high⟩ : Token)] el24 sz52 zr52 Token.len (by decide) rfl rfl rfl (by decide) (by decide) rfl fun _v32 _w_109 _q32 _lo32 _cw_109 => ?_
      have _cw_109z := _cw_109.size
      have E := E.trans _cw_109
      obtain ⟨_Av32, _Cv32, _ev32⟩ := _q32.val
      subst _ev32
      have _lv32 := _q32.len
      have _hiv32 := _q32.lt
      refine WL_s rfl rfl ?_
      have _f_111 := (((_q26.ch0 _cw_105).ch _cw_106 (fun g hg hm => by have _h0 := List.mem_singleton.1 hm; have _h2 := _lo26 _ hg; have _h3 := _hiu26 _ hg; omega)).ch0 _cw_109)
      refine s_append (cs := Token.cs) el24 sz52 by52 zr52 rfl (by decide) Token.one _f_111 _q32.ls rfl rfl (by first | omega | (simp only [List.length_append, List.length_nil, List.length_cons, List.length_replicate, List.length_set, List.length_reverse, List.length_map] at *; omega) | (simp at *; omega)) (by first | omega | (simp only [List.length_append, List.length_nil, List.length_cons, List.length_replicate, List.length_set, List.length_reverse, List.length_map] at *; omega) | (simp at *; omega)) _lo26 (by omega) fun _v33 _w_110 _q33 _lo33 _ap33 _cw_110 => ?_
      have _cw_110z := _cw_110.size
      have E := E.step _cw_110 (fun i hi => .inl (by have _h1 := _lo26 _ hi; omega))
      obtain ⟨_Av33, _Cv33, _ev33⟩ := _q33.val
      subst _ev33
      have _lv33 := _q33.len
      have _hiv33 := _q33.lt
      refine WL_step rfl rfl (r_fieldAddr fa26_0 rfl) ?_
      refine WL_s rfl rfl ?_
      have _f_112 := ((_m_107.ch0 _cw_109).ch _cw_110 (fun hm => by have _h1 := _lo26 _ hm; have _h2 := _hiu26 _ hm; omega))
      refine s_store1 (off := 0) _f_112 sz24 rfl rfl rfl rfl fun _w_113 _m_114 _cw_113 => ?_
      have _cw_113z := _cw_113.size
      have E := E.step _cw_113 (fun i hi => .inl (by have _h1 := List.mem_singleton.1 hi; omega))
      replace _m_114 : Blk _w_113 _b7 26 [(.slice _Av33 ((e ++ [(⟨7, 0, low, high⟩ : Token)])).length _Cv33)] := _m_114
      refine WL_nil ?_
      refine thn_nrm (_hK_108 _ _ ?_)
      clear _hK_108
      refine W_seq fun _K_115 _hK_115 => ?_
      refine W_region ?_
      refine WL_step rfl rfl (r_loadAtA0 _m_114.at_ agg26 sz26 rfl) ?_
      refine WL_s rfl rfl ?_
      have _f_116 := ((((((_m6.ch0 _cw_104).ch0 _cw_105).ch _cw_106 (fun hm => by have _h1 := List.mem_singleton.1 hm; omega)).ch0 _cw_109).ch _cw_110 (fun hm => by have _h1 := _lo26 _ hm; have _h2 := _hiu26 _ hm; omega)).ch _cw_113 (fun hm => by have _h1 := List.mem_singleton.1 hm; omega))
      refine s_storeA (off := 0) 1 _f_116 sz26 rfl (us := [(.slice _Av33 ((e ++ [(⟨7, 0, low, high⟩ : Token)])).length _Cv33)]) rfl rfl rfl rfl fun _w_117 _m_118 _cw_117 => ?_
      have _cw_117z := _cw_117.size
      have E := E.step _cw_117 (fun i hi => .inl (by have _h1 := List.mem_singleton.1 hi; omega))
      replace _m_118 : Blk _w_117 _b6 26 [(.slice _Av33 ((e ++ [(⟨7, 0, low, high⟩ : Token)])).length _Cv33)] := _m_118
      refine WL_nil ?_
      refine thn_nrm (_hK_115 _ _ ?_)
      clear _hK_115
      refine W_ret ?_
      have _f_120 := ((_q33.ch _cw_113 (fun g hg hm => by have _h0 := List.mem_singleton.1 hm; rcases _ap33 with ea | ea; (rw [ea] at hg; have _h2 := _lo26 _ hg; have _h3 := _hiu26 _ hg; omega); (rw [ea] at hg; have _z1 := List.mem_singleton.1 hg; omega))).ch _cw_117 (fun g hg hm => by have _h0 := List.mem_singleton.1 hm; rcases _ap33 with ea | ea; (rw [ea] at hg; have _h2 := _lo26 _ hg; have _h3 := _hiu26 _ hg; omega); (rw [ea] at hg; have _z1 := List.mem_singleton.1 hg; omega)))
      have _o_119 : Ol Token.cs 52 4 _w_117 (.slice _Av33 ((e ++ [(⟨7, 0, low, high⟩ : Token)])).length _Cv33) (repE e low high) := by
        have hx := _f_120
        (unfold repE; simp_all)
      exact ret_intro [_] (resOf_loadA _m_118 rfl agg26 sz26 trivial) ⟨_, rfl, _o_119, Lo.down _lo33 (by omega), E⟩

/-- spec.EqualExprs -/
theorem c_spec_EqualExprs {w : World} {LL_a _B_a : Nat} {_v_a : Value} {a : List Token} (_h_a : Ls Token.cs 4 w LL_a _B_a _v_a a) {LL_b _B_b : Nat} {_v_b : Value} {b : List Token} (_h_b : Ls Token.cs 4 w LL_b _B_b _v_b b) :
    Ctr Tryz.prog 10 #[(.agg #[_v_a]), (.agg #[_v_b])] w (fun v w' => v = .bool (decide (a = b)) ∧ Ch [] w w') := by
  obtain ⟨_A_a, _C_a, _e1_a⟩ := _h_a.val
  subst _e1_a
  have _l_a := _h_a.len
  have _h_a := _h_a.here (by decide)
  obtain ⟨_A_b, _C_b, _e1_b⟩ := _h_b.val
  subst _e1_b
  have _l_b := _h_b.len
  have _h_b := _h_b.here (by decide)
  have E := Ch.refl [] w
  refine Ctr_of_W (N := 31) (vs0 := [(.agg #[(.slice _A_a a.length _C_a)]), (.agg #[(.slice _A_b b.length _C_b)])]) Tryz.func10 rfl rfl rfl ?_
  refine W_seq fun _K_1 _hK_1 => ?_
  refine W_region ?_
  refine WL_s rfl rfl ?_
  refine s_box rfl fun _b2 _w_2 _m2 _cw_2 _e2 => ?_
  have _cw_2z := _cw_2.size
  have E := E.trans _cw_2
  have _z2 := _m2.lt
  replace _m2 : Blk _w_2 _b2 26 [(.slice _A_a a.length _C_a)] := _m2
  refine WL_s rfl rfl ?_
  refine s_box rfl fun _b3 _w_3 _m3 _cw_3 _e3 => ?_
  have _cw_3z := _cw_3.size
  have E := E.trans _cw_3
  have _z3 := _m3.lt
  replace _m3 : Blk _w_3 _b3 26 [(.slice _A_b b.length _C_b)] := _m3
  refine WL_step rfl rfl (r_assign rfl) ?_
  refine WL_nil ?_
  refine thn_nrm (_hK_1 _ _ ?_)
  clear _hK_1
  refine W_seq fun _K_4 _hK_4 => ?_
  refine W_seq fun _K_5 _hK_5 => ?_
  refine W_region ?_
  refine WL_step rfl rfl (r_fieldAddr fa26_0 rfl) ?_
  have _f_6 := (_m2.ch0 _cw_3)
  refine WL_step rfl rfl (r_loadAt _f_6.at_ agg24 rfl rfl) ?_
  refine WL_step rfl rfl (r_len (by rw [el24]; rfl) rfl) ?_
  refine WL_step rfl rfl (r_fieldAddr fa26_0 rfl) ?_
  refine WL_step rfl rfl (r_loadAt _m3.at_ agg24 rfl rfl) ?_
  refine WL_step rfl rfl (r_len (by rw [el24]; rfl) rfl) ?_
  refine WL_step rfl rfl (r_neq rfl rfl) ?_
  refine WL_nil ?_
  refine thn_nrm (_hK_5 _ _ ?_)
  clear _hK_5
  refine W_cond rfl (fun _h12 => ?_) (fun _h12 => ?_)
  · have _kb_7 := _h12
    have _h12 := bf_d (bt_n _h12)
    refine W_seq fun _K_8 _hK_8 => ?_
    refine W_region ?_
    refine WL_step rfl rfl (r_assign rfl) ?_
    refine WL_nil ?_
    refine thn_nrm (_hK_8 _ _ ?_)
    clear _hK_8
    refine W_ret (thn_ret ?_)
    clear _hK_4
    exact ret_intro [_] ⟨rfl, trivial⟩ ⟨congrArg Value.bool (decide_eq_false (fun e => _h12 (by rw [e]))).symm, E⟩
  · have _kb_7 := _h12
    have _h12 := bt_d (bf_n _h12)
    refine W_skip ?_
    refine thn_nrm (_hK_4 _ _ ?_)
    clear _hK_4
    refine W_seq fun _K_9 _hK_9 => ?_
    refine W_seq fun _K_10 _hK_10 => ?_
    refine W_region ?_
    refine WL_step rfl rfl (r_assign rfl) ?_
    refine WL_nil ?_
    refine thn_nrm (_hK_10 _ _ ?_)
    clear _hK_10
    refine W_block ?_
    refine W_loop (σ := Nat) (fun (k : Nat) => [(2, (.pointer (some ⟨_b2, 0, none⟩))), (3, (.pointer (some ⟨_b3, 0, none⟩))), (5, (.int .i64 ((k : Nat) : Int)))]) (fun (k : Nat) wx => Ch [] w wx ∧ _w_3.heap.size ≤ wx.heap.size ∧ (k ≤ a.length) ∧ (a.take k = b.take k) ∧ Blk wx _b2 26 [(.slice _A_a a.length _C_a)] ∧ Blk wx _b3 26 [(.slice _A_b b.length _C_b)]) (fun (k : Nat) => a.length - k) 0 (Sub.cons rfl (Sub.cons rfl (Sub.cons rfl (Sub.nil _)))) ⟨E, (Nat.le_refl _), (by omega), rfl, _f_6, _m3⟩ ?_
    rintro k _wr_11 ⟨E, _zz0, _hk, _ht, _F0_0, _F0_2⟩
    have _E0h := E
    have _E0hz := _E0h.size
    have _F0_0z := _F0_0.lt
    have _F0_2z := _F0_2.lt
    refine W_seq fun _K_12 _hK_12 => ?_
    refine W_seq fun _K_13 _hK_13 => ?_
    refine W_region ?_
    refine WL_step rfl rfl (r_move rfl) ?_
    refine WL_step rfl rfl (r_fieldAddr fa26_0 rfl) ?_
    refine WL_step rfl rfl (r_loadAt _F0_0.at_ agg24 rfl rfl) ?_
    refine WL_step rfl rfl (r_len (by rw [el24]; rfl) rfl) ?_
    refine WL_step rfl rfl (r_lss rfl rfl) ?_
    refine WL_nil ?_
    refine thn_nrm (_hK_13 _ _ ?_)
    clear _hK_13
    refine W_cond rfl (fun _h17 => ?_) (fun _h17 => ?_)
    · have _kb_14 := _h17
      have _h17 := bt_d _h17
      refine W_skip ?_
      refine thn_nrm (_hK_12 _ _ ?_)
      clear _hK_12
      refine W_seq fun _K_15 _hK_15 => ?_
      refine W_block ?_
      refine W_seq fun _K_16 _hK_16 => ?_
      refine W_drawC [] 11 mixed rfl fun _w_17 _cw_17 => ?_
      have _cw_17z := _cw_17.size
      have E := E.trans _cw_17
      refine DR_s 0 rfl (by kernel_rfl) rfl rfl (t_v (fun _ => (r_fieldAddr fa26_0 rfl)) ?_)
      have _f_18 := (_F0_0.ch0 _cw_17)
      refine DR_s 1 rfl (by kernel_rfl) rfl rfl (t_loadAt _f_18.at_ (fun i hi => absurd hi List.not_mem_nil) agg24 rfl rfl ?_)
      refine DR_s 2 rfl (by kernel_rfl) rfl rfl (t_v (fun _ => (r_move rfl)) ?_)
      have _f_19 := ((_h_a.ch0 _E0h).ch0 _cw_17)
      refine DR_s 3 rfl (by kernel_rfl) rfl rfl (t_index _f_19 Token.len el24 sz52 rfl rfl rfl (by omega) fun _p23 _y23 _hy23 _a23 => ?_)
      refine DR_s 4 rfl (by kernel_rfl) rfl rfl (t_loadAtA0 _a23 (fun i hi => absurd hi List.not_mem_nil) agg52 sz52 rfl ?_)
      refine DR_s 5 rfl (by kernel_rfl) rfl rfl (t_v (fun _ => (r_fieldAddr fa26_0 rfl)) ?_)
      have _f_20 := (_F0_2.ch0 _cw_17)
      refine DR_s 6 rfl (by kernel_rfl) rfl rfl (t_loadAt _f_20.at_ (fun i hi => absurd hi List.not_mem_nil) agg24 rfl rfl ?_)
      refine DR_s 7 rfl (by kernel_rfl) rfl rfl (t_v (fun _ => (r_move rfl)) ?_)
      have _f_21 := ((_h_b.ch0 _E0h).ch0 _cw_17)
      refine DR_s 8 rfl (by kernel_rfl) rfl rfl (t_index _f_21 Token.len el24 sz52 rfl rfl rfl (by omega) fun _p28 _y28 _hy28 _a28 => ?_)
      refine DR_s 9 rfl (by kernel_rfl) rfl rfl (t_loadAtA0 _a28 (fun i hi => absurd hi List.not_mem_nil) agg52 sz52 rfl ?_)
      refine DR_s 10 rfl (by kernel_rfl) rfl rfl (t_v (fun _ => (r_neqI [_y23.kind, _y23.letter, _y23.low, _y23.high] [_y28.kind, _y28.letter, _y28.low, _y28.high] ist52 rfl rfl rfl)) ?_)
      refine DR_done (by kernel_rfl) ?_
      refine thn_nrm (_hK_16 _ _ ?_)
      clear _hK_16
      refine W_cond rfl (fun _h30 => ?_) (fun _h30 => ?_)
      · have _kb_22 := _h30
        have _h30 := bf_d (bt_n _h30)
        refine W_seq fun _K_23 _hK_23 => ?_
        refine W_region ?_
        refine WL_step rfl rfl (r_assign rfl) ?_
        refine WL_nil ?_
        refine thn_nrm (_hK_23 _ _ ?_)
        clear _hK_23
        refine W_ret (inB_ret (thn_ret (thn_ret (inB_ret (thn_ret ?_)))))
        clear _hK_9 _hK_15
        exact ret_intro [_] ⟨rfl, trivial⟩ ⟨congrArg Value.bool (decide_eq_false (ne_of_get _hy23 _hy28 (fun e => _h30 (by rw [e])))).symm, E⟩
      · have _kb_22 := _h30
        have _h30 := bt_d (bf_n _h30)
        refine W_skip ?_
        refine inB_nrm ?_
        refine thn_nrm (_hK_15 _ _ ?_)
        clear _hK_15
        refine W_region ?_
        refine WL_step rfl rfl (r_move rfl) ?_
        refine WL_step rfl rfl (r_add (by omega) rfl rfl) ?_
        refine WL_step rfl rfl (r_assign rfl) ?_
        refine WL_nil ?_
        exact thn_nrm (Exists.intro (k + 1) ⟨⟨E, (by omega), (by omega), (take_eq_succ _ht _hy23 _hy28 (Token.inj _h30)), _f_18, _f_20⟩, Sub.cons rfl (Sub.cons rfl (Sub.cons rfl (Sub.nil _))), (by first | omega | (dsimp only; omega))⟩)
    · have _kb_14 := _h17
      have _h17 := bf_d _h17
      refine W_exit (thn_exit (thn_exit (inB_hit ?_)))
      refine thn_nrm (_hK_9 _ _ ?_)
      clear _hK_9
      refine W_seq fun _K_24 _hK_24 => ?_
      refine W_region ?_
      refine WL_step rfl rfl (r_assign rfl) ?_
      refine WL_nil ?_
      refine thn_nrm (_hK_24 _ _ ?_)
      clear _hK_24
      refine W_ret ?_
      clear _hK_12
      exact ret_intro [_] ⟨rfl, trivial⟩ ⟨congrArg Value.bool (decide_eq_true (eq_of_take _ht (by omega) (by omega))).symm, E⟩

/-- spec.UnionExpr -/
theorem c_spec_UnionExpr {w : World} {LL_a _B_a : Nat} {_v_a : Value} {a : List Token} (_h_a : Ls Token.cs 4 w LL_a _B_a _v_a a) {LL_b _B_b : Nat} {_v_b : Value} {b : List Token} (_h_b : Ls Token.cs 4 w LL_b _B_b _v_b b) (hb : a.length + b.length ≤ 1048576) :
    Ctr Tryz.prog 63 #[(.agg #[_v_a]), (.agg #[_v_b])] w (fun v w' => ∃ u, v = .agg #[u] ∧ Ol Token.cs 52 4 w' u (uniE a b) ∧ Lo w.heap.size u ∧ Ch [] w w') := by
  obtain ⟨_A_a, _C_a, _e1_a⟩ := _h_a.val
  subst _e1_a
  have _l_a := _h_a.len
  have _h_a := _h_a.here (by decide)
  obtain ⟨_A_b, _C_b, _e1_b⟩ := _h_b.val
  subst _e1_b
  have _l_b := _h_b.len
  have _h_b := _h_b.here (by decide)
  have E := Ch.refl [] w
  refine Ctr_of_W (N := 26) (vs0 := [(.agg #[(.slice _A_a a.length _C_a)]), (.agg #[(.slice _A_b b.length _C_b)])]) Tryz.func63 rfl rfl rfl ?_
  refine W_seq fun _K_1 _hK_1 => ?_
  refine W_region ?_
  refine WL_s rfl rfl ?_
  refine s_box rfl fun _b2 _w_2 _m2 _cw_2 _e2 => ?_
  have _cw_2z := _cw_2.size
  have E := E.trans _cw_2
  have _z2 := _m2.lt
  replace _m2 : Blk _w_2 _b2 26 [(.slice _A_a a.length _C_a)] := _m2
  refine WL_s rfl rfl ?_
  refine s_box rfl fun _b3 _w_3 _m3 _cw_3 _e3 => ?_
  have _cw_3z := _cw_3.size
  have E := E.trans _cw_3
  have _z3 := _m3.lt
  replace _m3 : Blk _w_3 _b3 26 [(.slice _A_b b.length _C_b)] := _m3
  refine WL_s rfl rfl ?_
  refine s_alloc zr26 fun _b4 _w_4 _m4 _cw_4 _e4 => ?_
  have _cw_4z := _cw_4.size
  have E := E.trans _cw_4
  have _z4 := _m4.lt
  replace _m4 : Blk _w_4 _b4 26 [(.slice none 0 0)] := _m4
  refine WL_nil ?_
  refine thn_nrm (_hK_1 _ _ ?_)
  clear _hK_1
  refine W_seq fun _K_5 _hK_5 => ?_
  refine W_block ?_
  refine W_seq fun _K_6 _hK_6 => ?_
  refine W_region ?_
  have _f_7 := ((_m2.ch0 _cw_3).ch0 _cw_4)
  refine WL_step rfl rfl (r_loadAtA0 _f_7.at_ agg26 sz26 rfl) ?_
  refine WL_s rfl rfl ?_
  have _f_8 := (((_h_a.ch0 _cw_2).ch0 _cw_3).ch0 _cw_4)
  refine Step.call (r_call (xs := [.tmp 6, .const (Go.Value.int Go.IntKind.i64 1)]) fk79 rfl) (c_spec_l8Is _f_8 _ ) fun _v7 _w_9 _q7 => ?_
  obtain ⟨rfl, _cw_9⟩ := _q7
  have _cw_9z := _cw_9.size
  have E := E.trans _cw_9
  refine WL_step rfl rfl (r_move rfl) ?_
  refine WL_split (d := 8) rfl (fun _h8 => ?_) (fun _h8 => ?_)
  · have _kb_10 := _h8
    refine WL_skip rfl rfl ?_
    refine WL_skip rfl rfl ?_
    refine WL_skip rfl rfl ?_
    refine WL_step rfl rfl (r_pickT rfl rfl) ?_
    refine WL_step rfl rfl (r_assign rfl) ?_
    refine WL_nil ?_
    refine thn_nrm (_hK_6 _ _ ?_)
    clear _hK_6
    refine W_condT rfl ?_
    refine W_seq fun _K_11 _hK_11 => ?_
    refine W_region ?_
    refine WL_step rfl rfl (r_fieldAddr fa26_0 rfl) ?_
    have _f_12 := ((_m3.ch0 _cw_4).ch0 _cw_9)
    refine WL_step rfl rfl (r_loadAt _f_12.at_ agg24 rfl rfl) ?_
    refine WL_s rfl rfl ?_
    have _f_13 := ((((_h_b.ch0 _cw_2).ch0 _cw_3).ch0 _cw_4).ch0 _cw_9)
    refine Step.call (r_call (xs := [.tmp 14]) fk31 rfl) (c_spec_l8Copy _f_13 (by omega)) fun _v15 _w_14 _q15 => ?_
    obtain ⟨_u15, rfl, _q15, _lo15, _cw_14⟩ := _q15
    have _cw_14z := _cw_14.size
    have E := E.trans _cw_14
    obtain ⟨_Au15, _Cu15, _eu15⟩ := _q15.val
    subst _eu15
    have _lu15 := _q15.len
    have _hiu15 := _q15.lt
    refine WL_s rfl rfl ?_
    have _f_15 := ((_m4.ch0 _cw_9).ch0 _cw_14)
    refine s_storeA (off := 0) 1 _f_15 sz26 rfl (us := [(.slice _Au15 (b).length _Cu15)]) rfl rfl rfl rfl fun _w_16 _m_17 _cw_16 => ?_
    have _cw_16z := _cw_16.size
    have E := E.step _cw_16 (fun i hi => .inl (by have _h1 := List.mem_singleton.1 hi; omega))
    replace _m_17 : Blk _w_16 _b4 26 [(.slice _Au15 (b).length _Cu15)] := _m_17
    refine WL_nil ?_
    refine thn_nrm (_hK_11 _ _ ?_)
    clear _hK_11
    refine W_ret (inB_ret (thn_ret ?_))
    clear _hK_5
    have _f_19 := (_q15.ch _cw_16 (fun g hg hm => by have _h0 := List.mem_singleton.1 hm; have _h2 := _lo15 _ hg; have _h3 := _hiu15 _ hg; omega))
    have _o_18 : Ol Token.cs 52 4 _w_16 (.slice _Au15 (b).length _Cu15) (uniE a b) := by
      have hx := _f_19
      (unfold uniE; simp_all)
    exact ret_intro [_] (resOf_loadA _m_17 rfl agg26 sz26 trivial) ⟨_, rfl, _o_18, Lo.down _lo15 (by omega), E⟩
  · have _kb_10 := _h8
    have _f_20 := (_f_7.ch0 _cw_9)
    refine WL_step rfl rfl (r_loadAtA0 _f_20.at_ agg26 sz26 rfl) ?_
    have _f_21 := ((_m3.ch0 _cw_4).ch0 _cw_9)
    refine WL_step rfl rfl (r_loadAtA0 _f_21.at_ agg26 sz26 rfl) ?_
    refine WL_s rfl rfl ?_
    have _f_22 := (_f_8.ch0 _cw_9)
    have _f_23 := ((((_h_b.ch0 _cw_2).ch0 _cw_3).ch0 _cw_4).ch0 _cw_9)
    refine Step.call (r_call (xs := [.tmp 9, .tmp 10]) fk10 rfl) (c_spec_EqualExprs _f_22 _f_23 ) fun _v11 _w_24 _q11 => ?_
    obtain ⟨rfl, _cw_24⟩ := _q11
    have _cw_24z := _cw_24.size
    have E := E.trans _cw_24
    refine WL_step rfl rfl (r_pickF rfl rfl) ?_
    refine WL_step rfl rfl (r_assign rfl) ?_
    refine WL_nil ?_
    refine thn_nrm (_hK_6 _ _ ?_)
    clear _hK_6
    refine W_cond rfl (fun _h5 => ?_) (fun _h5 => ?_)
    · have _kb_25 := _h5
      have _h5 := bt_d _h5
      refine W_seq fun _K_26 _hK_26 => ?_
      refine W_region ?_
      refine WL_step rfl rfl (r_fieldAddr fa26_0 rfl) ?_
      have _f_27 := (_f_21.ch0 _cw_24)
      refine WL_step rfl rfl (r_loadAt _f_27.at_ agg24 rfl rfl) ?_
      refine WL_s rfl rfl ?_
      have _f_28 := (_f_23.ch0 _cw_24)
      refine Step.call (r_call (xs := [.tmp 14]) fk31 rfl) (c_spec_l8Copy _f_28 (by omega)) fun _v15 _w_29 _q15 => ?_
      obtain ⟨_u15, rfl, _q15, _lo15, _cw_29⟩ := _q15
      have _cw_29z := _cw_29.size
      have E := E.trans _cw_29
      obtain ⟨_Au15, _Cu15, _eu15⟩ := _q15.val
      subst _eu15
      have _lu15 := _q15.len
      have _hiu15 := _q15.lt
      refine WL_s rfl rfl ?_
      have _f_30 := (((_m4.ch0 _cw_9).ch0 _cw_24).ch0 _cw_29)
      refine s_storeA (off := 0) 1 _f_30 sz26 rfl (us := [(.slice _Au15 (b).length _Cu15)]) rfl rfl rfl rfl fun _w_31 _m_32 _cw_31 => ?_
      have _cw_31z := _cw_31.size
      have E := E.step _cw_31 (fun i hi => .inl (by have _h1 := List.mem_singleton.1 hi; omega))
      replace _m_32 : Blk _w_31 _b4 26 [(.slice _Au15 (b).length _Cu15)] := _m_32
      refine WL_nil ?_
      refine thn_nrm (_hK_26 _ _ ?_)
      clear _hK_26
      refine W_ret (inB_ret (thn_ret ?_))
      clear _hK_5
      have _f_34 := (_q15.ch _cw_31 (fun g hg hm => by have _h0 := List.mem_singleton.1 hm; have _h2 := _lo15 _ hg; have _h3 := _hiu15 _ hg; omega))
      have _o_33 : Ol Token.cs 52 4 _w_31 (.slice _Au15 (b).length _Cu15) (uniE a b) := by
        have hx := _f_34
        (unfold uniE; simp_all)
      exact ret_intro [_] (resOf_loadA _m_32 rfl agg26 sz26 trivial) ⟨_, rfl, _o_33, Lo.down _lo15 (by omega), E⟩
    · have _kb_25 := _h5
      have _h5 := bf_d _h5
      refine W_seq fun _K_35 _hK_35 => ?_
      refine W_region ?_
      have _f_36 := (_f_21.ch0 _cw_24)
      refine WL_step rfl rfl (r_loadAtA0 _f_36.at_ agg26 sz26 rfl) ?_
      refine WL_s rfl rfl ?_
      have _f_37 := (_f_23.ch0 _cw_24)
      refine Step.call (r_call (xs := [.tmp 17, .const (Go.Value.int Go.IntKind.i64 1)]) fk79 rfl) (c_spec_l8Is _f_37 _ ) fun _v18 _w_38 _q18 => ?_
      obtain ⟨rfl, _cw_38⟩ := _q18
      have _cw_38z := _cw_38.size
      have E := E.trans _cw_38
      refine WL_step rfl rfl (r_assign rfl) ?_
      refine WL_nil ?_
      refine thn_nrm (_hK_35 _ _ ?_)
      clear _hK_35
      refine W_cond rfl (fun _h16 => ?_) (fun _h16 => ?_)
      · have _kb_39 := _h16
        refine W_seq fun _K_40 _hK_40 => ?_
        refine W_region ?_
        refine WL_step rfl rfl (r_fieldAddr fa26_0 rfl) ?_
        have _f_41 := ((_f_20.ch0 _cw_24).ch0 _cw_38)
        refine WL_step rfl rfl (r_loadAt _f_41.at_ agg24 rfl rfl) ?_
        refine WL_s rfl rfl ?_
        have _f_42 := ((_f_22.ch0 _cw_24).ch0 _cw_38)
        refine Step.call (r_call (xs := [.tmp 20]) fk31 rfl) (c_spec_l8Copy _f_42 (by omega)) fun _v21 _w_43 _q21 => ?_
        obtain ⟨_u21, rfl, _q21, _lo21, _cw_43⟩ := _q21
        have _cw_43z := _cw_43.size
        have E := E.trans _cw_43
        obtain ⟨_Au21, _Cu21, _eu21⟩ := _q21.val
        subst _eu21
        have _lu21 := _q21.len
        have _hiu21 := _q21.lt
        refine WL_s rfl rfl ?_
        have _f_44 := ((((_m4.ch0 _cw_9).ch0 _cw_24).ch0 _cw_38).ch0 _cw_43)
        refine s_storeA (off := 0) 1 _f_44 sz26 rfl (us := [(.slice _Au21 (a).length _Cu21)]) rfl rfl rfl rfl fun _w_45 _m_46 _cw_45 => ?_
        have _cw_45z := _cw_45.size
        have E := E.step _cw_45 (fun i hi => .inl (by have _h1 := List.mem_singleton.1 hi; omega))
        replace _m_46 : Blk _w_45 _b4 26 [(.slice _Au21 (a).length _Cu21)] := _m_46
        refine WL_nil ?_
        refine thn_nrm (_hK_40 _ _ ?_)
        clear _hK_40
        refine W_ret (inB_ret (thn_ret ?_))
        clear _hK_5
        have _f_48 := (_q21.ch _cw_45 (fun g hg hm => by have _h0 := List.mem_singleton.1 hm; have _h2 := _lo21 _ hg; have _h3 := _hiu21 _ hg; omega))
        have _o_47 : Ol Token.cs 52 4 _w_45 (.slice _Au21 (a).length _Cu21) (uniE a b) := by
          have hx := _f_48
          (unfold uniE; simp_all)
        exact ret_intro [_] (resOf_loadA _m_46 rfl agg26 sz26 trivial) ⟨_, rfl, _o_47, Lo.down _lo21 (by omega), E⟩
      · have _kb_39 := _h16
        refine W_skip ?_
        refine inB_nrm ?_
        refine thn_nrm (_hK_5 _ _ ?_)
        clear _hK_5
        refine W_seq fun _K_49 _hK_49 => ?_
        refine W_region ?_
        have _f_50 := ((_f_20.ch0 _cw_24).ch0 _cw_38)
        refine WL_step rfl rfl (r_loadAtA0 _f_50.at_ agg26 sz26 rfl) ?_
        have _f_51 := (_f_36.ch0 _cw_38)
        refine WL_step rfl rfl (r_loadAtA0 _f_51.at_ agg26 sz26 rfl) ?_
        refine WL_step rfl rfl (r_build (parts := [(0, .const (Go.Value.int Go.IntKind.i64 5))]) (cells := [(.int .i64 5), (.int .i64 0), (.int .i64 0), (.int .i64 0)]) zr52 pl52 rfl rfl) ?_
        refine WL_s rfl rfl ?_
        have _f_52 := ((_f_22.ch0 _cw_24).ch0 _cw_38)
        have _f_53 := (_f_37.ch0 _cw_38)
        refine Step.call (r_call (xs := [.tmp 22, .tmp 23, .tmp 24]) fk80 rfl) (c_spec_l8Join _f_52 _f_53 ⟨5, 0, 0, 0⟩ (by omega)) fun _v25 _w_54 _q25 => ?_
        obtain ⟨_u25, rfl, _q25, _lo25, _cw_54⟩ := _q25
        have _cw_54z := _cw_54.size
        have E := E.trans _cw_54
        obtain ⟨_Au25, _Cu25, _eu25⟩ := _q25.val
        subst _eu25
        have _lu25 := _q25.len
        have _hiu25 := _q25.lt
        refine WL_s rfl rfl ?_
        have _f_55 := ((((_m4.ch0 _cw_9).ch0 _cw_24).ch0 _cw_38).ch0 _cw_54)
        refine s_storeA (off := 0) 1 _f_55 sz26 rfl (us := [(.slice _Au25 (a ++ b ++ [(⟨5, 0, 0, 0⟩ : Token)]).length _Cu25)]) rfl rfl rfl rfl fun _w_56 _m_57 _cw_56 => ?_
        have _cw_56z := _cw_56.size
        have E := E.step _cw_56 (fun i hi => .inl (by have _h1 := List.mem_singleton.1 hi; omega))
        replace _m_57 : Blk _w_56 _b4 26 [(.slice _Au25 (a ++ b ++ [(⟨5, 0, 0, 0⟩ : Token)]).length _Cu25)] := _m_57
        refine WL_nil ?_
        refine thn_nrm (_hK_49 _ _ ?_)
        clear _hK_49
        refine W_ret ?_
        have _f_59 := (_q25.ch _cw_56 (fun g hg hm => by have _h0 := List.mem_singleton.1 hm; have _h2 := _lo25 _ hg; have _h3 := _hiu25 _ hg; omega))
        have _o_58 : Ol Token.cs 52 4 _w_56 (.slice _Au25 (a ++ b ++ [(⟨5, 0, 0, 0⟩ : Token)]).length _Cu25) (uniE a b) := by
          have hx := _f_59
          (unfold uniE; simp_all)
        exact ret_intro [_] (resOf_loadA _m_57 rfl agg26 sz26 trivial) ⟨_, rfl, _o_58, Lo.down _lo25 (by omega), E⟩

/-- spec.l8Start -/
theorem c_spec_l8Start {w : World} {LL_l _B_l : Nat} {_v_l : Value} {l : List Token} (_h_l : Ls Token.cs 4 w LL_l _B_l _v_l l) (p : List Token) (t : Tr) (hok : Okd t) (hl : l = p ++ t.flat) :
    Ctr Tryz.prog 60 #[_v_l] w (fun v w' => v = .int .i64 (((p.length : Nat) : Int)) ∧ Ch [] w w') := by
  obtain ⟨_A_l, _C_l, _e1_l⟩ := _h_l.val
  subst _e1_l
  have _l_l := _h_l.len
  have _h_l := _h_l.here (by decide)
  have E := Ch.refl [] w
  refine Ctr_of_W (N := 20) (vs0 := [(.slice _A_l l.length _C_l)]) Tryz.func60 rfl rfl rfl ?_
  refine W_seq fun _K_1 _hK_1 => ?_
  refine W_region ?_
  refine WL_step rfl rfl (r_assign rfl) ?_
  refine WL_nil ?_
  refine thn_nrm (_hK_1 _ _ ?_)
  clear _hK_1
  refine W_seq fun _K_2 _hK_2 => ?_
  refine W_region ?_
  refine WL_step rfl rfl (r_assign rfl) ?_
  refine WL_nil ?_
  refine thn_nrm (_hK_2 _ _ ?_)
  clear _hK_2
  refine W_seq fun _K_3 _hK_3 => ?_
  refine W_region ?_
  refine WL_step rfl rfl (r_move rfl) ?_
  refine WL_step rfl rfl (r_len (by rw [el24]; rfl) rfl) ?_
  refine WL_step rfl rfl (r_assign rfl) ?_
  refine WL_nil ?_
  refine thn_nrm (_hK_3 _ _ ?_)
  clear _hK_3
  refine W_seq fun _K_4 _hK_4 => ?_
  refine W_block ?_
  refine W_loop (σ := Int × Int × List Tr) (fun ⟨n, k, ts⟩ => [(0, (.slice _A_l l.length _C_l)), (2, (.int .i64 0)), (3, (.int .i64 n)), (4, (.int .i64 k))]) (fun ⟨n, k, ts⟩ wx => Ch [] w wx ∧ w.heap.size ≤ wx.heap.size ∧ (0 ≤ k) ∧ (k ≤ l.length) ∧ (n = ts.length) ∧ (l.take k.toNat = p ++ flats ts) ∧ (∀ x ∈ ts, Okd x)) (fun ⟨n, k, ts⟩ => k.toNat) (1, (l.length : Int), [t]) (Sub.cons rfl (Sub.cons rfl (Sub.cons rfl (Sub.cons rfl (Sub.nil _))))) ⟨E, (Nat.le_refl _), (by omega), (by omega), rfl, (by rw [show ((l.length : Int)).toNat = l.length from by omega, List.take_length, hl]; simp [flats]), (fun x hx => by rw [List.mem_singleton.1 hx]; exact hok)⟩ ?_
  rintro ⟨n, k, ts⟩ _wr_5 ⟨E, _zz0, _h0, _hk, hn, hp, ho⟩
  have _E0h := E
  have _E0hz := _E0h.size
  have s1 := start_len hp _h0
  refine W_seq fun _K_6 _hK_6 => ?_
  refine W_seq fun _K_7 _hK_7 => ?_
  refine W_region ?_
  refine WL_step rfl rfl (r_move rfl) ?_
  refine WL_step rfl rfl (r_gtr rfl rfl) ?_
  refine WL_nil ?_
  refine thn_nrm (_hK_7 _ _ ?_)
  clear _hK_7
  refine W_cond rfl (fun _h8 => ?_) (fun _h8 => ?_)
  · have _kb_8 := _h8
    have _h8 := bt_d _h8
    refine W_skip ?_
    refine thn_nrm (_hK_6 _ _ ?_)
    clear _hK_6
    refine W_block ?_
    refine W_seq fun _K_9 _hK_9 => ?_
    refine W_region ?_
    refine WL_step rfl rfl (r_move rfl) ?_
    refine WL_step rfl rfl (r_sub (by omega) rfl rfl) ?_
    refine WL_step rfl rfl (r_assign rfl) ?_
    refine WL_nil ?_
    refine thn_nrm (_hK_9 _ _ ?_)
    clear _hK_9
    refine W_region ?_
    refine WL_step rfl rfl (r_move rfl) ?_
    refine WL_step rfl rfl (r_sub (by omega) rfl rfl) ?_
    refine WL_step rfl rfl (r_move rfl) ?_
    refine WL_step rfl rfl (r_move rfl) ?_
    refine WL_s rfl rfl ?_
    have _f_10 := (_h_l.ch0 _E0h)
    refine (s_index (j := (k - 1).toNat) _f_10 Token.len el24 sz52 rfl rfl (by omega) (by omega) fun _p15 _y15 _hy15 _a15 => ?_)
    refine WL_step rfl rfl (r_loadAtA0 _a15 agg52 sz52 rfl) ?_
    refine WL_s rfl rfl ?_
    refine Step.call (r_call (xs := [.tmp 16]) fk50 rfl) (c_spec_l8Arity _y15 ) fun _v17 _w_11 _q17 => ?_
    obtain ⟨rfl, _cw_11⟩ := _q17
    have _cw_11z := _cw_11.size
    have E := E.trans _cw_11
    have _a17 := arT_cases _y15
    obtain ⟨s2, _p2, _l2, _o2⟩ := start_step hp ho (by omega) _h0 _hk _hy15
    have s3 := start_len _p2 (by omega)
    refine WL_step rfl rfl (r_add (by omega) rfl rfl) ?_
    refine WL_step rfl rfl (r_assign rfl) ?_
    refine WL_nil ?_
    refine inB_nrm ?_
    exact thn_nrm (Exists.intro (((n - 1) + arT _y15), (k - 1), s2) ⟨⟨E, (by omega), (by omega), (by omega), (by omega), _p2, _o2⟩, Sub.cons rfl (Sub.cons rfl (Sub.cons rfl (Sub.cons rfl (Sub.nil _)))), (by first | omega | (dsimp only; omega))⟩)
  · have _kb_8 := _h8
    have _h8 := bf_d _h8
    refine W_exit (thn_exit (thn_exit (inB_hit ?_)))
    refine thn_nrm (_hK_4 _ _ ?_)
    clear _hK_4
    refine W_seq fun _K_12 _hK_12 => ?_
    refine W_region ?_
    refine WL_step rfl rfl (r_move rfl) ?_
    refine WL_step rfl rfl (r_assign rfl) ?_
    refine WL_nil ?_
    refine thn_nrm (_hK_12 _ _ ?_)
    clear _hK_12
    refine W_ret ?_
    clear _hK_6
    exact ret_intro [_] ⟨rfl, trivial⟩ ⟨congrArg (Value.int .i64) (start_end hp hn (by omega) _h0 _hk), E⟩

/-- spec.l9Null -/
theorem c_spec_l9Null_n : ∀ (n : Nat) {w : World} {LL_l _B_l : Nat} {_v_l : Value} {l : List Token} (_h_l : Ls Token.cs 4 w LL_l _B_l _v_l l) (t : Tr) (hok : Okd t) (hl : l = t.flat) (hsz : l.length < n),
    Ctr Tryz.prog 62 #[_v_l] w (fun v w' => v = .bool (nullT t) ∧ Ch [] w w') := by
  intro n
  induction n with
  | zero => intros; omega
  | succ n ih =>
  intro w LL_l _B_l _v_l l _h_l t hok hl hsz
  obtain ⟨_A_l, _C_l, _e1_l⟩ := _h_l.val
  subst _e1_l
  have _l_l := _h_l.len
  have _h_l := _h_l.here (by decide)
  have E := Ch.refl [] w
  have hn1 := t.flat_pos; rw [← hl] at hn1
  refine Ctr_of_W (N := 64) (vs0 := [(.slice _A_l l.length _C_l)]) Tryz.func62 rfl rfl rfl ?_
  refine W_seq fun _K_1 _hK_1 => ?_
  refine W_region ?_
  refine WL_step rfl rfl (r_assign rfl) ?_
  refine WL_nil ?_
  refine thn_nrm (_hK_1 _ _ ?_)
  clear _hK_1
  refine W_seq fun _K_2 _hK_2 => ?_
  refine W_region ?_
  refine WL_step rfl rfl (r_move rfl) ?_
  refine WL_step rfl rfl (r_len (by rw [el24]; rfl) rfl) ?_
  refine WL_step rfl rfl (r_sub (by omega) rfl rfl) ?_
  refine WL_step rfl rfl (r_assign rfl) ?_
  refine WL_nil ?_
  refine thn_nrm (_hK_2 _ _ ?_)
  clear _hK_2
  refine W_seq fun _K_3 _hK_3 => ?_
  refine W_region ?_
  refine WL_step rfl rfl (r_move rfl) ?_
  refine WL_step rfl rfl (r_move rfl) ?_
  refine WL_s rfl rfl ?_
  refine (s_index (j := (((l.length : Nat) : Int) - 1).toNat) _h_l Token.len el24 sz52 rfl rfl (by omega) (by omega) fun _p12 _y12 _hy12 _a12 => ?_)
  have _ht := last_tok hl (by omega) _hy12
  have htk := congrArg Token.kind _ht
  have htl := congrArg Token.low _ht
  have hth := congrArg Token.high _ht
  refine WL_step rfl rfl (r_loadAtA0 _a12 agg52 sz52 rfl) ?_
  refine WL_s rfl rfl ?_
  refine s_alloc zr52 fun _b4 _w_4 _m4 _cw_4 _e4 => ?_
  have _cw_4z := _cw_4.size
  have E := E.trans _cw_4
  have _z4 := _m4.lt
  replace _m4 : Blk _w_4 _b4 52 [(.int .i64 0), (.int .i64 0), (.int .i64 0), (.int .i64 0)] := _m4
  refine WL_s rfl rfl ?_
  refine s_storeA (off := 0) 4 _m4 sz52 rfl (us := [(.int .i64 _y12.kind), (.int .i64 _y12.letter), (.int .i64 _y12.low), (.int .i64 _y12.high)]) rfl rfl rfl rfl fun _w_5 _m_6 _cw_5 => ?_
  have _cw_5z := _cw_5.size
  have E := E.step _cw_5 (fun i hi => .inl (by have _h1 := List.mem_singleton.1 hi; omega))
  replace _m_6 : Blk _w_5 _b4 52 [(.int .i64 _y12.kind), (.int .i64 _y12.letter), (.int .i64 _y12.low), (.int .i64 _y12.high)] := _m_6
  refine WL_nil ?_
  refine thn_nrm (_hK_3 _ _ ?_)
  clear _hK_3
  refine W_seq fun _K_7 _hK_7 => ?_
  refine W_seq fun _K_8 _hK_8 => ?_
  refine W_region ?_
  refine WL_step rfl rfl (r_fieldAddr fa52_0 rfl) ?_
  refine WL_step rfl rfl (r_loadAt _m_6.at_ agg3 rfl rfl) ?_
  refine WL_nil ?_
  refine thn_nrm (_hK_8 _ _ ?_)
  clear _hK_8
  refine W_block ?_
  refine W_seq fun _K_9 _hK_9 => ?_
  refine W_seq fun _K_10 _hK_10 => ?_
  refine W_region ?_
  refine WL_step rfl rfl (r_eql rfl rfl) ?_
  refine WL_step rfl rfl (r_assign rfl) ?_
  refine WL_nil ?_
  refine thn_nrm (_hK_10 _ _ ?_)
  clear _hK_10
  refine W_cond rfl (fun _h16 => ?_) (fun _h16 => ?_)
  · have _kb_11 := _h16
    have _h16 := bt_d _h16
    refine W_skip ?_
    refine thn_nrm (_hK_9 _ _ ?_)
    clear _hK_9
    refine W_condTk rfl _kb_11 ?_
    refine W_seq fun _K_12 _hK_12 => ?_
    refine W_region ?_
    refine WL_step rfl rfl (r_assign rfl) ?_
    refine WL_nil ?_
    refine thn_nrm (_hK_12 _ _ ?_)
    clear _hK_12
    refine W_ret (inB_ret (thn_ret ?_))
    clear _hK_7
    exact ret_intro [_] ⟨rfl, trivial⟩ ⟨congrArg Value.bool (by first | exact null26 hok (by omega) | exact null0 hok (by omega) | exact null4f hok (by omega) rfl _h29 | exact null4t hok (by omega) rfl rfl _h29 | exact null5t hok (by omega) rfl _h46 | exact null5f hok (by omega) rfl rfl _h46 | exact null7t hok (by omega) (by omega) | exact null7f hok (by omega) rfl (by omega)), E⟩
  · have _kb_11 := _h16
    have _h16 := bf_d _h16
    refine W_region ?_
    refine WL_step rfl rfl (r_eql rfl rfl) ?_
    refine WL_step rfl rfl (r_assign rfl) ?_
    refine WL_nil ?_
    refine thn_nrm (_hK_9 _ _ ?_)
    clear _hK_9
    refine W_cond rfl (fun _h16 => ?_) (fun _h16 => ?_)
    · have _kb_13 := _h16
      have _h16 := bt_d _h16
      refine W_seq fun _K_14 _hK_14 => ?_
      refine W_region ?_
      refine WL_step rfl rfl (r_assign rfl) ?_
      refine WL_nil ?_
      refine thn_nrm (_hK_14 _ _ ?_)
      clear _hK_14
      refine W_ret (inB_ret (thn_ret ?_))
      clear _hK_7
      exact ret_intro [_] ⟨rfl, trivial⟩ ⟨congrArg Value.bool (by first | exact null26 hok (by omega) | exact null0 hok (by omega) | exact null4f hok (by omega) rfl _h29 | exact null4t hok (by omega) rfl rfl _h29 | exact null5t hok (by omega) rfl _h46 | exact null5f hok (by omega) rfl rfl _h46 | exact null7t hok (by omega) (by omega) | exact null7f hok (by omega) rfl (by omega)), E⟩
    · have _kb_13 := _h16
      have _h16 := bf_d _h16
      refine W_seq fun _K_15 _hK_15 => ?_
      refine W_region ?_
      refine WL_step rfl rfl (r_eql rfl rfl) ?_
      refine WL_step rfl rfl (r_assign rfl) ?_
      refine WL_nil ?_
      refine thn_nrm (_hK_15 _ _ ?_)
      clear _hK_15
      refine W_cond rfl (fun _h19 => ?_) (fun _h19 => ?_)
      · have _kb_16 := _h19
        have _h19 := bt_d _h19
        obtain ⟨kt, ta, tb, rfl⟩ := hok.two (by omega)
        have hla : l = ta.flat ++ tb.flat ++ [kt] := hl
        have hn2 := len_2 hla
        refine W_seq fun _K_17 _hK_17 => ?_
        refine W_region ?_
        refine WL_step rfl rfl (r_move rfl) ?_
        refine WL_step rfl rfl (r_move rfl) ?_
        refine WL_s rfl rfl ?_
        have _f_18 := ((_h_l.ch0 _cw_4).ch _cw_5 (fun i hi => by have _h1 := List.mem_singleton.1 hi; omega))
        refine (s_cut (ys := (l.take ((((l.length : Nat) : Int) - 1).toNat))) 0 ((((l.length : Nat) : Int) - 1).toNat) _f_18 Token.len el24 sz52 rfl rfl ⟨_, _, rfl, by omega⟩ (by omega) (by omega) rfl fun _v23 _q23 _bb23 _ln23 => ?_)
        obtain ⟨_A23, _C23, _e23⟩ := _q23.val
        subst _e23
        have _l23 := _q23.len
        refine WL_s rfl rfl ?_
        refine Step.call (r_call (xs := [.tmp 23]) fk60 rfl) (c_spec_l8Start _q23 ta.flat tb hok.2.2 (cut_ab hla (by omega))) fun _v24 _w_19 _q24 => ?_
        obtain ⟨rfl, _cw_19⟩ := _q24
        have _cw_19z := _cw_19.size
        have E := E.trans _cw_19
        refine WL_step rfl rfl (r_assign rfl) ?_
        refine WL_nil ?_
        refine thn_nrm (_hK_17 _ _ ?_)
        clear _hK_17
        refine W_seq fun _K_20 _hK_20 => ?_
        refine W_region ?_
        refine WL_step rfl rfl (r_move rfl) ?_
        refine WL_step rfl rfl (r_move rfl) ?_
        refine WL_s rfl rfl ?_
        have _f_21 := (_f_18.ch0 _cw_19)
        refine (s_cut (ys := (l.take ta.flat.length)) 0 ta.flat.length _f_21 Token.len el24 sz52 rfl rfl ⟨_, _, rfl, by omega⟩ (by omega) (by omega) rfl fun _v27 _q27 _bb27 _ln27 => ?_)
        obtain ⟨_A27, _C27, _e27⟩ := _q27.val
        subst _e27
        have _l27 := _q27.len
        refine WL_s rfl rfl ?_
        refine Step.call (r_call (xs := [.tmp 27]) fk62 rfl) (ih _q27 ta hok.2.1 (cut_a hla (by omega)) (by simp only [List.length_take, List.length_drop]; omega)) fun _v28 _w_22 _q28 => ?_
        obtain ⟨rfl, _cw_22⟩ := _q28
        have _cw_22z := _cw_22.size
        have E := E.trans _cw_22
        refine WL_step rfl rfl (r_move rfl) ?_
        refine WL_split (d := 29) rfl (fun _h29 => ?_) (fun _h29 => ?_)
        · have _kb_23 := _h29
          refine WL_step rfl rfl (r_move rfl) ?_
          refine WL_step rfl rfl (r_move rfl) ?_
          refine WL_step rfl rfl (r_move rfl) ?_
          refine WL_s rfl rfl ?_
          have _f_24 := (_f_21.ch0 _cw_22)
          refine (s_cut (ys := ((l.drop ta.flat.length).take ((((l.length : Nat) : Int) - 1).toNat - ta.flat.length))) ta.flat.length ((((l.length : Nat) : Int) - 1).toNat) _f_24 Token.len el24 sz52 rfl ⟨_, _, rfl, by omega⟩ ⟨_, _, rfl, by omega⟩ (by omega) (by omega) rfl fun _v33 _q33 _bb33 _ln33 => ?_)
          obtain ⟨_A33, _C33, _e33⟩ := _q33.val
          subst _e33
          have _l33 := _q33.len
          refine WL_s rfl rfl ?_
          refine Step.call (r_call (xs := [.tmp 33]) fk62 rfl) (ih _q33 tb hok.2.2 (cut_b hla (by omega) (by omega)) (by simp only [List.length_take, List.length_drop]; omega)) fun _v34 _w_25 _q34 => ?_
          obtain ⟨rfl, _cw_25⟩ := _q34
          have _cw_25z := _cw_25.size
          have E := E.trans _cw_25
          refine WL_step rfl rfl (r_pickT rfl rfl) ?_
          refine WL_step rfl rfl (r_assign rfl) ?_
          refine WL_nil ?_
          refine thn_nrm (_hK_20 _ _ ?_)
          clear _hK_20
          refine W_ret (inB_ret (thn_ret ?_))
          clear _hK_7
          exact ret_intro [_] ⟨rfl, trivial⟩ ⟨congrArg Value.bool (by first | exact null26 hok (by omega) | exact null0 hok (by omega) | exact null4f hok (by omega) rfl _h29 | exact null4t hok (by omega) rfl rfl _h29 | exact null5t hok (by omega) rfl _h46 | exact null5f hok (by omega) rfl rfl _h46 | exact null7t hok (by omega) (by omega) | exact null7f hok (by omega) rfl (by omega)), E⟩
        · have _kb_23 := _h29
          refine WL_skip rfl rfl ?_
          refine WL_skip rfl rfl ?_
          refine WL_skip rfl rfl ?_
          refine WL_skip rfl rfl ?_
          refine WL_skip rfl rfl ?_
          refine WL_step rfl rfl (r_pickF rfl rfl) ?_
          refine WL_step rfl rfl (r_assign rfl) ?_
          refine WL_nil ?_
          refine thn_nrm (_hK_20 _ _ ?_)
          clear _hK_20
          refine W_ret (inB_ret (thn_ret ?_))
          clear _hK_7
          exact ret_intro [_] ⟨rfl, trivial⟩ ⟨congrArg Value.bool (by first | exact null26 hok (by omega) | exact null0 hok (by omega) | exact null4f hok (by omega) rfl _h29 | exact null4t hok (by omega) rfl rfl _h29 | exact null5t hok (by omega) rfl _h46 | exact null5f hok (by omega) rfl rfl _h46 | exact null7t hok (by omega) (by omega) | exact null7f hok (by omega) rfl (by omega)), E⟩
      · have _kb_16 := _h19
        have _h19 := bf_d _h19
        refine W_seq fun _K_26 _hK_26 => ?_
        refine W_region ?_
        refine WL_step rfl rfl (r_eql rfl rfl) ?_
        refine WL_step rfl rfl (r_assign rfl) ?_
        refine WL_nil ?_
        refine thn_nrm (_hK_26 _ _ ?_)
        clear _hK_26
        refine W_cond rfl (fun _h36 => ?_) (fun _h36 => ?_)
        · have _kb_27 := _h36
          have _h36 := bt_d _h36
          obtain ⟨kt, ta, tb, rfl⟩ := hok.two (by omega)
          have hla : l = ta.flat ++ tb.flat ++ [kt] := hl
          have hn2 := len_2 hla
          refine W_seq fun _K_28 _hK_28 => ?_
          refine W_region ?_
          refine WL_step rfl rfl (r_move rfl) ?_
          refine WL_step rfl rfl (r_move rfl) ?_
          refine WL_s rfl rfl ?_
          have _f_29 := ((_h_l.ch0 _cw_4).ch _cw_5 (fun i hi => by have _h1 := List.mem_singleton.1 hi; omega))
          refine (s_cut (ys := (l.take ((((l.length : Nat) : Int) - 1).toNat))) 0 ((((l.length : Nat) : Int) - 1).toNat) _f_29 Token.len el24 sz52 rfl rfl ⟨_, _, rfl, by omega⟩ (by omega) (by omega) rfl fun _v40 _q40 _bb40 _ln40 => ?_)
          obtain ⟨_A40, _C40, _e40⟩ := _q40.val
          subst _e40
          have _l40 := _q40.len
          refine WL_s rfl rfl ?_
          refine Step.call (r_call (xs := [.tmp 40]) fk60 rfl) (c_spec_l8Start _q40 ta.flat tb hok.2.2 (cut_ab hla (by omega))) fun _v41 _w_30 _q41 => ?_
          obtain ⟨rfl, _cw_30⟩ := _q41
          have _cw_30z := _cw_30.size
          have E := E.trans _cw_30
          refine WL_step rfl rfl (r_assign rfl) ?_
          refine WL_nil ?_
          refine thn_nrm (_hK_28 _ _ ?_)
          clear _hK_28
          refine W_seq fun _K_31 _hK_31 => ?_
          refine W_region ?_
          refine WL_step rfl rfl (r_move rfl) ?_
          refine WL_step rfl rfl (r_move rfl) ?_
          refine WL_s rfl rfl ?_
          have _f_32 := (_f_29.ch0 _cw_30)
          refine (s_cut (ys := (l.take ta.flat.length)) 0 ta.flat.length _f_32 Token.len el24 sz52 rfl rfl ⟨_, _, rfl, by omega⟩ (by omega) (by omega) rfl fun _v44 _q44 _bb44 _ln44 => ?_)
          obtain ⟨_A44, _C44, _e44⟩ := _q44.val
          subst _e44
          have _l44 := _q44.len
          refine WL_s rfl rfl ?_
          refine Step.call (r_call (xs := [.tmp 44]) fk62 rfl) (ih _q44 ta hok.2.1 (cut_a hla (by omega)) (by simp only [List.length_take, List.length_drop]; omega)) fun _v45 _w_33 _q45 => ?_
          obtain ⟨rfl, _cw_33⟩ := _q45
          have _cw_33z := _cw_33.size
          have E := E.trans _cw_33
          refine WL_step rfl rfl (r_move rfl) ?_
          refine WL_split (d := 46) rfl (fun _h46 => ?_) (fun _h46 => ?_)
          · have _kb_34 := _h46
            refine WL_skip rfl rfl ?_
            refine WL_skip rfl rfl ?_
            refine WL_skip rfl rfl ?_
            refine WL_skip rfl rfl ?_
            refine WL_skip rfl rfl ?_
            refine WL_step rfl rfl (r_pickT rfl rfl) ?_
            refine WL_step rfl rfl (r_assign rfl) ?_
            refine WL_nil ?_
            refine thn_nrm (_hK_31 _ _ ?_)
            clear _hK_31
            refine W_ret (inB_ret (thn_ret ?_))
            clear _hK_7
            exact ret_intro [_] ⟨rfl, trivial⟩ ⟨congrArg Value.bool (by first | exact null26 hok (by omega) | exact null0 hok (by omega) | exact null4f hok (by omega) rfl _h29 | exact null4t hok (by omega) rfl rfl _h29 | exact null5t hok (by omega) rfl _h46 | exact null5f hok (by omega) rfl rfl _h46 | exact null7t hok (by omega) (by omega) | exact null7f hok (by omega) rfl (by omega)), E⟩
          · have _kb_34 := _h46
            refine WL_step rfl rfl (r_move rfl) ?_
            refine WL_step rfl rfl (r_move rfl) ?_
            refine WL_step rfl rfl (r_move rfl) ?_
            refine WL_s rfl rfl ?_
            have _f_35 := (_f_32.ch0 _cw_33)
            refine (s_cut (ys := ((l.drop ta.flat.length).take ((((l.length : Nat) : Int) - 1).toNat - ta.flat.length))) ta.flat.length ((((l.length : Nat) : Int) - 1).toNat) _f_35 Token.len el24 sz52 rfl ⟨_, _, rfl, by omega⟩ ⟨_, _, rfl, by omega⟩ (by omega) (by omega) rfl fun _v50 _q50 _bb50 _ln50 => ?_)
            obtain ⟨_A50, _C50, _e50⟩ := _q50.val
            subst _e50
            have _l50 := _q50.len
            refine WL_s rfl rfl ?_
            refine Step.call (r_call (xs := [.tmp 50]) fk62 rfl) (ih _q50 tb hok.2.2 (cut_b hla (by omega) (by omega)) (by simp only [List.length_take, List.length_drop]; omega)) fun _v51 _w_36 _q51 => ?_
            obtain ⟨rfl, _cw_36⟩ := _q51
            have _cw_36z := _cw_36.size
            have E := E.trans _cw_36
            refine WL_step rfl rfl (r_pickF rfl rfl) ?_
            refine WL_step rfl rfl (r_assign rfl) ?_
            refine WL_nil ?_
            refine thn_nrm (_hK_31 _ _ ?_)
            clear _hK_31
            refine W_ret (inB_ret (thn_ret ?_))
            clear _hK_7
            exact ret_intro [_] ⟨rfl, trivial⟩ ⟨congrArg Value.bool (by first | exact null26 hok (by omega) | exact null0 hok (by omega) | exact null4f hok (by omega) rfl _h29 | exact null4t hok (by omega) rfl rfl _h29 | exact null5t hok (by omega) rfl _h46 | exact null5f hok (by omega) rfl rfl _h46 | exact null7t hok (by omega) (by omega) | exact null7f hok (by omega) rfl (by omega)), E⟩
        · have _kb_27 := _h36
          have _h36 := bf_d _h36
          refine W_seq fun _K_37 _hK_37 => ?_
          refine W_region ?_
          refine WL_step rfl rfl (r_eql rfl rfl) ?_
          refine WL_step rfl rfl (r_assign rfl) ?_
          refine WL_nil ?_
          refine thn_nrm (_hK_37 _ _ ?_)
          clear _hK_37
          refine W_cond rfl (fun _h53 => ?_) (fun _h53 => ?_)
          · have _kb_38 := _h53
            have _h53 := bt_d _h53
            obtain ⟨kt, ta, rfl⟩ := hok.one (by omega)
            have hla : l = ta.flat ++ [kt] := hl
            have hn2 := len_1 hla
            refine W_seq fun _K_39 _hK_39 => ?_
            refine W_region ?_
            refine WL_step rfl rfl (r_fieldAddr fa52_2 rfl) ?_
            refine WL_step rfl rfl (r_loadAt _m_6.at_ agg3 rfl rfl) ?_
            refine WL_step rfl rfl (r_eql rfl rfl) ?_
            refine WL_step rfl rfl (r_move rfl) ?_
            refine WL_split (d := 58) rfl (fun _h58 => ?_) (fun _h58 => ?_)
            · have _kb_40 := _h58
              have _h58 := bt_d _h58
              refine WL_skip rfl rfl ?_
              refine WL_skip rfl rfl ?_
              refine WL_skip rfl rfl ?_
              refine WL_skip rfl rfl ?_
              refine WL_step rfl rfl (r_pickT rfl rfl) ?_
              refine WL_step rfl rfl (r_assign rfl) ?_
              refine WL_nil ?_
              refine thn_nrm (_hK_39 _ _ ?_)
              clear _hK_39
              refine W_ret (inB_ret (thn_ret ?_))
              clear _hK_7
              exact ret_intro [_] ⟨rfl, trivial⟩ ⟨congrArg Value.bool (by first | exact null26 hok (by omega) | exact null0 hok (by omega) | exact null4f hok (by omega) rfl _h29 | exact null4t hok (by omega) rfl rfl _h29 | exact null5t hok (by omega) rfl _h46 | exact null5f hok (by omega) rfl rfl _h46 | exact null7t hok (by omega) (by omega) | exact null7f hok (by omega) rfl (by omega)), E⟩
            · have _kb_40 := _h58
              have _h58 := bf_d _h58
              refine WL_step rfl rfl (r_move rfl) ?_
              refine WL_step rfl rfl (r_move rfl) ?_
              refine WL_s rfl rfl ?_
              have _f_41 := ((_h_l.ch0 _cw_4).ch _cw_5 (fun i hi => by have _h1 := List.mem_singleton.1 hi; omega))
              refine (s_cut (ys := (l.take ((((l.length : Nat) : Int) - 1).toNat))) 0 ((((l.length : Nat) : Int) - 1).toNat) _f_41 Token.len el24 sz52 rfl rfl ⟨_, _, rfl, by omega⟩ (by omega) (by omega) rfl fun _v61 _q61 _bb61 _ln61 => ?_)
              obtain ⟨_A61, _C61, _e61⟩ := _q61.val
              subst _e61
              have _l61 := _q61.len
              refine WL_s rfl rfl ?_
              refine Step.call (r_call (xs := [.tmp 61]) fk62 rfl) (ih _q61 ta hok.2 (cut_1 hla (by omega)) (by simp only [List.length_take, List.length_drop]; omega)) fun _v62 _w_42 _q62 => ?_
              obtain ⟨rfl, _cw_42⟩ := _q62
              have _cw_42z := _cw_42.size
              have E := E.trans _cw_42
              refine WL_step rfl rfl (r_pickF rfl rfl) ?_
              refine WL_step rfl rfl (r_assign rfl) ?_
              refine WL_nil ?_
              refine thn_nrm (_hK_39 _ _ ?_)
              clear _hK_39
              refine W_ret (inB_ret (thn_ret ?_))
              clear _hK_7
              exact ret_intro [_] ⟨rfl, trivial⟩ ⟨congrArg Value.bool (by first | exact null26 hok (by omega) | exact null0 hok (by omega) | exact null4f hok (by omega) rfl _h29 | exact null4t hok (by omega) rfl rfl _h29 | exact null5t hok (by omega) rfl _h46 | exact null5f hok (by omega) rfl rfl _h46 | exact null7t hok (by omega) (by omega) | exact null7f hok (by omega) rfl (by omega)), E⟩
          · have _kb_38 := _h53
            have _h53 := bf_d _h53
            refine W_skip ?_
            refine inB_nrm ?_
            refine thn_nrm (_hK_7 _ _ ?_)
            clear _hK_7
            refine W_seq fun _K_43 _hK_43 => ?_
            refine W_region ?_
            refine WL_step rfl rfl (r_assign rfl) ?_
            refine WL_nil ?_
            refine thn_nrm (_hK_43 _ _ ?_)
            clear _hK_43
            refine W_ret ?_
            exact ret_intro [_] ⟨rfl, trivial⟩ ⟨congrArg Value.bool (by first | exact null26 hok (by omega) | exact null0 hok (by omega) | exact null4f hok (by omega) rfl _h29 | exact null4t hok (by omega) rfl rfl _h29 | exact null5t hok (by omega) rfl _h46 | exact null5f hok (by omega) rfl rfl _h46 | exact null7t hok (by omega) (by omega) | exact null7f hok (by omega) rfl (by omega)), E⟩
theorem c_spec_l9Null {w : World} {LL_l _B_l : Nat} {_v_l : Value} {l : List Token} (_h_l : Ls Token.cs 4 w LL_l _B_l _v_l l) (t : Tr) (hok : Okd t) (hl : l = t.flat) :
    Ctr Tryz.prog 62 #[_v_l] w (fun v w' => v = .bool (nullT t) ∧ Ch [] w w') := c_spec_l9Null_n _ _h_l t hok hl (Nat.lt_succ_self _)

/-- spec.l9Deriv -/
theorem c_spec_l9Deriv_n : ∀ (n : Nat) {w : World} {LL_l _B_l : Nat} {_v_l : Value} {l : List Token} (_h_l : Ls Token.cs 4 w LL_l _B_l _v_l l) (letter : Int) (t : Tr) (hok : Okd t) (hl : l = t.flat) (hb : l.length ≤ 400) (hsz : l.length < n),
    Ctr Tryz.prog 37 #[_v_l, (.int .i64 letter)] w (fun v w' => ∃ u, v = .agg #[u] ∧ Ol Token.cs 52 4 w' u (derT letter t) ∧ Lo w.heap.size u ∧ Ch [] w w') := by
  intro n
  induction n with
  | zero => intros; omega
  | succ n ih =>
  intro w LL_l _B_l _v_l l _h_l letter t hok hl hb hsz
  obtain ⟨_A_l, _C_l, _e1_l⟩ := _h_l.val
  subst _e1_l
  have _l_l := _h_l.len
  have _h_l := _h_l.here (by decide)
  have E := Ch.refl [] w
  have hn1 := t.flat_pos; rw [← hl] at hn1; have k2 := hok.len
  refine Ctr_of_W (N := 105) (vs0 := [(.slice _A_l l.length _C_l), (.int .i64 letter)]) Tryz.func37 rfl rfl rfl ?_
  refine W_seq fun _K_1 _hK_1 => ?_
  refine W_region ?_
  refine WL_s rfl rfl ?_
  refine s_alloc zr26 fun _b4 _w_2 _m4 _cw_2 _e4 => ?_
  have _cw_2z := _cw_2.size
  have E := E.trans _cw_2
  have _z4 := _m4.lt
  replace _m4 : Blk _w_2 _b4 26 [(.slice none 0 0)] := _m4
  refine WL_nil ?_
  refine thn_nrm (_hK_1 _ _ ?_)
  clear _hK_1
  refine W_seq fun _K_3 _hK_3 => ?_
  refine W_region ?_
  refine WL_step rfl rfl (r_move rfl) ?_
  refine WL_step rfl rfl (r_len (by rw [el24]; rfl) rfl) ?_
  refine WL_step rfl rfl (r_sub (by omega) rfl rfl) ?_
  refine WL_step rfl rfl (r_assign rfl) ?_
  refine WL_nil ?_
  refine thn_nrm (_hK_3 _ _ ?_)
  clear _hK_3
  refine W_seq fun _K_4 _hK_4 => ?_
  refine W_region ?_
  refine WL_step rfl rfl (r_move rfl) ?_
  refine WL_step rfl rfl (r_move rfl) ?_
  refine WL_s rfl rfl ?_
  have _f_5 := (_h_l.ch0 _cw_2)
  refine (s_index (j := (((l.length : Nat) : Int) - 1).toNat) _f_5 Token.len el24 sz52 rfl rfl (by omega) (by omega) fun _p15 _y15 _hy15 _a15 => ?_)
  have _ht := last_tok hl (by omega) _hy15
  have htk := congrArg Token.kind _ht
  have hte := congrArg Token.letter _ht
  have htl := congrArg Token.low _ht
  have hth := congrArg Token.high _ht
  refine WL_step rfl rfl (r_loadAtA0 _a15 agg52 sz52 rfl) ?_
  refine WL_s rfl rfl ?_
  refine s_alloc zr52 fun _b6 _w_6 _m6 _cw_6 _e6 => ?_
  have _cw_6z := _cw_6.size
  have E := E.trans _cw_6
  have _z6 := _m6.lt
  replace _m6 : Blk _w_6 _b6 52 [(.int .i64 0), (.int .i64 0), (.int .i64 0), (.int .i64 0)] := _m6
  refine WL_s rfl rfl ?_
  refine s_storeA (off := 0) 4 _m6 sz52 rfl (us := [(.int .i64 _y15.kind), (.int .i64 _y15.letter), (.int .i64 _y15.low), (.int .i64 _y15.high)]) rfl rfl rfl rfl fun _w_7 _m_8 _cw_7 => ?_
  have _cw_7z := _cw_7.size
  have E := E.step _cw_7 (fun i hi => .inl (by have _h1 := List.mem_singleton.1 hi; omega))
  replace _m_8 : Blk _w_7 _b6 52 [(.int .i64 _y15.kind), (.int .i64 _y15.letter), (.int .i64 _y15.low), (.int .i64 _y15.high)] := _m_8
  refine WL_nil ?_
  refine thn_nrm (_hK_4 _ _ ?_)
  clear _hK_4
  refine W_seq fun _K_9 _hK_9 => ?_
  refine W_seq fun _K_10 _hK_10 => ?_
  refine W_region ?_
  refine WL_step rfl rfl (r_fieldAddr fa52_0 rfl) ?_
  refine WL_step rfl rfl (r_loadAt _m_8.at_ agg3 rfl rfl) ?_
  refine WL_nil ?_
  refine thn_nrm (_hK_10 _ _ ?_)
  clear _hK_10
  refine W_block ?_
  refine W_seq fun _K_11 _hK_11 => ?_
  refine W_region ?_
  refine WL_step rfl rfl (r_eql rfl rfl) ?_
  refine WL_step rfl rfl (r_assign rfl) ?_
  refine WL_nil ?_
  refine thn_nrm (_hK_11 _ _ ?_)
  clear _hK_11
  refine W_cond rfl (fun _h19 => ?_) (fun _h19 => ?_)
  · have _kb_12 := _h19
    have _h19 := bt_d _h19
    refine W_seq fun _K_13 _hK_13 => ?_
    refine W_region ?_
    refine WL_step rfl rfl (r_fieldAddr fa52_1 rfl) ?_
    refine WL_step rfl rfl (r_loadAt _m_8.at_ agg3 rfl rfl) ?_
    refine WL_step rfl rfl (r_move rfl) ?_
    refine WL_step rfl rfl (r_eql rfl rfl) ?_
    refine WL_nil ?_
    refine thn_nrm (_hK_13 _ _ ?_)
    clear _hK_13
    refine W_cond rfl (fun _h24 => ?_) (fun _h24 => ?_)
    · have _kb_14 := _h24
      have _h24 := bt_d _h24
      refine W_seq fun _K_15 _hK_15 => ?_
      refine W_region ?_
      refine WL_s rfl rfl ?_
      refine Step.call (r_call (xs := [.const (Go.Value.int Go.IntKind.i64 2)]) fk59 rfl) (c_spec_l8Leaf _ ) fun _v25 _w_16 _q25 => ?_
      obtain ⟨_u25, rfl, _q25, _lo25, _cw_16⟩ := _q25
      have _cw_16z := _cw_16.size
      have E := E.trans _cw_16
      obtain ⟨_Au25, _Cu25, _eu25⟩ := _q25.val
      subst _eu25
      have _lu25 := _q25.len
      have _hiu25 := _q25.lt
      refine WL_s rfl rfl ?_
      have _f_17 := (((_m4.ch0 _cw_6).ch _cw_7 (fun hm => by have _h1 := List.mem_singleton.1 hm; omega)).ch0 _cw_16)
      refine s_storeA (off := 0) 1 _f_17 sz26 rfl (us := [(.slice _Au25 ([(⟨2, 0, 0, 0⟩ : Token)]).length _Cu25)]) rfl rfl rfl rfl fun _w_18 _m_19 _cw_18 => ?_
      have _cw_18z := _cw_18.size
      have E := E.step _cw_18 (fun i hi => .inl (by have _h1 := List.mem_singleton.1 hi; omega))
      replace _m_19 : Blk _w_18 _b4 26 [(.slice _Au25 ([(⟨2, 0, 0, 0⟩ : Token)]).length _Cu25)] := _m_19
      refine WL_nil ?_
      refine thn_nrm (_hK_15 _ _ ?_)
      clear _hK_15
      refine W_ret (inB_ret (thn_ret ?_))
      clear _hK_9
      have _f_21 := (_q25.ch _cw_18 (fun g hg hm => by have _h0 := List.mem_singleton.1 hm; have _h2 := _lo25 _ hg; have _h3 := _hiu25 _ hg; omega))
      have _o_20 : Ol Token.cs 52 4 _w_18 (.slice _Au25 ([(⟨2, 0, 0, 0⟩ : Token)]).length _Cu25) (derT letter t) := by
        have hx := _f_21
        exact hx.eq (by first | exact der3 hok (by omega) (by omega) | exact der0 hok (by omega) (by omega) | exact der4t hok (by omega) _hk0 _hk1 _h46 | exact der4f hok (by omega) _hk0 _hk1 _h46 | exact der5 hok (by omega) _hk0 _hk1 | (rw [hl]; exact der6 hok (by omega) _hk0) | (rw [_ht]; exact der7 hok (by omega) _hk0))
      exact ret_intro [_] (resOf_loadA _m_19 rfl agg26 sz26 trivial) ⟨_, rfl, _o_20, Lo.down _lo25 (by omega), E⟩
    · have _kb_14 := _h24
      have _h24 := bf_d _h24
      refine W_skip ?_
      refine inB_nrm ?_
      refine thn_nrm (_hK_9 _ _ ?_)
      clear _hK_9
      refine W_seq fun _K_22 _hK_22 => ?_
      refine W_region ?_
      refine WL_s rfl rfl ?_
      refine Step.call (r_call (xs := [.const (Go.Value.int Go.IntKind.i64 1)]) fk59 rfl) (c_spec_l8Leaf _ ) fun _v104 _w_23 _q104 => ?_
      obtain ⟨_u104, rfl, _q104, _lo104, _cw_23⟩ := _q104
      have _cw_23z := _cw_23.size
      have E := E.trans _cw_23
      obtain ⟨_Au104, _Cu104, _eu104⟩ := _q104.val
      subst _eu104
      have _lu104 := _q104.len
      have _hiu104 := _q104.lt
      refine WL_s rfl rfl ?_
      have _f_24 := (((_m4.ch0 _cw_6).ch _cw_7 (fun hm => by have _h1 := List.mem_singleton.1 hm; omega)).ch0 _cw_23)
      refine s_storeA (off := 0) 1 _f_24 sz26 rfl (us := [(.slice _Au104 ([(⟨1, 0, 0, 0⟩ : Token)]).length _Cu104)]) rfl rfl rfl rfl fun _w_25 _m_26 _cw_25 => ?_
      have _cw_25z := _cw_25.size
      have E := E.step _cw_25 (fun i hi => .inl (by have _h1 := List.mem_singleton.1 hi; omega))
      replace _m_26 : Blk _w_25 _b4 26 [(.slice _Au104 ([(⟨1, 0, 0, 0⟩ : Token)]).length _Cu104)] := _m_26
      refine WL_nil ?_
      refine thn_nrm (_hK_22 _ _ ?_)
      clear _hK_22
      refine W_ret ?_
      have _f_28 := (_q104.ch _cw_25 (fun g hg hm => by have _h0 := List.mem_singleton.1 hm; have _h2 := _lo104 _ hg; have _h3 := _hiu104 _ hg; omega))
      have _o_27 : Ol Token.cs 52 4 _w_25 (.slice _Au104 ([(⟨1, 0, 0, 0⟩ : Token)]).length _Cu104) (derT letter t) := by
        have hx := _f_28
        exact hx.eq (by first | exact der3 hok (by omega) (by omega) | exact der0 hok (by omega) (by omega) | exact der4t hok (by omega) _hk0 _hk1 _h46 | exact der4f hok (by omega) _hk0 _hk1 _h46 | exact der5 hok (by omega) _hk0 _hk1 | (rw [hl]; exact der6 hok (by omega) _hk0) | (rw [_ht]; exact der7 hok (by omega) _hk0))
      exact ret_intro [_] (resOf_loadA _m_26 rfl agg26 sz26 trivial) ⟨_, rfl, _o_27, Lo.down _lo104 (by omega), E⟩
  · have _kb_12 := _h19
    have _h19 := bf_d _h19
    refine W_seq fun _K_29 _hK_29 => ?_
    refine W_region ?_
    refine WL_step rfl rfl (r_eql rfl rfl) ?_
    refine WL_step rfl rfl (r_assign rfl) ?_
    refine WL_nil ?_
    refine thn_nrm (_hK_29 _ _ ?_)
    clear _hK_29
    refine W_cond rfl (fun _h26 => ?_) (fun _h26 => ?_)
    · have _kb_30 := _h26
      have _h26 := bt_d _h26
      obtain ⟨ta, tb, et, oa, ob, hla, hn2⟩ := hok.k2 (by omega) _ht hl
      have _hk0 : t.kids[0]? = some ta := by rw [et]; rfl
      have _hk1 : t.kids[1]? = some tb := by rw [et]; rfl
      have ga := ta.flat_len
      have gb := tb.flat_len
      have da := derT_le letter ta (by omega)
      have db := derT_le letter tb (by omega)
      refine W_seq fun _K_31 _hK_31 => ?_
      refine W_region ?_
      refine WL_step rfl rfl (r_move rfl) ?_
      refine WL_step rfl rfl (r_move rfl) ?_
      refine WL_s rfl rfl ?_
      have _f_32 := ((_f_5.ch0 _cw_6).ch _cw_7 (fun i hi => by have _h1 := List.mem_singleton.1 hi; omega))
      refine (s_cut (ys := (ta.flat ++ tb.flat)) 0 ((((l.length : Nat) : Int) - 1).toNat) _f_32 Token.len el24 sz52 rfl rfl ⟨_, _, rfl, by omega⟩ (by omega) (by omega) (show l.take _ = _ from cut_ab hla (by omega)) fun _v30 _q30 _bb30 _ln30 => ?_)
      obtain ⟨_A30, _C30, _e30⟩ := _q30.val
      subst _e30
      have _l30 := _q30.len
      refine WL_s rfl rfl ?_
      refine Step.call (r_call (xs := [.tmp 30]) fk60 rfl) (c_spec_l8Start _q30 ta.flat tb ob rfl) fun _v31 _w_33 _q31 => ?_
      obtain ⟨rfl, _cw_33⟩ := _q31
      have _cw_33z := _cw_33.size
      have E := E.trans _cw_33
      refine WL_step rfl rfl (r_assign rfl) ?_
      refine WL_nil ?_
      refine thn_nrm (_hK_31 _ _ ?_)
      clear _hK_31
      refine W_seq fun _K_34 _hK_34 => ?_
      have _J_36 : ∀ (lj : KL) (_wj_35 : World) (jb8 : Nat) (ju8_0 : Value), Go.KLib.Sub [(0, (.slice _A_l l.length _C_l)), (1, (.int .i64 letter)), (4, (.pointer (some ⟨_b4, 0, none⟩))), (5, (.int .i64 (((l.length : Nat) : Int) - 1))), (6, (.pointer (some ⟨_b6, 0, none⟩))), (7, (.int .i64 ((ta.flat.length : Nat) : Int))), (8, (.pointer (some ⟨jb8, 0, none⟩))), (18, (.int .i64 _y15.kind))] lj → Ch [] _w_33 _wj_35 → Ol Token.cs 52 4 _wj_35 ju8_0 (catE (derT letter ta) tb.flat) → Lo _w_33.heap.size ju8_0 → Blk _wj_35 jb8 26 [ju8_0] → _w_33.heap.size ≤ jb8 → jb8 ∉ bl ju8_0 → _K_34 lj _wj_35 := by
        intro lj _wj_35 jb8 ju8_0 _jsub _cjK_34 _qju8_0 _loju8_0 _mjb8 _ejb8 _nbjb8ju8_0
        refine _hK_34 _ _ (W_sub _jsub ?_)
        clear _hK_34
        have _cjK_34z := _cjK_34.size
        have E := E.trans _cjK_34
        obtain ⟨_Aju8_0, _Cju8_0, _eju8_0⟩ := _qju8_0.val
        subst _eju8_0
        have _lju8_0 := _qju8_0.len
        have _hiju8_0 := _qju8_0.lt
        have _zjb8 := _mjb8.lt
        refine W_seq fun _K_37 _hK_37 => ?_
        refine W_seq fun _K_38 _hK_38 => ?_
        refine W_region ?_
        refine WL_step rfl rfl (r_move rfl) ?_
        refine WL_step rfl rfl (r_move rfl) ?_
        refine WL_s rfl rfl ?_
        have _f_39 := ((_f_32.ch0 _cw_33).ch0 _cjK_34)
        refine (s_cut (ys := ta.flat) 0 ta.flat.length _f_39 Token.len el24 sz52 rfl rfl ⟨_, _, rfl, by omega⟩ (by omega) (by omega) (show l.take _ = _ from cut_a hla (by omega)) fun _v45 _q45 _bb45 _ln45 => ?_)
        obtain ⟨_A45, _C45, _e45⟩ := _q45.val
        subst _e45
        have _l45 := _q45.len
        refine WL_s rfl rfl ?_
        refine Step.call (r_call (xs := [.tmp 45]) fk62 rfl) (c_spec_l9Null _q45 ta oa rfl) fun _v46 _w_40 _q46 => ?_
        obtain ⟨rfl, _cw_40⟩ := _q46
        have _cw_40z := _cw_40.size
        have E := E.trans _cw_40
        refine WL_nil ?_
        refine thn_nrm (_hK_38 _ _ ?_)
        clear _hK_38
        refine W_cond rfl (fun _h46 => ?_) (fun _h46 => ?_)
        · have _kb_41 := _h46
          refine W_seq fun _K_42 _hK_42 => ?_
          refine W_drawC [_b4] 9 mixed rfl fun _w_43 _cw_43 => ?_
          have _cw_43z := _cw_43.size
          have E := E.trans _cw_43
          have _f_44 := ((_mjb8.ch0 _cw_40).ch0 _cw_43)
          refine DR_s 0 rfl (by kernel_rfl) rfl rfl (t_loadAtA0 _f_44.at_ (fun i hm => by have _h1 := List.mem_singleton.1 hm; omega) agg26 sz26 rfl ?_)
          refine DR_s 1 rfl (by kernel_rfl) rfl rfl (t_v (fun _ => (r_move rfl)) ?_)
          refine DR_s 2 rfl (by kernel_rfl) rfl rfl (t_v (fun _ => (r_move rfl)) ?_)
          refine DR_s 3 rfl (by kernel_rfl) rfl rfl (t_v (fun _ => (r_move rfl)) ?_)
          have _f_45 := ((_f_39.ch0 _cw_40).ch0 _cw_43)
          refine DR_s 4 rfl (by kernel_rfl) rfl rfl (t_cut (ys := tb.flat) ta.flat.length ((((l.length : Nat) : Int) - 1).toNat) _f_45 Token.len el24 sz52 rfl ⟨_, _, rfl, by omega⟩ ⟨_, _, rfl, by omega⟩ (by omega) (by omega) (cut_b hla (by omega) (by omega)) fun _v51 _q51 _bb51 _ln51 => ?_)
          obtain ⟨_A51, _C51, _e51⟩ := _q51.val
          subst _e51
          have _l51 := _q51.len
          refine DR_s 5 rfl (by kernel_rfl) rfl rfl (t_v (fun _ => (r_move rfl)) ?_)
          refine DR_one 6 (by kernel_rfl) ?_
          refine DO_s rfl rfl rfl ?_
          refine Step.call (r_call (xs := [.tmp 51, .tmp 52]) fk37 rfl) (ih _q51 _ tb ob rfl (by omega) (by omega)) fun _v53 _w_46 _q53 => ?_
          obtain ⟨_u53, rfl, _q53, _lo53, _cw_46⟩ := _q53
          have _cw_46z := _cw_46.size
          have E := E.trans _cw_46
          obtain ⟨_Au53, _Cu53, _eu53⟩ := _q53.val
          subst _eu53
          have _lu53 := _q53.len
          have _hiu53 := _q53.lt
          have _S_47 : Ch [_b4] _w_43 _w_46 := ((Ch.refl _ _).trans _cw_46.of_nil)
          refine ⟨_S_47, ?_⟩
          refine DR_one 7 (by kernel_rfl) ?_
          refine DO_s rfl rfl rfl ?_
          have _f_48 := (((_qju8_0.ch0 _cw_40).ch0 _cw_43).ch0 _cw_46)
          refine Step.call (r_call (xs := [.tmp 47, .tmp 53]) fk63 rfl) (c_spec_UnionExpr _f_48.ls _q53.ls (by have _h129 := catE_len (derT letter ta) tb.flat; omega)) fun _v54 _w_49 _q54 => ?_
          obtain ⟨_u54, rfl, _q54, _lo54, _cw_49⟩ := _q54
          have _cw_49z := _cw_49.size
          have E := E.trans _cw_49
          obtain ⟨_Au54, _Cu54, _eu54⟩ := _q54.val
          subst _eu54
          have _lu54 := _q54.len
          have _hiu54 := _q54.lt
          have _S_50 : Ch [_b4] _w_43 _w_49 := (_S_47.trans _cw_49.of_nil)
          refine ⟨_S_50, ?_⟩
          refine DR_one 8 (by kernel_rfl) ?_
          refine DO_s rfl rfl rfl ?_
          have _f_51 := ((((((((_m4.ch0 _cw_6).ch _cw_7 (fun hm => by have _h1 := List.mem_singleton.1 hm; omega)).ch0 _cw_33).ch0 _cjK_34).ch0 _cw_40).ch0 _cw_43).ch0 _cw_46).ch0 _cw_49)
          refine s_storeA (off := 0) 1 _f_51 sz26 rfl (us := [(.slice _Au54 (uniE (catE (derT letter ta) tb.flat) (derT letter tb)).length _Cu54)]) rfl rfl rfl rfl fun _w_52 _m_53 _cw_52 => ?_
          have _cw_52z := _cw_52.size
          have E := E.step _cw_52 (fun i hi => .inl (by have _h1 := List.mem_singleton.1 hi; omega))
          replace _m_53 : Blk _w_52 _b4 26 [(.slice _Au54 (uniE (catE (derT letter ta) tb.flat) (derT letter tb)).length _Cu54)] := _m_53
          have _S_54 : Ch [_b4] _w_43 _w_52 := (_S_50.step _cw_52 (fun i hm => by have _h0 := List.mem_singleton.1 hm; exact .inr (by rw [_h0]; exact (List.mem_singleton.2 rfl))))
          refine ⟨_S_54, ?_⟩
          refine DR_done (by kernel_rfl) ?_
          refine thn_nrm (_hK_42 _ _ ?_)
          clear _hK_42
          refine W_ret (thn_ret (inB_ret (thn_ret ?_)))
          clear _hK_9 _hK_37
          have _f_56 := (_q54.ch _cw_52 (fun g hg hm => by have _h0 := List.mem_singleton.1 hm; have _h2 := _lo54 _ hg; have _h3 := _hiu54 _ hg; omega))
          have _o_55 : Ol Token.cs 52 4 _w_52 (.slice _Au54 (uniE (catE (derT letter ta) tb.flat) (derT letter tb)).length _Cu54) (derT letter t) := by
            have hx := _f_56
            exact hx.eq (by first | exact der3 hok (by omega) (by omega) | exact der0 hok (by omega) (by omega) | exact der4t hok (by omega) _hk0 _hk1 _h46 | exact der4f hok (by omega) _hk0 _hk1 _h46 | exact der5 hok (by omega) _hk0 _hk1 | (rw [hl]; exact der6 hok (by omega) _hk0) | (rw [_ht]; exact der7 hok (by omega) _hk0))
          exact ret_intro [_] (resOf_loadA _m_53 rfl agg26 sz26 trivial) ⟨_, rfl, _o_55, Lo.down _lo54 (by omega), E⟩
        · have _kb_41 := _h46
          refine W_skip ?_
          refine thn_nrm (_hK_37 _ _ ?_)
          clear _hK_37
          refine W_seq fun _K_57 _hK_57 => ?_
          refine W_region ?_
          have _f_58 := (_mjb8.ch0 _cw_40)
          refine WL_step rfl rfl (r_loadAtA0 _f_58.at_ agg26 sz26 rfl) ?_
          refine WL_s rfl rfl ?_
          have _f_59 := (((((_m4.ch0 _cw_6).ch _cw_7 (fun hm => by have _h1 := List.mem_singleton.1 hm; omega)).ch0 _cw_33).ch0 _cjK_34).ch0 _cw_40)
          refine s_storeA (off := 0) 1 _f_59 sz26 rfl (us := [(.slice _Aju8_0 (catE (derT letter ta) tb.flat).length _Cju8_0)]) rfl rfl rfl rfl fun _w_60 _m_61 _cw_60 => ?_
          have _cw_60z := _cw_60.size
          have E := E.step _cw_60 (fun i hi => .inl (by have _h1 := List.mem_singleton.1 hi; omega))
          replace _m_61 : Blk _w_60 _b4 26 [(.slice _Aju8_0 (catE (derT letter ta) tb.flat).length _Cju8_0)] := _m_61
          refine WL_nil ?_
          refine thn_nrm (_hK_57 _ _ ?_)
          clear _hK_57
          refine W_ret (inB_ret (thn_ret ?_))
          clear _hK_9
          have _f_63 := ((_qju8_0.ch0 _cw_40).ch _cw_60 (fun g hg hm => by have _h0 := List.mem_singleton.1 hm; have _h2 := _loju8_0 _ hg; have _h3 := _hiju8_0 _ hg; omega))
          have _o_62 : Ol Token.cs 52 4 _w_60 (.slice _Aju8_0 (catE (derT letter ta) tb.flat).length _Cju8_0) (derT letter t) := by
            have hx := _f_63
            exact hx.eq (by first | exact der3 hok (by omega) (by omega) | exact der0 hok (by omega) (by omega) | exact der4t hok (by omega) _hk0 _hk1 _h46 | exact der4f hok (by omega) _hk0 _hk1 _h46 | exact der5 hok (by omega) _hk0 _hk1 | (rw [hl]; exact der6 hok (by omega) _hk0) | (rw [_ht]; exact der7 hok (by omega) _hk0))
          exact ret_intro [_] (resOf_loadA _m_61 rfl agg26 sz26 trivial) ⟨_, rfl, _o_62, Lo.down _loju8_0 (by omega), E⟩
      clear _hK_34
      refine W_drawC [] 13 mixed rfl fun _w_64 _cw_64 => ?_
      have _cw_64z := _cw_64.size
      have E := E.trans _cw_64
      refine DR_s 0 rfl (by kernel_rfl) rfl rfl (t_v (fun _ => (r_move rfl)) ?_)
      refine DR_s 1 rfl (by kernel_rfl) rfl rfl (t_v (fun _ => (r_move rfl)) ?_)
      have _f_65 := ((_f_32.ch0 _cw_33).ch0 _cw_64)
      refine DR_s 2 rfl (by kernel_rfl) rfl rfl (t_cut (ys := ta.flat) 0 ta.flat.length _f_65 Token.len el24 sz52 rfl rfl ⟨_, _, rfl, by omega⟩ (by omega) (by omega) (show l.take _ = _ from cut_a hla (by omega)) fun _v34 _q34 _bb34 _ln34 => ?_)
      obtain ⟨_A34, _C34, _e34⟩ := _q34.val
      subst _e34
      have _l34 := _q34.len
      refine DR_s 3 rfl (by kernel_rfl) rfl rfl (t_v (fun _ => (r_move rfl)) ?_)
      refine DR_s 5 rfl (by kernel_rfl) rfl rfl (t_v (fun _ => (r_move rfl)) ?_)
      refine DR_s 6 rfl (by kernel_rfl) rfl rfl (t_v (fun _ => (r_move rfl)) ?_)
      refine DR_s 7 rfl (by kernel_rfl) rfl rfl (t_v (fun _ => (r_move rfl)) ?_)
      refine DR_s 8 rfl (by kernel_rfl) rfl rfl (t_cut (ys := tb.flat) ta.flat.length ((((l.length : Nat) : Int) - 1).toNat) _f_65 Token.len el24 sz52 rfl ⟨_, _, rfl, by omega⟩ ⟨_, _, rfl, by omega⟩ (by omega) (by omega) (cut_b hla (by omega) (by omega)) fun _v40 _q40 _bb40 _ln40 => ?_)
      obtain ⟨_A40, _C40, _e40⟩ := _q40.val
      subst _e40
      have _l40 := _q40.len
      refine DR_s 9 rfl (by kernel_rfl) rfl rfl (t_v (fun _ => (r_build (parts := [(0, .tmp 40)]) (cells := [(.slice _A40 (tb.flat).length _C40)]) zr26 pl26 rfl rfl)) ?_)
      refine DR_two 4 11 (by kernel_rfl) ?_ ?_
      · refine DO_s rfl rfl rfl ?_
        refine Step.call (r_call (xs := [.tmp 34, .tmp 35]) fk37 rfl) (ih _q34 _ ta oa rfl (by omega) (by omega)) fun _v36 _w_66 _q36 => ?_
        obtain ⟨_u36, rfl, _q36, _lo36, _cw_66⟩ := _q36
        have _cw_66z := _cw_66.size
        have E := E.trans _cw_66
        obtain ⟨_Au36, _Cu36, _eu36⟩ := _q36.val
        subst _eu36
        have _lu36 := _q36.len
        have _hiu36 := _q36.lt
        have _S_67 : Ch [] _w_64 _w_66 := ((Ch.refl _ _).trans _cw_66)
        refine ⟨_S_67, ?_⟩
        refine DR_two 10 11 (by kernel_rfl) ?_ ?_
        · refine DO_s rfl rfl rfl ?_
          have _f_68 := (_q40.ch0 _cw_66)
          refine Step.call (r_call (xs := [.tmp 36, .tmp 41]) fk61 rfl) (c_spec_ConcatExpr _q36.ls _f_68 (by omega)) fun _v42 _w_69 _q42 => ?_
          obtain ⟨_u42, rfl, _q42, _lo42, _cw_69⟩ := _q42
          have _cw_69z := _cw_69.size
          have E := E.trans _cw_69
          obtain ⟨_Au42, _Cu42, _eu42⟩ := _q42.val
          subst _eu42
          have _lu42 := _q42.len
          have _hiu42 := _q42.lt
          have _S_70 : Ch [] _w_64 _w_69 := (_S_67.trans _cw_69)
          refine ⟨_S_70, ?_⟩
          refine DR_one 11 (by kernel_rfl) ?_
          refine DO_s rfl rfl rfl ?_
          refine s_alloc zr26 fun _b8 _w_71 _m8 _cw_71 _e8 => ?_
          have _cw_71z := _cw_71.size
          have E := E.trans _cw_71
          have _z8 := _m8.lt
          replace _m8 : Blk _w_71 _b8 26 [(.slice none 0 0)] := _m8
          have _S_72 : Ch [] _w_64 _w_71 := (_S_70.trans _cw_71)
          refine ⟨_S_72, ?_⟩
          refine DR_one 12 (by kernel_rfl) ?_
          refine DO_s rfl rfl rfl ?_
          refine s_storeA (off := 0) 1 _m8 sz26 rfl (us := [(.slice _Au42 (catE (derT letter ta) tb.flat).length _Cu42)]) rfl rfl rfl rfl fun _w_73 _m_74 _cw_73 => ?_
          have _cw_73z := _cw_73.size
          have E := E.step _cw_73 (fun i hi => .inl (by have _h1 := List.mem_singleton.1 hi; omega))
          replace _m_74 : Blk _w_73 _b8 26 [(.slice _Au42 (catE (derT letter ta) tb.flat).length _Cu42)] := _m_74
          have _S_75 : Ch [] _w_64 _w_73 := (_S_72.step _cw_73 (fun i hm => by have _h0 := List.mem_singleton.1 hm; left; omega))
          refine ⟨_S_75, ?_⟩
          refine DR_done (by kernel_rfl) ?_
          refine thn_nrm ?_
          have _f_76 := ((_q42.ch0 _cw_71).ch _cw_73 (fun g hg hm => by have _h0 := List.mem_singleton.1 hm; have _h2 := _lo42 _ hg; have _h3 := _hiu42 _ hg; omega))
          exact _J_36 _ _ _b8 (.slice _Au42 (catE (derT letter ta) tb.flat).length _Cu42) (Sub.cons rfl (Sub.cons rfl (Sub.cons rfl (Sub.cons rfl (Sub.cons rfl (Sub.cons rfl (Sub.cons rfl (Sub.cons rfl (Sub.nil _))))))))) ((((((Ch.refl [] _w_33).trans _cw_64).trans _cw_66).trans _cw_69).trans _cw_71).step _cw_73 (fun i hi => .inl (by have _h1 := List.mem_singleton.1 hi; omega))) _f_76 (Lo.down _lo42 (by omega)) _m_74 (by omega) (fun hm => by have _h1 := _lo42 _ hm; have _h2 := _hiu42 _ hm; omega)
        · refine DO_s rfl rfl rfl ?_
          refine s_alloc zr26 fun _b8 _w_77 _m8 _cw_77 _e8 => ?_
          have _cw_77z := _cw_77.size
          have E := E.trans _cw_77
          have _z8 := _m8.lt
          replace _m8 : Blk _w_77 _b8 26 [(.slice none 0 0)] := _m8
          have _S_78 : Ch [] _w_64 _w_77 := (_S_67.trans _cw_77)
          refine ⟨_S_78, ?_⟩
          refine DR_one 10 (by kernel_rfl) ?_
          refine DO_s rfl rfl rfl ?_
          have _f_79 := (_q36.ch0 _cw_77)
          have _f_80 := ((_q40.ch0 _cw_66).ch0 _cw_77)
          refine Step.call (r_call (xs := [.tmp 36, .tmp 41]) fk61 rfl) (c_spec_ConcatExpr _f_79.ls _f_80 (by omega)) fun _v42 _w_81 _q42 => ?_
          obtain ⟨_u42, rfl, _q42, _lo42, _cw_81⟩ := _q42
          have _cw_81z := _cw_81.size
          have E := E.trans _cw_81
          obtain ⟨_Au42, _Cu42, _eu42⟩ := _q42.val
          subst _eu42
          have _lu42 := _q42.len
          have _hiu42 := _q42.lt
          have _S_82 : Ch [] _w_64 _w_81 := (_S_78.trans _cw_81)
          refine ⟨_S_82, ?_⟩
          refine DR_one 12 (by kernel_rfl) ?_
          refine DO_s rfl rfl rfl ?_
          have _f_83 := (_m8.ch0 _cw_81)
          refine s_storeA (off := 0) 1 _f_83 sz26 rfl (us := [(.slice _Au42 (catE (derT letter ta) tb.flat).length _Cu42)]) rfl rfl rfl rfl fun _w_84 _m_85 _cw_84 => ?_
          have _cw_84z := _cw_84.size
          have E := E.step _cw_84 (fun i hi => .inl (by have _h1 := List.mem_singleton.1 hi; omega))
          replace _m_85 : Blk _w_84 _b8 26 [(.slice _Au42 (catE (derT letter ta) tb.flat).length _Cu42)] := _m_85
          have _S_86 : Ch [] _w_64 _w_84 := (_S_82.step _cw_84 (fun i hm => by have _h0 := List.mem_singleton.1 hm; left; omega))
          refine ⟨_S_86, ?_⟩
          refine DR_done (by kernel_rfl) ?_
          refine thn_nrm ?_
          have _f_87 := (_q42.ch _cw_84 (fun g hg hm => by have _h0 := List.mem_singleton.1 hm; have _h2 := _lo42 _ hg; have _h3 := _hiu42 _ hg; omega))
          exact _J_36 _ _ _b8 (.slice _Au42 (catE (derT letter ta) tb.flat).length _Cu42) (Sub.cons rfl (Sub.cons rfl (Sub.cons rfl (Sub.cons rfl (Sub.cons rfl (Sub.cons rfl (Sub.cons rfl (Sub.cons rfl (Sub.nil _))))))))) ((((((Ch.refl [] _w_33).trans _cw_64).trans _cw_66).trans _cw_77).trans _cw_81).step _cw_84 (fun i hi => .inl (by have _h1 := List.mem_singleton.1 hi; omega))) _f_87 (Lo.down _lo42 (by omega)) _m_85 (by omega) (fun hm => by have _h1 := _lo42 _ hm; have _h2 := _hiu42 _ hm; omega)
      · refine DO_s rfl rfl rfl ?_
        refine s_alloc zr26 fun _b8 _w_88 _m8 _cw_88 _e8 => ?_
        have _cw_88z := _cw_88.size
        have E := E.trans _cw_88
        have _z8 := _m8.lt
        replace _m8 : Blk _w_88 _b8 26 [(.slice none 0 0)] := _m8
        have _S_89 : Ch [] _w_64 _w_88 := ((Ch.refl _ _).trans _cw_88)
        refine ⟨_S_89, ?_⟩
        refine DR_one 4 (by kernel_rfl) ?_
        refine DO_s rfl rfl rfl ?_
        have _f_90 := (_q34.ch0 _cw_88)
        refine Step.call (r_call (xs := [.tmp 34, .tmp 35]) fk37 rfl) (ih _f_90 _ ta oa rfl (by omega) (by omega)) fun _v36 _w_91 _q36 => ?_
        obtain ⟨_u36, rfl, _q36, _lo36, _cw_91⟩ := _q36
        have _cw_91z := _cw_91.size
        have E := E.trans _cw_91
        obtain ⟨_Au36, _Cu36, _eu36⟩ := _q36.val
        subst _eu36
        have _lu36 := _q36.len
        have _hiu36 := _q36.lt
        have _S_92 : Ch [] _w_64 _w_91 := (_S_89.trans _cw_91)
        refine ⟨_S_92, ?_⟩
        refine DR_one 10 (by kernel_rfl) ?_
        refine DO_s rfl rfl rfl ?_
        have _f_93 := ((_q40.ch0 _cw_88).ch0 _cw_91)
        refine Step.call (r_call (xs := [.tmp 36, .tmp 41]) fk61 rfl) (c_spec_ConcatExpr _q36.ls _f_93 (by omega)) fun _v42 _w_94 _q42 => ?_
        obtain ⟨_u42, rfl, _q42, _lo42, _cw_94⟩ := _q42
        have _cw_94z := _cw_94.size
        have E := E.trans _cw_94
        obtain ⟨_Au42, _Cu42, _eu42⟩ := _q42.val
        subst _eu42
        have _lu42 := _q42.len
        have _hiu42 := _q42.lt
        have _S_95 : Ch [] _w_64 _w_94 := (_S_92.trans _cw_94)
        refine ⟨_S_95, ?_⟩
        refine DR_one 12 (by kernel_rfl) ?_
        refine DO_s rfl rfl rfl ?_
        have _f_96 := ((_m8.ch0 _cw_91).ch0 _cw_94)
        refine s_storeA (off := 0) 1 _f_96 sz26 rfl (us := [(.slice _Au42 (catE (derT letter ta) tb.flat).length _Cu42)]) rfl rfl rfl rfl fun _w_97 _m_98 _cw_97 => ?_
        have _cw_97z := _cw_97.size
        have E := E.step _cw_97 (fun i hi => .inl (by have _h1 := List.mem_singleton.1 hi; omega))
        replace _m_98 : Blk _w_97 _b8 26 [(.slice _Au42 (catE (derT letter ta) tb.flat).length _Cu42)] := _m_98
        have _S_99 : Ch [] _w_64 _w_97 := (_S_95.step _cw_97 (fun i hm => by have _h0 := List.mem_singleton.1 hm; left; omega))
        refine ⟨_S_99, ?_⟩
        refine DR_done (by kernel_rfl) ?_
        refine thn_nrm ?_
        have _f_100 := (_q42.ch _cw_97 (fun g hg hm => by have _h0 := List.mem_singleton.1 hm; have _h2 := _lo42 _ hg; have _h3 := _hiu42 _ hg; omega))
        exact _J_36 _ _ _b8 (.slice _Au42 (catE (derT letter ta) tb.flat).length _Cu42) (Sub.cons rfl (Sub.cons rfl (Sub.cons rfl (Sub.cons rfl (Sub.cons rfl (Sub.cons rfl (Sub.cons rfl (Sub.cons rfl (Sub.nil _))))))))) ((((((Ch.refl [] _w_33).trans _cw_64).trans _cw_88).trans _cw_91).trans _cw_94).step _cw_97 (fun i hi => .inl (by have _h1 := List.mem_singleton.1 hi; omega))) _f_100 (Lo.down _lo42 (by omega)) _m_98 (by omega) (fun hm => by have _h1 := _lo42 _ hm; have _h2 := _hiu42 _ hm; omega)
    · have _kb_30 := _h26
      have _h26 := bf_d _h26
      refine W_seq fun _K_101 _hK_101 => ?_
      refine W_region ?_
      refine WL_step rfl rfl (r_eql rfl rfl) ?_
      refine WL_step rfl rfl (r_assign rfl) ?_
      refine WL_nil ?_
      refine thn_nrm (_hK_101 _ _ ?_)
      clear _hK_101
      refine W_cond rfl (fun _h56 => ?_) (fun _h56 => ?_)
      · have _kb_102 := _h56
        have _h56 := bt_d _h56
        obtain ⟨ta, tb, et, oa, ob, hla, hn2⟩ := hok.k2 (by omega) _ht hl
        have _hk0 : t.kids[0]? = some ta := by rw [et]; rfl
        have _hk1 : t.kids[1]? = some tb := by rw [et]; rfl
        have ga := ta.flat_len
        have gb := tb.flat_len
        have da := derT_le letter ta (by omega)
        have db := derT_le letter tb (by omega)
        refine W_seq fun _K_103 _hK_103 => ?_
        refine W_region ?_
        refine WL_step rfl rfl (r_move rfl) ?_
        refine WL_step rfl rfl (r_move rfl) ?_
        refine WL_s rfl rfl ?_
        have _f_104 := ((_f_5.ch0 _cw_6).ch _cw_7 (fun i hi => by have _h1 := List.mem_singleton.1 hi; omega))
        refine (s_cut (ys := (ta.flat ++ tb.flat)) 0 ((((l.length : Nat) : Int) - 1).toNat) _f_104 Token.len el24 sz52 rfl rfl ⟨_, _, rfl, by omega⟩ (by omega) (by omega) (show l.take _ = _ from cut_ab hla (by omega)) fun _v60 _q60 _bb60 _ln60 => ?_)
        obtain ⟨_A60, _C60, _e60⟩ := _q60.val
        subst _e60
        have _l60 := _q60.len
        refine WL_s rfl rfl ?_
        refine Step.call (r_call (xs := [.tmp 60]) fk60 rfl) (c_spec_l8Start _q60 ta.flat tb ob rfl) fun _v61 _w_105 _q61 => ?_
        obtain ⟨rfl, _cw_105⟩ := _q61
        have _cw_105z := _cw_105.size
        have E := E.trans _cw_105
        refine WL_step rfl rfl (r_assign rfl) ?_
        refine WL_nil ?_
        refine thn_nrm (_hK_103 _ _ ?_)
        clear _hK_103
        refine W_seq fun _K_106 _hK_106 => ?_
        refine W_drawC [_b4] 13 mixed rfl fun _w_107 _cw_107 => ?_
        have _cw_107z := _cw_107.size
        have E := E.trans _cw_107
        refine DR_s 0 rfl (by kernel_rfl) rfl rfl (t_v (fun _ => (r_move rfl)) ?_)
        refine DR_s 1 rfl (by kernel_rfl) rfl rfl (t_v (fun _ => (r_move rfl)) ?_)
        have _f_108 := ((_f_104.ch0 _cw_105).ch0 _cw_107)
        refine DR_s 2 rfl (by kernel_rfl) rfl rfl (t_cut (ys := ta.flat) 0 ta.flat.length _f_108 Token.len el24 sz52 rfl rfl ⟨_, _, rfl, by omega⟩ (by omega) (by omega) (show l.take _ = _ from cut_a hla (by omega)) fun _v64 _q64 _bb64 _ln64 => ?_)
        obtain ⟨_A64, _C64, _e64⟩ := _q64.val
        subst _e64
        have _l64 := _q64.len
        refine DR_s 3 rfl (by kernel_rfl) rfl rfl (t_v (fun _ => (r_move rfl)) ?_)
        refine DR_s 5 rfl (by kernel_rfl) rfl rfl (t_v (fun _ => (r_move rfl)) ?_)
        refine DR_s 6 rfl (by kernel_rfl) rfl rfl (t_v (fun _ => (r_move rfl)) ?_)
        refine DR_s 7 rfl (by kernel_rfl) rfl rfl (t_v (fun _ => (r_move rfl)) ?_)
        refine DR_s 8 rfl (by kernel_rfl) rfl rfl (t_cut (ys := tb.flat) ta.flat.length ((((l.length : Nat) : Int) - 1).toNat) _f_108 Token.len el24 sz52 rfl ⟨_, _, rfl, by omega⟩ ⟨_, _, rfl, by omega⟩ (by omega) (by omega) (cut_b hla (by omega) (by omega)) fun _v70 _q70 _bb70 _ln70 => ?_)
        obtain ⟨_A70, _C70, _e70⟩ := _q70.val
        subst _e70
        have _l70 := _q70.len
        refine DR_s 9 rfl (by kernel_rfl) rfl rfl (t_v (fun _ => (r_move rfl)) ?_)
        refine DR_one 4 (by kernel_rfl) ?_
        refine DO_s rfl rfl rfl ?_
        refine Step.call (r_call (xs := [.tmp 64, .tmp 65]) fk37 rfl) (ih _q64 _ ta oa rfl (by omega) (by omega)) fun _v66 _w_109 _q66 => ?_
        obtain ⟨_u66, rfl, _q66, _lo66, _cw_109⟩ := _q66
        have _cw_109z := _cw_109.size
        have E := E.trans _cw_109
        obtain ⟨_Au66, _Cu66, _eu66⟩ := _q66.val
        subst _eu66
        have _lu66 := _q66.len
        have _hiu66 := _q66.lt
        have _S_110 : Ch [_b4] _w_107 _w_109 := ((Ch.refl _ _).trans _cw_109.of_nil)
        refine ⟨_S_110, ?_⟩
        refine DR_one 10 (by kernel_rfl) ?_
        refine DO_s rfl rfl rfl ?_
        have _f_111 := (_q70.ch0 _cw_109)
        refine Step.call (r_call (xs := [.tmp 70, .tmp 71]) fk37 rfl) (ih _f_111 _ tb ob rfl (by omega) (by omega)) fun _v72 _w_112 _q72 => ?_
        obtain ⟨_u72, rfl, _q72, _lo72, _cw_112⟩ := _q72
        have _cw_112z := _cw_112.size
        have E := E.trans _cw_112
        obtain ⟨_Au72, _Cu72, _eu72⟩ := _q72.val
        subst _eu72
        have _lu72 := _q72.len
        have _hiu72 := _q72.lt
        have _S_113 : Ch [_b4] _w_107 _w_112 := (_S_110.trans _cw_112.of_nil)
        refine ⟨_S_113, ?_⟩
        refine DR_one 11 (by kernel_rfl) ?_
        refine DO_s rfl rfl rfl ?_
        have _f_114 := (_q66.ch0 _cw_112)
        refine Step.call (r_call (xs := [.tmp 66, .tmp 72]) fk63 rfl) (c_spec_UnionExpr _f_114.ls _q72.ls (by omega)) fun _v73 _w_115 _q73 => ?_
        obtain ⟨_u73, rfl, _q73, _lo73, _cw_115⟩ := _q73
        have _cw_115z := _cw_115.size
        have E := E.trans _cw_115
        obtain ⟨_Au73, _Cu73, _eu73⟩ := _q73.val
        subst _eu73
        have _lu73 := _q73.len
        have _hiu73 := _q73.lt
        have _S_116 : Ch [_b4] _w_107 _w_115 := (_S_113.trans _cw_115.of_nil)
        refine ⟨_S_116, ?_⟩
        refine DR_one 12 (by kernel_rfl) ?_
        refine DO_s rfl rfl rfl ?_
        have _f_117 := (((((((_m4.ch0 _cw_6).ch _cw_7 (fun hm => by have _h1 := List.mem_singleton.1 hm; omega)).ch0 _cw_105).ch0 _cw_107).ch0 _cw_109).ch0 _cw_112).ch0 _cw_115)
        refine s_storeA (off := 0) 1 _f_117 sz26 rfl (us := [(.slice _Au73 (uniE (derT letter ta) (derT letter tb)).length _Cu73)]) rfl rfl rfl rfl fun _w_118 _m_119 _cw_118 => ?_
        have _cw_118z := _cw_118.size
        have E := E.step _cw_118 (fun i hi => .inl (by have _h1 := List.mem_singleton.1 hi; omega))
        replace _m_119 : Blk _w_118 _b4 26 [(.slice _Au73 (uniE (derT letter ta) (derT letter tb)).length _Cu73)] := _m_119
        have _S_120 : Ch [_b4] _w_107 _w_118 := (_S_116.step _cw_118 (fun i hm => by have _h0 := List.mem_singleton.1 hm; exact .inr (by rw [_h0]; exact (List.mem_singleton.2 rfl))))
        refine ⟨_S_120, ?_⟩
        refine DR_done (by kernel_rfl) ?_
        refine thn_nrm (_hK_106 _ _ ?_)
        clear _hK_106
        refine W_ret (inB_ret (thn_ret ?_))
        clear _hK_9
        have _f_122 := (_q73.ch _cw_118 (fun g hg hm => by have _h0 := List.mem_singleton.1 hm; have _h2 := _lo73 _ hg; have _h3 := _hiu73 _ hg; omega))
        have _o_121 : Ol Token.cs 52 4 _w_118 (.slice _Au73 (uniE (derT letter ta) (derT letter tb)).length _Cu73) (derT letter t) := by
          have hx := _f_122
          exact hx.eq (by first | exact der3 hok (by omega) (by omega) | exact der0 hok (by omega) (by omega) | exact der4t hok (by omega) _hk0 _hk1 _h46 | exact der4f hok (by omega) _hk0 _hk1 _h46 | exact der5 hok (by omega) _hk0 _hk1 | (rw [hl]; exact der6 hok (by omega) _hk0) | (rw [_ht]; exact der7 hok (by omega) _hk0))
        exact ret_intro [_] (resOf_loadA _m_119 rfl agg26 sz26 trivial) ⟨_, rfl, _o_121, Lo.down _lo73 (by omega), E⟩
      · have _kb_102 := _h56
        have _h56 := bf_d _h56
        refine W_seq fun _K_123 _hK_123 => ?_
        refine W_region ?_
        refine WL_step rfl rfl (r_eql rfl rfl) ?_
        refine WL_step rfl rfl (r_assign rfl) ?_
        refine WL_nil ?_
        refine thn_nrm (_hK_123 _ _ ?_)
        clear _hK_123
        refine W_cond rfl (fun _h74 => ?_) (fun _h74 => ?_)
        · have _kb_124 := _h74
          have _h74 := bt_d _h74
          obtain ⟨ta, et, oa, hla, hn2⟩ := hok.k1 (by omega) _ht hl
          have _hk0 : t.kids[0]? = some ta := by rw [et]; rfl
          have ga := ta.flat_len
          have da := derT_le letter ta (by omega)
          refine W_seq fun _K_125 _hK_125 => ?_
          refine W_region ?_
          refine WL_step rfl rfl (r_move rfl) ?_
          refine WL_step rfl rfl (r_move rfl) ?_
          refine WL_s rfl rfl ?_
          have _f_126 := ((_f_5.ch0 _cw_6).ch _cw_7 (fun i hi => by have _h1 := List.mem_singleton.1 hi; omega))
          refine (s_cut (ys := ta.flat) 0 ((((l.length : Nat) : Int) - 1).toNat) _f_126 Token.len el24 sz52 rfl rfl ⟨_, _, rfl, by omega⟩ (by omega) (by omega) (show l.take _ = _ from cut_1 hla (by omega)) fun _v78 _q78 _bb78 _ln78 => ?_)
          obtain ⟨_A78, _C78, _e78⟩ := _q78.val
          subst _e78
          have _l78 := _q78.len
          refine WL_step rfl rfl (r_move rfl) ?_
          refine WL_s rfl rfl ?_
          refine Step.call (r_call (xs := [.tmp 78, .tmp 79]) fk37 rfl) (ih _q78 _ ta oa rfl (by omega) (by omega)) fun _v80 _w_127 _q80 => ?_
          obtain ⟨_u80, rfl, _q80, _lo80, _cw_127⟩ := _q80
          have _cw_127z := _cw_127.size
          have E := E.trans _cw_127
          obtain ⟨_Au80, _Cu80, _eu80⟩ := _q80.val
          subst _eu80
          have _lu80 := _q80.len
          have _hiu80 := _q80.lt
          refine WL_step rfl rfl (r_move rfl) ?_
          refine WL_step rfl rfl (r_build (parts := [(0, .tmp 81)]) (cells := [(.slice _A_l l.length _C_l)]) zr26 pl26 rfl rfl) ?_
          refine WL_s rfl rfl ?_
          have _f_128 := (_f_126.ch0 _cw_127)
          refine Step.call (r_call (xs := [.tmp 80, .tmp 82]) fk61 rfl) (c_spec_ConcatExpr _q80.ls _f_128 (by omega)) fun _v83 _w_129 _q83 => ?_
          obtain ⟨_u83, rfl, _q83, _lo83, _cw_129⟩ := _q83
          have _cw_129z := _cw_129.size
          have E := E.trans _cw_129
          obtain ⟨_Au83, _Cu83, _eu83⟩ := _q83.val
          subst _eu83
          have _lu83 := _q83.len
          have _hiu83 := _q83.lt
          refine WL_s rfl rfl ?_
          have _f_130 := ((((_m4.ch0 _cw_6).ch _cw_7 (fun hm => by have _h1 := List.mem_singleton.1 hm; omega)).ch0 _cw_127).ch0 _cw_129)
          refine s_storeA (off := 0) 1 _f_130 sz26 rfl (us := [(.slice _Au83 (catE (derT letter ta) l).length _Cu83)]) rfl rfl rfl rfl fun _w_131 _m_132 _cw_131 => ?_
          have _cw_131z := _cw_131.size
          have E := E.step _cw_131 (fun i hi => .inl (by have _h1 := List.mem_singleton.1 hi; omega))
          replace _m_132 : Blk _w_131 _b4 26 [(.slice _Au83 (catE (derT letter ta) l).length _Cu83)] := _m_132
          refine WL_nil ?_
          refine thn_nrm (_hK_125 _ _ ?_)
          clear _hK_125
          refine W_ret (inB_ret (thn_ret ?_))
          clear _hK_9
          have _f_134 := (_q83.ch _cw_131 (fun g hg hm => by have _h0 := List.mem_singleton.1 hm; have _h2 := _lo83 _ hg; have _h3 := _hiu83 _ hg; omega))
          have _o_133 : Ol Token.cs 52 4 _w_131 (.slice _Au83 (catE (derT letter ta) l).length _Cu83) (derT letter t) := by
            have hx := _f_134
            exact hx.eq (by first | exact der3 hok (by omega) (by omega) | exact der0 hok (by omega) (by omega) | exact der4t hok (by omega) _hk0 _hk1 _h46 | exact der4f hok (by omega) _hk0 _hk1 _h46 | exact der5 hok (by omega) _hk0 _hk1 | (rw [hl]; exact der6 hok (by omega) _hk0) | (rw [_ht]; exact der7 hok (by omega) _hk0))
          exact ret_intro [_] (resOf_loadA _m_132 rfl agg26 sz26 trivial) ⟨_, rfl, _o_133, Lo.down _lo83 (by omega), E⟩
        · have _kb_124 := _h74
          have _h74 := bf_d _h74
          refine W_seq fun _K_135 _hK_135 => ?_
          refine W_region ?_
          refine WL_step rfl rfl (r_eql rfl rfl) ?_
          refine WL_step rfl rfl (r_assign rfl) ?_
          refine WL_nil ?_
          refine thn_nrm (_hK_135 _ _ ?_)
          clear _hK_135
          refine W_cond rfl (fun _h84 => ?_) (fun _h84 => ?_)
          · have _kb_136 := _h84
            have _h84 := bt_d _h84
            obtain ⟨ta, et, oa, hla, hn2⟩ := hok.k1 (by omega) _ht hl
            have _hk0 : t.kids[0]? = some ta := by rw [et]; rfl
            have ga := ta.flat_len
            have da := derT_le letter ta (by omega)
            have r7 := hok.r7 (by omega)
            refine W_seq fun _K_137 _hK_137 => ?_
            refine W_drawC [_b4] 19 mixed rfl fun _w_138 _cw_138 => ?_
            have _cw_138z := _cw_138.size
            have E := E.trans _cw_138
            refine DR_s 0 rfl (by kernel_rfl) rfl rfl (t_v (fun _ => (r_move rfl)) ?_)
            refine DR_s 1 rfl (by kernel_rfl) rfl rfl (t_v (fun _ => (r_move rfl)) ?_)
            have _f_139 := (((_f_5.ch0 _cw_6).ch _cw_7 (fun i hi => by have _h1 := List.mem_singleton.1 hi; omega)).ch0 _cw_138)
            refine DR_s 2 rfl (by kernel_rfl) rfl rfl (t_cut (ys := ta.flat) 0 ((((l.length : Nat) : Int) - 1).toNat) _f_139 Token.len el24 sz52 rfl rfl ⟨_, _, rfl, by omega⟩ (by omega) (by omega) (show l.take _ = _ from cut_1 hla (by omega)) fun _v88 _q88 _bb88 _ln88 => ?_)
            obtain ⟨_A88, _C88, _e88⟩ := _q88.val
            subst _e88
            have _l88 := _q88.len
            refine DR_s 3 rfl (by kernel_rfl) rfl rfl (t_v (fun _ => (r_move rfl)) ?_)
            refine DR_s 5 rfl (by kernel_rfl) rfl rfl (t_v (fun _ => (r_move rfl)) ?_)
            refine DR_s 6 rfl (by kernel_rfl) rfl rfl (t_v (fun _ => (r_move rfl)) ?_)
            refine DR_s 7 rfl (by kernel_rfl) rfl rfl (t_cut (ys := ta.flat) 0 ((((l.length : Nat) : Int) - 1).toNat) _f_139 Token.len el24 sz52 rfl rfl ⟨_, _, rfl, by omega⟩ (by omega) (by omega) (show l.take _ = _ from cut_1 hla (by omega)) fun _v93 _q93 _bb93 _ln93 => ?_)
            obtain ⟨_A93, _C93, _e93⟩ := _q93.val
            subst _e93
            have _l93 := _q93.len
            refine DR_s 8 rfl (by kernel_rfl) rfl rfl (t_v (fun _ => (r_build (parts := [(0, .tmp 93)]) (cells := [(.slice _A93 (ta.flat).length _C93)]) zr26 pl26 rfl rfl)) ?_)
            refine DR_s 9 rfl (by kernel_rfl) rfl rfl (t_v (fun _ => (r_fieldAddr fa52_2 rfl)) ?_)
            have _f_140 := (_m_8.ch0 _cw_138)
            refine DR_s 10 rfl (by kernel_rfl) rfl rfl (t_loadAt _f_140.at_ (fun i hm => by have _h1 := List.mem_singleton.1 hm; omega) agg3 rfl rfl ?_)
            refine DR_s 11 rfl (by kernel_rfl) rfl rfl (t_v (fun _ => (r_sub (by omega) rfl rfl)) ?_)
            refine DR_s 12 rfl (by kernel_rfl) rfl rfl (t_v (fun _ => (r_max rfl rfl)) ?_)
            refine DR_s 13 rfl (by kernel_rfl) rfl rfl (t_v (fun _ => (r_fieldAddr fa52_3 rfl)) ?_)
            refine DR_s 14 rfl (by kernel_rfl) rfl rfl (t_loadAt _f_140.at_ (fun i hm => by have _h1 := List.mem_singleton.1 hm; omega) agg3 rfl rfl ?_)
            refine DR_s 15 rfl (by kernel_rfl) rfl rfl (t_v (fun _ => (r_sub (by omega) rfl rfl)) ?_)
            refine DR_one 4 (by kernel_rfl) ?_
            refine DO_s rfl rfl rfl ?_
            refine Step.call (r_call (xs := [.tmp 88, .tmp 89]) fk37 rfl) (ih _q88 _ ta oa rfl (by omega) (by omega)) fun _v90 _w_141 _q90 => ?_
            obtain ⟨_u90, rfl, _q90, _lo90, _cw_141⟩ := _q90
            have _cw_141z := _cw_141.size
            have E := E.trans _cw_141
            obtain ⟨_Au90, _Cu90, _eu90⟩ := _q90.val
            subst _eu90
            have _lu90 := _q90.len
            have _hiu90 := _q90.lt
            have _S_142 : Ch [_b4] _w_138 _w_141 := ((Ch.refl _ _).trans _cw_141.of_nil)
            refine ⟨_S_142, ?_⟩
            refine DR_one 16 (by kernel_rfl) ?_
            refine DO_s rfl rfl rfl ?_
            have _f_143 := (_q93.ch0 _cw_141)
            refine Step.call (r_call (xs := [.tmp 94, .tmp 98, .tmp 101]) fk64 rfl) (c_spec_RepeatExpr _f_143 _ _ (by omega)) fun _v102 _w_144 _q102 => ?_
            obtain ⟨_u102, rfl, _q102, _lo102, _cw_144⟩ := _q102
            have _cw_144z := _cw_144.size
            have E := E.trans _cw_144
            obtain ⟨_Au102, _Cu102, _eu102⟩ := _q102.val
            subst _eu102
            have _lu102 := _q102.len
            have _hiu102 := _q102.lt
            have _S_145 : Ch [_b4] _w_138 _w_144 := (_S_142.trans _cw_144.of_nil)
            refine ⟨_S_145, ?_⟩
            refine DR_one 17 (by kernel_rfl) ?_
            refine DO_s rfl rfl rfl ?_
            have _f_146 := (_q90.ch0 _cw_144)
            refine Step.call (r_call (xs := [.tmp 90, .tmp 102]) fk61 rfl) (c_spec_ConcatExpr _f_146.ls _q102.ls (by have _h169 := repE_len ta.flat (if (_y15.low - 1) > 0 then (_y15.low - 1) else 0) (_y15.high - 1); omega)) fun _v103 _w_147 _q103 => ?_
            obtain ⟨_u103, rfl, _q103, _lo103, _cw_147⟩ := _q103
            have _cw_147z := _cw_147.size
            have E := E.trans _cw_147
            obtain ⟨_Au103, _Cu103, _eu103⟩ := _q103.val
            subst _eu103
            have _lu103 := _q103.len
            have _hiu103 := _q103.lt
            have _S_148 : Ch [_b4] _w_138 _w_147 := (_S_145.trans _cw_147.of_nil)
            refine ⟨_S_148, ?_⟩
            refine DR_one 18 (by kernel_rfl) ?_
            refine DO_s rfl rfl rfl ?_
            have _f_149 := ((((((_m4.ch0 _cw_6).ch _cw_7 (fun hm => by have _h1 := List.mem_singleton.1 hm; omega)).ch0 _cw_138).ch0 _cw_141).ch0 _cw_144).ch0 _cw_147)
            refine s_storeA (off := 0) 1 _f_149 sz26 rfl (us := [(.slice _Au103 (catE (derT letter ta) (repE ta.flat (if (_y15.low - 1) > 0 then (_y15.low - 1) else 0) (_y15.high - 1))).length _Cu103)]) rfl rfl rfl rfl fun _w_150 _m_151 _cw_150 => ?_
            have _cw_150z := _cw_150.size
            have E := E.step _cw_150 (fun i hi => .inl (by have _h1 := List.mem_singleton.1 hi; omega))
            replace _m_151 : Blk _w_150 _b4 26 [(.slice _Au103 (catE (derT letter ta) (repE ta.flat (if (_y15.low - 1) > 0 then (_y15.low - 1) else 0) (_y15.high - 1))).length _Cu103)] := _m_151
            have _S_152 : Ch [_b4] _w_138 _w_150 := (_S_148.step _cw_150 (fun i hm => by have _h0 := List.mem_singleton.1 hm; exact .inr (by rw [_h0]; exact (List.mem_singleton.2 rfl))))
            refine ⟨_S_152, ?_⟩
            refine DR_done (by kernel_rfl) ?_
            refine thn_nrm (_hK_137 _ _ ?_)
            clear _hK_137
            refine W_ret (inB_ret (thn_ret ?_))
            clear _hK_9
            have _f_154 := (_q103.ch _cw_150 (fun g hg hm => by have _h0 := List.mem_singleton.1 hm; have _h2 := _lo103 _ hg; have _h3 := _hiu103 _ hg; omega))
            have _o_153 : Ol Token.cs 52 4 _w_150 (.slice _Au103 (catE (derT letter ta) (repE ta.flat (if (_y15.low - 1) > 0 then (_y15.low - 1) else 0) (_y15.high - 1))).length _Cu103) (derT letter t) := by
              have hx := _f_154
              exact hx.eq (by first | exact der3 hok (by omega) (by omega) | exact der0 hok (by omega) (by omega) | exact der4t hok (by omega) _hk0 _hk1 _h46 | exact der4f hok (by omega) _hk0 _hk1 _h46 | exact der5 hok (by omega) _hk0 _hk1 | (rw [hl]; exact der6 hok (by omega) _hk0) | (rw [_ht]; exact der7 hok (by omega) _hk0))
            exact ret_intro [_] (resOf_loadA _m_151 rfl agg26 sz26 trivial) ⟨_, rfl, _o_153, Lo.down _lo103 (by omega), E⟩
          · have _kb_136 := _h84
            have _h84 := bf_d _h84
            refine W_skip ?_
            refine inB_nrm ?_
            refine thn_nrm (_hK_9 _ _ ?_)
            clear _hK_9
            refine W_seq fun _K_155 _hK_155 => ?_
            refine W_region ?_
            refine WL_s rfl rfl ?_
            refine Step.call (r_call (xs := [.const (Go.Value.int Go.IntKind.i64 1)]) fk59 rfl) (c_spec_l8Leaf _ ) fun _v104 _w_156 _q104 => ?_
            obtain ⟨_u104, rfl, _q104, _lo104, _cw_156⟩ := _q104
            have _cw_156z := _cw_156.size
            have E := E.trans _cw_156
            obtain ⟨_Au104, _Cu104, _eu104⟩ := _q104.val
            subst _eu104
            have _lu104 := _q104.len
            have _hiu104 := _q104.lt
            refine WL_s rfl rfl ?_
            have _f_157 := (((_m4.ch0 _cw_6).ch _cw_7 (fun hm => by have _h1 := List.mem_singleton.1 hm; omega)).ch0 _cw_156)
            refine s_storeA (off := 0) 1 _f_157 sz26 rfl (us := [(.slice _Au104 ([(⟨1, 0, 0, 0⟩ : Token)]).length _Cu104)]) rfl rfl rfl rfl fun _w_158 _m_159 _cw_158 => ?_
            have _cw_158z := _cw_158.size
            have E := E.step _cw_158 (fun i hi => .inl (by have _h1 := List.mem_singleton.1 hi; omega))
            replace _m_159 : Blk _w_158 _b4 26 [(.slice _Au104 ([(⟨1, 0, 0, 0⟩ : Token)]).length _Cu104)] := _m_159
            refine WL_nil ?_
            refine thn_nrm (_hK_155 _ _ ?_)
            clear _hK_155
            refine W_ret ?_
            have _f_161 := (_q104.ch _cw_158 (fun g hg hm => by have _h0 := List.mem_singleton.1 hm; have _h2 := _lo104 _ hg; have _h3 := _hiu104 _ hg; omega))
            have _o_160 : Ol Token.cs 52 4 _w_158 (.slice _Au104 ([(⟨1, 0, 0, 0⟩ : Token)]).length _Cu104) (derT letter t) := by
              have hx := _f_161
              exact hx.eq (by first | exact der3 hok (by omega) (by omega) | exact der0 hok (by omega) (by omega) | exact der4t hok (by omega) _hk0 _hk1 _h46 | exact der4f hok (by omega) _hk0 _hk1 _h46 | exact der5 hok (by omega) _hk0 _hk1 | (rw [hl]; exact der6 hok (by omega) _hk0) | (rw [_ht]; exact der7 hok (by omega) _hk0))
            exact ret_intro [_] (resOf_loadA _m_159 rfl agg26 sz26 trivial) ⟨_, rfl, _o_160, Lo.down _lo104 (by omega), E⟩
theorem c_spec_l9Deriv {w : World} {LL_l _B_l : Nat} {_v_l : Value} {l : List Token} (_h_l : Ls Token.cs 4 w LL_l _B_l _v_l l) (letter : Int) (t : Tr) (hok : Okd t) (hl : l = t.flat) (hb : l.length ≤ 400) :
    Ctr Tryz.prog 37 #[_v_l, (.int .i64 letter)] w (fun v w' => ∃ u, v = .agg #[u] ∧ Ol Token.cs 52 4 w' u (derT letter t) ∧ Lo w.heap.size u ∧ Ch [] w w') := c_spec_l9Deriv_n _ _h_l letter t hok hl hb (Nat.lt_succ_self _)

/-- spec.Derivative -/
theorem c_spec_Derivative {w : World} {LL_e _B_e : Nat} {_v_e : Value} {e : List Token} (_h_e : Ls Token.cs 4 w LL_e _B_e _v_e e) (letter : Int) :
    Ctr Tryz.prog 16 #[(.agg #[_v_e]), (.int .i64 letter)] w (fun v w' => ∃ (u0x0 : Value), v = .tuple #[.agg #[u0x0], .bool ((derE e letter).2)] ∧ Ol Token.cs 52 4 w' u0x0 ((derE e letter).1) ∧ Lo w.heap.size u0x0 ∧ Ch [] w w') := by
  obtain ⟨_A_e, _C_e, _e1_e⟩ := _h_e.val
  subst _e1_e
  have _l_e := _h_e.len
  have _h_e := _h_e.here (by decide)
  have E := Ch.refl [] w
  refine Ctr_of_W (N := 32) (vs0 := [(.agg #[(.slice _A_e e.length _C_e)]), (.int .i64 letter)]) Tryz.func16 rfl rfl rfl ?_
  refine W_seq fun _K_1 _hK_1 => ?_
  refine W_region ?_
  refine WL_s rfl rfl ?_
  refine s_box rfl fun _b2 _w_2 _m2 _cw_2 _e2 => ?_
  have _cw_2z := _cw_2.size
  have E := E.trans _cw_2
  have _z2 := _m2.lt
  replace _m2 : Blk _w_2 _b2 26 [(.slice _A_e e.length _C_e)] := _m2
  refine WL_s rfl rfl ?_
  refine s_alloc zr26 fun _b4 _w_3 _m4 _cw_3 _e4 => ?_
  have _cw_3z := _cw_3.size
  have E := E.trans _cw_3
  have _z4 := _m4.lt
  replace _m4 : Blk _w_3 _b4 26 [(.slice none 0 0)] := _m4
  refine WL_step rfl rfl (r_assign rfl) ?_
  refine WL_nil ?_
  refine thn_nrm (_hK_1 _ _ ?_)
  clear _hK_1
  refine W_seq fun _K_4 _hK_4 => ?_
  refine W_seq fun _K_5 _hK_5 => ?_
  refine W_region ?_
  have _f_6 := (_m2.ch0 _cw_3)
  refine WL_step rfl rfl (r_loadAtA0 _f_6.at_ agg26 sz26 rfl) ?_
  refine WL_s rfl rfl ?_
  have _f_7 := ((_h_e.ch0 _cw_2).ch0 _cw_3)
  refine Step.call (r_call (xs := [.tmp 7]) fk30 rfl) (c_spec_IsExpr _f_7 ) fun _v8 _w_8 _q8 => ?_
  obtain ⟨rfl, _cw_8⟩ := _q8
  have _cw_8z := _cw_8.size
  have E := E.trans _cw_8
  refine WL_step rfl rfl (r_not rfl) ?_
  refine WL_step rfl rfl (r_move rfl) ?_
  refine WL_split (d := 10) rfl (fun _h10 => ?_) (fun _h10 => ?_)
  · have _kb_9 := _h10
    have _h10 := bt_n _h10
    refine WL_skip rfl rfl ?_
    refine WL_skip rfl rfl ?_
    refine WL_skip rfl rfl ?_
    refine WL_skip rfl rfl ?_
    refine WL_step rfl rfl (r_pickT rfl rfl) ?_
    refine WL_step rfl rfl (r_move rfl) ?_
    refine WL_skip rfl rfl ?_
    refine WL_skip rfl rfl ?_
    refine WL_skip rfl rfl ?_
    refine WL_step rfl rfl (r_pickT rfl rfl) ?_
    refine WL_nil ?_
    refine thn_nrm (_hK_5 _ _ ?_)
    clear _hK_5
    refine W_condT rfl ?_
    refine W_seq fun _K_10 _hK_10 => ?_
    refine W_region ?_
    refine WL_step rfl rfl (r_build (parts := []) (cells := [(.slice none 0 0)]) zr26 pl26 rfl rfl) ?_
    refine WL_s rfl rfl ?_
    have _f_11 := (_m4.ch0 _cw_8)
    refine s_storeA (off := 0) 1 _f_11 sz26 rfl (us := [(.slice none 0 0)]) rfl rfl rfl rfl fun _w_12 _m_13 _cw_12 => ?_
    have _cw_12z := _cw_12.size
    have E := E.step _cw_12 (fun i hi => .inl (by have _h1 := List.mem_singleton.1 hi; omega))
    replace _m_13 : Blk _w_12 _b4 26 [(.slice none 0 0)] := _m_13
    refine WL_step rfl rfl (r_assign rfl) ?_
    refine WL_nil ?_
    refine thn_nrm (_hK_10 _ _ ?_)
    clear _hK_10
    refine W_ret (thn_ret ?_)
    clear _hK_4
    have _o_14 : Ol Token.cs 52 4 _w_12 (.slice none 0 0) ((derE e letter).1) := by
      have hx := (Ol.nil (cs := Token.cs) (e := 52) (k := 4) _w_12)
      first | (rw [derE_n1 (isE_n _h10)]; exact hx) | (rw [derE_n2 (by omega)]; exact hx) | (rw [derE_n3 _e5 (by omega)]; exact hx) | (rw [derE_y _e5 (by omega) (by omega) (by omega)]; exact hx)
    exact ret_intro [_, _] (resOf_loadA _m_13 rfl agg26 sz26 ⟨rfl, trivial⟩) ⟨(.slice none 0 0), (congrArg (fun zq => (Value.tuple #[.agg #[(.slice none 0 0)], .bool zq])) (by first | (rw [derE_n1 (isE_n _h10)]; done) | (rw [derE_n2 (by omega)]; done) | (rw [derE_n3 _e5 (by omega)]; done) | (rw [derE_y _e5 (by omega) (by omega) (by omega)]; done))), _o_14, (Lo.nil _), E⟩
  · have _kb_9 := _h10
    have _h10 := bf_n _h10
    obtain ⟨_t5, _e5, hok, hl⟩ := isE_y _h10
    refine WL_step rfl rfl (r_fieldAddr fa26_0 rfl) ?_
    have _f_15 := (_f_6.ch0 _cw_8)
    refine WL_step rfl rfl (r_loadAt _f_15.at_ agg24 rfl rfl) ?_
    refine WL_step rfl rfl (r_len (by rw [el24]; rfl) rfl) ?_
    refine WL_step rfl rfl (r_gtr rfl rfl) ?_
    refine WL_step rfl rfl (r_pickF rfl rfl) ?_
    refine WL_step rfl rfl (r_move rfl) ?_
    refine WL_split (d := 16) rfl (fun _h16 => ?_) (fun _h16 => ?_)
    · have _kb_16 := _h16
      have _h16 := bt_d _h16
      refine WL_skip rfl rfl ?_
      refine WL_skip rfl rfl ?_
      refine WL_skip rfl rfl ?_
      refine WL_step rfl rfl (r_pickT rfl rfl) ?_
      refine WL_nil ?_
      refine thn_nrm (_hK_5 _ _ ?_)
      clear _hK_5
      refine W_condT rfl ?_
      refine W_seq fun _K_17 _hK_17 => ?_
      refine W_region ?_
      refine WL_step rfl rfl (r_build (parts := []) (cells := [(.slice none 0 0)]) zr26 pl26 rfl rfl) ?_
      refine WL_s rfl rfl ?_
      have _f_18 := (_m4.ch0 _cw_8)
      refine s_storeA (off := 0) 1 _f_18 sz26 rfl (us := [(.slice none 0 0)]) rfl rfl rfl rfl fun _w_19 _m_20 _cw_19 => ?_
      have _cw_19z := _cw_19.size
      have E := E.step _cw_19 (fun i hi => .inl (by have _h1 := List.mem_singleton.1 hi; omega))
      replace _m_20 : Blk _w_19 _b4 26 [(.slice none 0 0)] := _m_20
      refine WL_step rfl rfl (r_assign rfl) ?_
      refine WL_nil ?_
      refine thn_nrm (_hK_17 _ _ ?_)
      clear _hK_17
      refine W_ret (thn_ret ?_)
      clear _hK_4
      have _o_21 : Ol Token.cs 52 4 _w_19 (.slice none 0 0) ((derE e letter).1) := by
        have hx := (Ol.nil (cs := Token.cs) (e := 52) (k := 4) _w_19)
        first | (rw [derE_n1 (isE_n _h10)]; exact hx) | (rw [derE_n2 (by omega)]; exact hx) | (rw [derE_n3 _e5 (by omega)]; exact hx) | (rw [derE_y _e5 (by omega) (by omega) (by omega)]; exact hx)
      exact ret_intro [_, _] (resOf_loadA _m_20 rfl agg26 sz26 ⟨rfl, trivial⟩) ⟨(.slice none 0 0), (congrArg (fun zq => (Value.tuple #[.agg #[(.slice none 0 0)], .bool zq])) (by first | (rw [derE_n1 (isE_n _h10)]; done) | (rw [derE_n2 (by omega)]; done) | (rw [derE_n3 _e5 (by omega)]; done) | (rw [derE_y _e5 (by omega) (by omega) (by omega)]; done))), _o_21, (Lo.nil _), E⟩
    · have _kb_16 := _h16
      have _h16 := bf_d _h16
      refine WL_step rfl rfl (r_move rfl) ?_
      refine WL_s rfl rfl ?_
      refine Step.call (r_call (xs := [.tmp 17]) fk32 rfl) (c_spec_l2Letter _ ) fun _v18 _w_22 _q18 => ?_
      obtain ⟨rfl, _cw_22⟩ := _q18
      have _cw_22z := _cw_22.size
      have E := E.trans _cw_22
      refine WL_step rfl rfl (r_not rfl) ?_
      refine WL_step rfl rfl (r_pickF rfl rfl) ?_
      refine WL_nil ?_
      refine thn_nrm (_hK_5 _ _ ?_)
      clear _hK_5
      refine W_cond rfl (fun _h20 => ?_) (fun _h20 => ?_)
      · have _kb_23 := _h20
        have _h20 := bf_d (bt_n _h20)
        refine W_seq fun _K_24 _hK_24 => ?_
        refine W_region ?_
        refine WL_step rfl rfl (r_build (parts := []) (cells := [(.slice none 0 0)]) zr26 pl26 rfl rfl) ?_
        refine WL_s rfl rfl ?_
        have _f_25 := ((_m4.ch0 _cw_8).ch0 _cw_22)
        refine s_storeA (off := 0) 1 _f_25 sz26 rfl (us := [(.slice none 0 0)]) rfl rfl rfl rfl fun _w_26 _m_27 _cw_26 => ?_
        have _cw_26z := _cw_26.size
        have E := E.step _cw_26 (fun i hi => .inl (by have _h1 := List.mem_singleton.1 hi; omega))
        replace _m_27 : Blk _w_26 _b4 26 [(.slice none 0 0)] := _m_27
        refine WL_step rfl rfl (r_assign rfl) ?_
        refine WL_nil ?_
        refine thn_nrm (_hK_24 _ _ ?_)
        clear _hK_24
        refine W_ret (thn_ret ?_)
        clear _hK_4
        have _o_28 : Ol Token.cs 52 4 _w_26 (.slice none 0 0) ((derE e letter).1) := by
          have hx := (Ol.nil (cs := Token.cs) (e := 52) (k := 4) _w_26)
          first | (rw [derE_n1 (isE_n _h10)]; exact hx) | (rw [derE_n2 (by omega)]; exact hx) | (rw [derE_n3 _e5 (by omega)]; exact hx) | (rw [derE_y _e5 (by omega) (by omega) (by omega)]; exact hx)
        exact ret_intro [_, _] (resOf_loadA _m_27 rfl agg26 sz26 ⟨rfl, trivial⟩) ⟨(.slice none 0 0), (congrArg (fun zq => (Value.tuple #[.agg #[(.slice none 0 0)], .bool zq])) (by first | (rw [derE_n1 (isE_n _h10)]; done) | (rw [derE_n2 (by omega)]; done) | (rw [derE_n3 _e5 (by omega)]; done) | (rw [derE_y _e5 (by omega) (by omega) (by omega)]; done))), _o_28, (Lo.nil _), E⟩
      · have _kb_23 := _h20
        have _h20 := bt_d (bf_n _h20)
        refine W_skip ?_
        refine thn_nrm (_hK_4 _ _ ?_)
        clear _hK_4
        refine W_seq fun _K_29 _hK_29 => ?_
        refine W_region ?_
        refine WL_step rfl rfl (r_fieldAddr fa26_0 rfl) ?_
        have _f_30 := (_f_15.ch0 _cw_22)
        refine WL_step rfl rfl (r_loadAt _f_30.at_ agg24 rfl rfl) ?_
        refine WL_step rfl rfl (r_move rfl) ?_
        refine WL_s rfl rfl ?_
        have _f_31 := ((_f_7.ch0 _cw_8).ch0 _cw_22)
        refine Step.call (r_call (xs := [.tmp 23, .tmp 24]) fk37 rfl) (c_spec_l9Deriv _f_31 _ _t5 hok hl (by omega)) fun _v25 _w_32 _q25 => ?_
        obtain ⟨_u25, rfl, _q25, _lo25, _cw_32⟩ := _q25
        have _cw_32z := _cw_32.size
        have E := E.trans _cw_32
        obtain ⟨_Au25, _Cu25, _eu25⟩ := _q25.val
        subst _eu25
        have _lu25 := _q25.len
        have _hiu25 := _q25.lt
        refine WL_s rfl rfl ?_
        refine s_alloc zr26 fun _b6 _w_33 _m6 _cw_33 _e6 => ?_
        have _cw_33z := _cw_33.size
        have E := E.trans _cw_33
        have _z6 := _m6.lt
        replace _m6 : Blk _w_33 _b6 26 [(.slice none 0 0)] := _m6
        refine WL_s rfl rfl ?_
        refine s_storeA (off := 0) 1 _m6 sz26 rfl (us := [(.slice _Au25 (derT letter _t5).length _Cu25)]) rfl rfl rfl rfl fun _w_34 _m_35 _cw_34 => ?_
        have _cw_34z := _cw_34.size
        have E := E.step _cw_34 (fun i hi => .inl (by have _h1 := List.mem_singleton.1 hi; omega))
        replace _m_35 : Blk _w_34 _b6 26 [(.slice _Au25 (derT letter _t5).length _Cu25)] := _m_35
        refine WL_nil ?_
        refine thn_nrm (_hK_29 _ _ ?_)
        clear _hK_29
        refine W_seq fun _K_36 _hK_36 => ?_
        refine W_seq fun _K_37 _hK_37 => ?_
        refine W_region ?_
        refine WL_step rfl rfl (r_fieldAddr fa26_0 rfl) ?_
        refine WL_step rfl rfl (r_loadAt _m_35.at_ agg24 rfl rfl) ?_
        refine WL_step rfl rfl (r_len (by rw [el24]; rfl) rfl) ?_
        refine WL_step rfl rfl (r_gtr rfl rfl) ?_
        refine WL_nil ?_
        refine thn_nrm (_hK_37 _ _ ?_)
        clear _hK_37
        refine W_cond rfl (fun _h29 => ?_) (fun _h29 => ?_)
        · have _kb_38 := _h29
          have _h29 := bt_d _h29
          refine W_seq fun _K_39 _hK_39 => ?_
          refine W_region ?_
          refine WL_step rfl rfl (r_build (parts := []) (cells := [(.slice none 0 0)]) zr26 pl26 rfl rfl) ?_
          refine WL_s rfl rfl ?_
          have _f_40 := (((((_m4.ch0 _cw_8).ch0 _cw_22).ch0 _cw_32).ch0 _cw_33).ch _cw_34 (fun hm => by have _h1 := List.mem_singleton.1 hm; omega))
          refine s_storeA (off := 0) 1 _f_40 sz26 rfl (us := [(.slice none 0 0)]) rfl rfl rfl rfl fun _w_41 _m_42 _cw_41 => ?_
          have _cw_41z := _cw_41.size
          have E := E.step _cw_41 (fun i hi => .inl (by have _h1 := List.mem_singleton.1 hi; omega))
          replace _m_42 : Blk _w_41 _b4 26 [(.slice none 0 0)] := _m_42
          refine WL_step rfl rfl (r_assign rfl) ?_
          refine WL_nil ?_
          refine thn_nrm (_hK_39 _ _ ?_)
          clear _hK_39
          refine W_ret (thn_ret ?_)
          clear _hK_36
          have _o_43 : Ol Token.cs 52 4 _w_41 (.slice none 0 0) ((derE e letter).1) := by
            have hx := (Ol.nil (cs := Token.cs) (e := 52) (k := 4) _w_41)
            first | (rw [derE_n1 (isE_n _h10)]; exact hx) | (rw [derE_n2 (by omega)]; exact hx) | (rw [derE_n3 _e5 (by omega)]; exact hx) | (rw [derE_y _e5 (by omega) (by omega) (by omega)]; exact hx)
          exact ret_intro [_, _] (resOf_loadA _m_42 rfl agg26 sz26 ⟨rfl, trivial⟩) ⟨(.slice none 0 0), (congrArg (fun zq => (Value.tuple #[.agg #[(.slice none 0 0)], .bool zq])) (by first | (rw [derE_n1 (isE_n _h10)]; done) | (rw [derE_n2 (by omega)]; done) | (rw [derE_n3 _e5 (by omega)]; done) | (rw [derE_y _e5 (by omega) (by omega) (by omega)]; done))), _o_43, (Lo.nil _), E⟩
        · have _kb_38 := _h29
          have _h29 := bf_d _h29
          refine W_skip ?_
          refine thn_nrm (_hK_36 _ _ ?_)
          clear _hK_36
          refine W_seq fun _K_44 _hK_44 => ?_
          refine W_region ?_
          refine WL_step rfl rfl (r_loadAtA0 _m_35.at_ agg26 sz26 rfl) ?_
          refine WL_s rfl rfl ?_
          have _f_45 := (((((_m4.ch0 _cw_8).ch0 _cw_22).ch0 _cw_32).ch0 _cw_33).ch _cw_34 (fun hm => by have _h1 := List.mem_singleton.1 hm; omega))
          refine s_storeA (off := 0) 1 _f_45 sz26 rfl (us := [(.slice _Au25 (derT letter _t5).length _Cu25)]) rfl rfl rfl rfl fun _w_46 _m_47 _cw_46 => ?_
          have _cw_46z := _cw_46.size
          have E := E.step _cw_46 (fun i hi => .inl (by have _h1 := List.mem_singleton.1 hi; omega))
          replace _m_47 : Blk _w_46 _b4 26 [(.slice _Au25 (derT letter _t5).length _Cu25)] := _m_47
          refine WL_step rfl rfl (r_assign rfl) ?_
          refine WL_nil ?_
          refine thn_nrm (_hK_44 _ _ ?_)
          clear _hK_44
          refine W_ret ?_
          have _f_48 := (((_q25.ch0 _cw_33).ch _cw_34 (fun g hg hm => by have _h0 := List.mem_singleton.1 hm; have _h2 := _lo25 _ hg; have _h3 := _hiu25 _ hg; omega)).ch _cw_46 (fun g hg hm => by have _h0 := List.mem_singleton.1 hm; have _h2 := _lo25 _ hg; have _h3 := _hiu25 _ hg; omega))
          have _o_49 : Ol Token.cs 52 4 _w_46 (.slice _Au25 (derT letter _t5).length _Cu25) ((derE e letter).1) := by
            have hx := _f_48
            first | (rw [derE_n1 (isE_n _h10)]; exact hx) | (rw [derE_n2 (by omega)]; exact hx) | (rw [derE_n3 _e5 (by omega)]; exact hx) | (rw [derE_y _e5 (by omega) (by omega) (by omega)]; exact hx)
          exact ret_intro [_, _] (resOf_loadA _m_47 rfl agg26 sz26 ⟨rfl, trivial⟩) ⟨(.slice _Au25 (derT letter _t5).length _Cu25), (congrArg (fun zq => (Value.tuple #[.agg #[(.slice _Au25 (derT letter _t5).length _Cu25)], .bool zq])) (by first | (rw [derE_n1 (isE_n _h10)]; done) | (rw [derE_n2 (by omega)]; done) | (rw [derE_n3 _e5 (by omega)]; done) | (rw [derE_y _e5 (by omega) (by omega) (by omega)]; done))), _o_49, (Lo.down _lo25 (by omega)), E⟩

end Go.Proofs.YtholldndjafnpaaGreat
