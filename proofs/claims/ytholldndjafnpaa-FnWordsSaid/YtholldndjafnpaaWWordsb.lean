/- Walks of functions that FnWords reaches: what each returns, and that it leaves the memory that was there alone. -/
import Derived.Test.YtholldndjafnpaaLibA
import Derived.Test.YtholldndjafnpaaLibB
import Derived.Test.YtholldndjafnpaaWWords
import Derived.Test.YtholldndjafnpaaProg
namespace Go.Proofs.Ytholldndjafnpaa
open Go.KLib Go.Shelf
set_option maxHeartbeats 1000000
set_option maxRecDepth 20000
set_option linter.unusedVariables false
set_option linter.unusedSimpArgs false
namespace TWordsb
theorem agg126 : aggB Try.prog 126 = some true := by kernel_rfl
theorem agg22 : aggB Try.prog 22 = some false := by kernel_rfl
theorem agg3 : aggB Try.prog 3 = some false := by kernel_rfl
theorem agg30 : aggB Try.prog 30 = some false := by kernel_rfl
theorem agg5 : aggB Try.prog 5 = some false := by kernel_rfl
theorem agg65 : aggB Try.prog 65 = some false := by kernel_rfl
theorem agg67 : aggB Try.prog 67 = some true := by kernel_rfl
theorem agg9 : aggB Try.prog 9 = some false := by kernel_rfl
theorem by126 : bytesB Try.prog 126 = some 32 := by kernel_rfl
theorem by9 : bytesB Try.prog 9 = some 16 := by kernel_rfl
theorem el22 : elB Try.prog 22 = some 5 := by kernel_rfl
theorem el224 : elB Try.prog 224 = some 9 := by kernel_rfl
theorem el25 : elB Try.prog 25 = some 30 := by kernel_rfl
theorem el30 : elB Try.prog 30 = some 3 := by kernel_rfl
theorem el65 : elB Try.prog 65 = some 126 := by kernel_rfl
theorem fa126_0 : faB Try.prog 126 0 = some 0 := by kernel_rfl
theorem fa126_1 : faB Try.prog 126 1 = some 1 := by kernel_rfl
theorem fa126_2 : faB Try.prog 126 2 = some 2 := by kernel_rfl
theorem fa126_3 : faB Try.prog 126 3 = some 3 := by kernel_rfl
theorem fa150_0 : faB Try.prog 150 0 = some 0 := by kernel_rfl
theorem fa150_1 : faB Try.prog 150 1 = some 1 := by kernel_rfl
theorem fa150_2 : faB Try.prog 150 2 = some 2 := by kernel_rfl
theorem fa67_0 : faB Try.prog 67 0 = some 0 := by kernel_rfl
theorem fk106 : fnB Try.prog 106 = true := by kernel_rfl
theorem fk119 : fnB Try.prog 119 = true := by kernel_rfl
theorem fk121 : fnB Try.prog 121 = true := by kernel_rfl
theorem fk127 : fnB Try.prog 127 = true := by kernel_rfl
theorem fk13 : fnB Try.prog 13 = true := by kernel_rfl
theorem fk148 : fnB Try.prog 148 = true := by kernel_rfl
theorem fk173 : fnB Try.prog 173 = true := by kernel_rfl
theorem fk215 : fnB Try.prog 215 = true := by kernel_rfl
theorem fk216 : fnB Try.prog 216 = true := by kernel_rfl
theorem fk220 : fnB Try.prog 220 = true := by kernel_rfl
theorem fk221 : fnB Try.prog 221 = true := by kernel_rfl
theorem fk223 : fnB Try.prog 223 = true := by kernel_rfl
theorem fk224 : fnB Try.prog 224 = true := by kernel_rfl
theorem fk225 : fnB Try.prog 225 = true := by kernel_rfl
theorem fk226 : fnB Try.prog 226 = true := by kernel_rfl
theorem fk52 : fnB Try.prog 52 = true := by kernel_rfl
theorem fk76 : fnB Try.prog 76 = true := by kernel_rfl
theorem fk83 : fnB Try.prog 83 = true := by kernel_rfl
theorem mixed : Try.prog.follows .mixedOrders = true := by kernel_rfl
theorem pl126 : placesB Try.prog 126 = some [(0, 1), (1, 1), (2, 1), (3, 1)] := by kernel_rfl
theorem pl150 : placesB Try.prog 150 = some [(0, 1), (1, 1), (2, 1)] := by kernel_rfl
theorem pl67 : placesB Try.prog 67 = some [(0, 1)] := by kernel_rfl
theorem sz126 : sizeB Try.prog 126 = some 4 := by kernel_rfl
theorem sz3 : sizeB Try.prog 3 = some 1 := by kernel_rfl
theorem sz30 : sizeB Try.prog 30 = some 1 := by kernel_rfl
theorem sz5 : sizeB Try.prog 5 = some 1 := by kernel_rfl
theorem sz65 : sizeB Try.prog 65 = some 1 := by kernel_rfl
theorem sz67 : sizeB Try.prog 67 = some 1 := by kernel_rfl
theorem sz9 : sizeB Try.prog 9 = some 1 := by kernel_rfl
theorem un3 : Try.prog.underlying 3 = some (.int .i64) := by kernel_rfl
theorem un5 : Try.prog.underlying 5 = some (.int .u8) := by kernel_rfl
theorem un9 : Try.prog.underlying 9 = some (.string) := by kernel_rfl
theorem zr126 : zeroB Try.prog 126 = some (.agg #[.int .i64 0, .int .i64 0, .int .i64 0, .int .i64 0]) := by kernel_rfl
theorem zr150 : zeroB Try.prog 150 = some (.agg #[.slice none 0 0, .int .i64 0, .int .i64 0]) := by kernel_rfl
theorem zr5 : zeroB Try.prog 5 = some (.int .u8 0) := by kernel_rfl
theorem zr67 : zeroB Try.prog 67 = some (.agg #[.slice none 0 0]) := by kernel_rfl
theorem zr9 : zeroB Try.prog 9 = some (.string ⟨#[]⟩) := by kernel_rfl
end TWordsb
open TWordsb

/-- laws.sameRows -/
theorem c_laws_sameRows {w : World} {LL_sa _B_sa : Nat} {_v_sa : Value} {sa : List Sv} (_h_sa : Ls Sv.cs 1 w LL_sa _B_sa _v_sa sa) {LR_a BB_a : Nat} {a : List (List Int)} (_rd_a : Rd ics 1 w LR_a BB_a sa a) {LL_sb _B_sb : Nat} {_v_sb : Value} {sb : List Sv} (_h_sb : Ls Sv.cs 1 w LL_sb _B_sb _v_sb sb) {LR_b BB_b : Nat} {b : List (List Int)} (_rd_b : Rd ics 1 w LR_b BB_b sb b) :
    Ctr Try.prog 62 #[_v_sa, _v_sb] w (fun v w' => v = .bool (decide (a = b)) ∧ Ch [] w w') := by
  obtain ⟨_A_sa, _C_sa, _e1_sa⟩ := _h_sa.val
  subst _e1_sa
  have _l_sa := _h_sa.len
  have _h_sa := _h_sa.here (by decide)
  have _rd_a := _rd_a.here (by decide)
  have _rl_a := _rd_a.1
  obtain ⟨_A_sb, _C_sb, _e1_sb⟩ := _h_sb.val
  subst _e1_sb
  have _l_sb := _h_sb.len
  have _h_sb := _h_sb.here (by decide)
  have _rd_b := _rd_b.here (by decide)
  have _rl_b := _rd_b.1
  have E := Ch.refl [] w
  refine Ctr_of_W (N := 27) (vs0 := [(.slice _A_sa sa.length _C_sa), (.slice _A_sb sb.length _C_sb)]) Try.func62 rfl rfl rfl ?_
  refine W_seq fun _K_1 _hK_1 => ?_
  refine W_region ?_
  refine WL_step rfl rfl (r_assign rfl) ?_
  refine WL_nil ?_
  refine thn_nrm (_hK_1 _ _ ?_)
  clear _hK_1
  refine W_seq fun _K_2 _hK_2 => ?_
  refine W_seq fun _K_3 _hK_3 => ?_
  refine W_region ?_
  refine WL_step rfl rfl (r_move rfl) ?_
  refine WL_step rfl rfl (r_len (by rw [el25]; rfl) rfl) ?_
  refine WL_step rfl rfl (r_move rfl) ?_
  refine WL_step rfl rfl (r_len (by rw [el25]; rfl) rfl) ?_
  refine WL_step rfl rfl (r_neq rfl rfl) ?_
  refine WL_nil ?_
  refine thn_nrm (_hK_3 _ _ ?_)
  clear _hK_3
  refine W_cond rfl (fun _h10 => ?_) (fun _h10 => ?_)
  · have _kb_4 := _h10
    have _h10 := bf_d (bt_n _h10)
    refine W_seq fun _K_5 _hK_5 => ?_
    refine W_region ?_
    refine WL_step rfl rfl (r_assign rfl) ?_
    refine WL_nil ?_
    refine thn_nrm (_hK_5 _ _ ?_)
    clear _hK_5
    refine W_ret (thn_ret ?_)
    clear _hK_2
    exact ret_intro [_] ⟨rfl, trivial⟩ ⟨congrArg Value.bool (decide_eq_false (fun e => _h10 (by rw [_rl_a, _rl_b, e]))).symm, E⟩
  · have _kb_4 := _h10
    have _h10 := bt_d (bf_n _h10)
    refine W_skip ?_
    refine thn_nrm (_hK_2 _ _ ?_)
    clear _hK_2
    refine W_seq fun _K_6 _hK_6 => ?_
    refine W_seq fun _K_7 _hK_7 => ?_
    refine W_region ?_
    refine WL_step rfl rfl (r_assign rfl) ?_
    refine WL_nil ?_
    refine thn_nrm (_hK_7 _ _ ?_)
    clear _hK_7
    refine W_block ?_
    refine W_loop (σ := Nat) (fun (k : Nat) => [(0, (.slice _A_sa sa.length _C_sa)), (1, (.slice _A_sb sb.length _C_sb)), (5, (.int .i64 ((k : Nat) : Int)))]) (fun (k : Nat) wx => Ch [] w wx ∧ w.heap.size ≤ wx.heap.size ∧ (k ≤ a.length) ∧ (a.take k = b.take k)) (fun (k : Nat) => a.length - k) 0 (Sub.cons rfl (Sub.cons rfl (Sub.cons rfl (Sub.nil _)))) ⟨E, (Nat.le_refl _), (by omega), rfl⟩ ?_
    rintro k _wr_8 ⟨E, _zz0, _hk, _ht⟩
    have _E0h := E
    have _E0hz := _E0h.size
    refine W_seq fun _K_9 _hK_9 => ?_
    refine W_seq fun _K_10 _hK_10 => ?_
    refine W_region ?_
    refine WL_step rfl rfl (r_move rfl) ?_
    refine WL_step rfl rfl (r_move rfl) ?_
    refine WL_step rfl rfl (r_len (by rw [el25]; rfl) rfl) ?_
    refine WL_step rfl rfl (r_lss rfl rfl) ?_
    refine WL_nil ?_
    refine thn_nrm (_hK_10 _ _ ?_)
    clear _hK_10
    refine W_cond rfl (fun _h14 => ?_) (fun _h14 => ?_)
    · have _kb_11 := _h14
      have _h14 := bt_d _h14
      refine W_skip ?_
      refine thn_nrm (_hK_9 _ _ ?_)
      clear _hK_9
      refine W_seq fun _K_12 _hK_12 => ?_
      refine W_block ?_
      refine W_seq fun _K_13 _hK_13 => ?_
      refine W_drawC [] 10 mixed rfl fun _w_14 _cw_14 => ?_
      have _cw_14z := _cw_14.size
      have E := E.trans _cw_14
      refine DR_s 0 rfl (by kernel_rfl) rfl rfl (t_v (fun _ => (r_move rfl)) ?_)
      refine DR_s 1 rfl (by kernel_rfl) rfl rfl (t_v (fun _ => (r_move rfl)) ?_)
      have _f_15 := ((_h_sa.ch0 _E0h).ch0 _cw_14)
      have _f_16 := ((_rd_a.ch0 _E0h).ch0 _cw_14)
      refine DR_s 2 rfl (by kernel_rfl) rfl rfl (t_index _f_15 Sv.len el25 sz30 rfl rfl rfl (by omega) fun _p19 _y19 _hy19 _a19 => ?_)
      obtain ⟨_ys19, _hys19, _fs19⟩ := _f_16.get _hy19
      obtain ⟨_A19, _n19, _C19⟩ := _y19
      obtain rfl := _fs19.eqn
      have _l19 := _fs19.len
      replace _fs19 : Ls ics 1 _w_14 LR_a w.heap.size (.slice _A19 _ys19.length _C19) _ys19 := _fs19
      replace _a19 : At _w_14 LL_sa w.heap.size _p19 ([(.slice _A19 _ys19.length _C19)]) := _a19
      refine DR_s 3 rfl (by kernel_rfl) rfl rfl (t_loadAt0 _a19 (fun i hi => absurd hi List.not_mem_nil) agg30 rfl rfl ?_)
      refine DR_s 4 rfl (by kernel_rfl) rfl rfl (t_v (fun _ => (r_move rfl)) ?_)
      refine DR_s 5 rfl (by kernel_rfl) rfl rfl (t_v (fun _ => (r_move rfl)) ?_)
      have _f_17 := ((_h_sb.ch0 _E0h).ch0 _cw_14)
      have _f_18 := ((_rd_b.ch0 _E0h).ch0 _cw_14)
      refine DR_s 6 rfl (by kernel_rfl) rfl rfl (t_index _f_17 Sv.len el25 sz30 rfl rfl rfl (by omega) fun _p23 _y23 _hy23 _a23 => ?_)
      obtain ⟨_ys23, _hys23, _fs23⟩ := _f_18.get _hy23
      obtain ⟨_A23, _n23, _C23⟩ := _y23
      obtain rfl := _fs23.eqn
      have _l23 := _fs23.len
      replace _fs23 : Ls ics 1 _w_14 LR_b w.heap.size (.slice _A23 _ys23.length _C23) _ys23 := _fs23
      replace _a23 : At _w_14 LL_sb w.heap.size _p23 ([(.slice _A23 _ys23.length _C23)]) := _a23
      refine DR_s 7 rfl (by kernel_rfl) rfl rfl (t_loadAt0 _a23 (fun i hi => absurd hi List.not_mem_nil) agg30 rfl rfl ?_)
      refine DR_one 8 (by kernel_rfl) ?_
      refine DO_s rfl rfl rfl ?_
      refine Step.call (r_call (xs := [.tmp 20, .tmp 24]) fk13 rfl) (c_laws_sameInts _fs19 _fs23 ) fun _v25 _w_19 _q25 => ?_
      obtain ⟨rfl, _cw_19⟩ := _q25
      have _cw_19z := _cw_19.size
      have E := E.trans _cw_19
      have _S_20 : Ch [] _w_14 _w_19 := ((Ch.refl _ _).trans _cw_19)
      refine ⟨_S_20, ?_⟩
      refine DR_s 9 rfl (by kernel_rfl) rfl rfl (t_v (fun _ => (r_not rfl)) ?_)
      refine DR_done (by kernel_rfl) ?_
      refine thn_nrm (_hK_13 _ _ ?_)
      clear _hK_13
      refine W_cond rfl (fun _h26 => ?_) (fun _h26 => ?_)
      · have _kb_21 := _h26
        have _h26 := bf_d (bt_n _h26)
        refine W_seq fun _K_22 _hK_22 => ?_
        refine W_region ?_
        refine WL_step rfl rfl (r_assign rfl) ?_
        refine WL_nil ?_
        refine thn_nrm (_hK_22 _ _ ?_)
        clear _hK_22
        refine W_ret (inB_ret (thn_ret (thn_ret (inB_ret (thn_ret ?_)))))
        clear _hK_6 _hK_12
        exact ret_intro [_] ⟨rfl, trivial⟩ ⟨congrArg Value.bool (decide_eq_false (ne_of_get _hys19 _hys23 _h26)).symm, E⟩
      · have _kb_21 := _h26
        have _h26 := bt_d (bf_n _h26)
        refine W_skip ?_
        refine inB_nrm ?_
        refine thn_nrm (_hK_12 _ _ ?_)
        clear _hK_12
        refine W_region ?_
        refine WL_step rfl rfl (r_move rfl) ?_
        refine WL_step rfl rfl (r_add (by omega) rfl rfl) ?_
        refine WL_step rfl rfl (r_assign rfl) ?_
        refine WL_nil ?_
        exact thn_nrm (Exists.intro (k + 1) ⟨⟨E, (by omega), (by omega), (take_eq_succ _ht _hys19 _hys23 _h26)⟩, Sub.cons rfl (Sub.cons rfl (Sub.cons rfl (Sub.nil _))), (by first | omega | (dsimp only; omega))⟩)
    · have _kb_11 := _h14
      have _h14 := bf_d _h14
      refine W_exit (thn_exit (thn_exit (inB_hit ?_)))
      refine thn_nrm (_hK_6 _ _ ?_)
      clear _hK_6
      refine W_seq fun _K_23 _hK_23 => ?_
      refine W_region ?_
      refine WL_step rfl rfl (r_assign rfl) ?_
      refine WL_nil ?_
      refine thn_nrm (_hK_23 _ _ ?_)
      clear _hK_23
      refine W_ret ?_
      clear _hK_9
      exact ret_intro [_] ⟨rfl, trivial⟩ ⟨congrArg Value.bool (decide_eq_true (eq_of_take _ht (by omega) (by omega))).symm, E⟩

/-- spec.l2Cmp -/
theorem c_spec_l2Cmp {w : World} {LL_a _B_a : Nat} {_v_a : Value} {a : List Int} (_h_a : Ls ics 1 w LL_a _B_a _v_a a) {LL_b _B_b : Nat} {_v_b : Value} {b : List Int} (_h_b : Ls ics 1 w LL_b _B_b _v_b b) :
    Ctr Try.prog 106 #[_v_a, _v_b] w (fun v w' => v = .int .i64 (lexI a b) ∧ Ch [] w w') := by
  obtain ⟨_A_a, _C_a, _e1_a⟩ := _h_a.val
  subst _e1_a
  have _l_a := _h_a.len
  have _h_a := _h_a.here (by decide)
  obtain ⟨_A_b, _C_b, _e1_b⟩ := _h_b.val
  subst _e1_b
  have _l_b := _h_b.len
  have _h_b := _h_b.here (by decide)
  have E := Ch.refl [] w
  refine Ctr_of_W (N := 46) (vs0 := [(.slice _A_a a.length _C_a), (.slice _A_b b.length _C_b)]) Try.func106 rfl rfl rfl ?_
  refine W_seq fun _K_1 _hK_1 => ?_
  refine W_region ?_
  refine WL_step rfl rfl (r_assign rfl) ?_
  refine WL_nil ?_
  refine thn_nrm (_hK_1 _ _ ?_)
  clear _hK_1
  refine W_seq fun _K_2 _hK_2 => ?_
  refine W_seq fun _K_3 _hK_3 => ?_
  refine W_region ?_
  refine WL_step rfl rfl (r_assign rfl) ?_
  refine WL_nil ?_
  refine thn_nrm (_hK_3 _ _ ?_)
  clear _hK_3
  refine W_block ?_
  refine W_loop (σ := Nat) (fun (i : Nat) => [(0, (.slice _A_a a.length _C_a)), (1, (.slice _A_b b.length _C_b)), (5, (.int .i64 ((i : Nat) : Int)))]) (fun (i : Nat) wx => Ch [] w wx ∧ w.heap.size ≤ wx.heap.size ∧ (i ≤ a.length ∧ i ≤ b.length) ∧ (lexI (a.drop i) (b.drop i) = lexI a b)) (fun (i : Nat) => a.length - i) 0 (Sub.cons rfl (Sub.cons rfl (Sub.cons rfl (Sub.nil _)))) ⟨E, (Nat.le_refl _), (by omega), rfl⟩ ?_
  rintro i _wr_4 ⟨E, _zz0, hi, hl⟩
  have _E0h := E
  have _E0hz := _E0h.size
  refine W_seq fun _K_5 _hK_5 => ?_
  refine W_seq fun _K_6 _hK_6 => ?_
  refine W_region ?_
  refine WL_step rfl rfl (r_move rfl) ?_
  refine WL_step rfl rfl (r_move rfl) ?_
  refine WL_step rfl rfl (r_len (by rw [el30]; rfl) rfl) ?_
  refine WL_step rfl rfl (r_lss rfl rfl) ?_
  refine WL_step rfl rfl (r_move rfl) ?_
  refine WL_split (d := 10) rfl (fun _h10 => ?_) (fun _h10 => ?_)
  · have _kb_7 := _h10
    have _h10 := bt_d _h10
    refine WL_step rfl rfl (r_move rfl) ?_
    refine WL_step rfl rfl (r_move rfl) ?_
    refine WL_step rfl rfl (r_len (by rw [el30]; rfl) rfl) ?_
    refine WL_step rfl rfl (r_lss rfl rfl) ?_
    refine WL_step rfl rfl (r_pickT rfl rfl) ?_
    refine WL_nil ?_
    refine thn_nrm (_hK_6 _ _ ?_)
    clear _hK_6
    refine W_cond rfl (fun _h15 => ?_) (fun _h15 => ?_)
    · have _kb_8 := _h15
      have _h15 := bt_d _h15
      refine W_skip ?_
      refine thn_nrm (_hK_5 _ _ ?_)
      clear _hK_5
      refine W_seq fun _K_9 _hK_9 => ?_
      refine W_block ?_
      refine W_seq fun _K_10 _hK_10 => ?_
      refine W_seq fun _K_11 _hK_11 => ?_
      refine W_drawC [] 9 mixed rfl fun _w_12 _cw_12 => ?_
      have _cw_12z := _cw_12.size
      have E := E.trans _cw_12
      refine DR_s 0 rfl (by kernel_rfl) rfl rfl (t_v (fun _ => (r_move rfl)) ?_)
      refine DR_s 1 rfl (by kernel_rfl) rfl rfl (t_v (fun _ => (r_move rfl)) ?_)
      have _f_13 := ((_h_a.ch0 _E0h).ch0 _cw_12)
      refine DR_s 2 rfl (by kernel_rfl) rfl rfl (t_index _f_13 ics_len el30 sz3 rfl rfl rfl (by omega) fun _p20 _y20 _hy20 _a20 => ?_)
      refine DR_s 3 rfl (by kernel_rfl) rfl rfl (t_loadAt0 _a20 (fun i hi => absurd hi List.not_mem_nil) agg3 rfl rfl ?_)
      refine DR_s 4 rfl (by kernel_rfl) rfl rfl (t_v (fun _ => (r_move rfl)) ?_)
      refine DR_s 5 rfl (by kernel_rfl) rfl rfl (t_v (fun _ => (r_move rfl)) ?_)
      have _f_14 := ((_h_b.ch0 _E0h).ch0 _cw_12)
      refine DR_s 6 rfl (by kernel_rfl) rfl rfl (t_index _f_14 ics_len el30 sz3 rfl rfl rfl (by omega) fun _p24 _y24 _hy24 _a24 => ?_)
      refine DR_s 7 rfl (by kernel_rfl) rfl rfl (t_loadAt0 _a24 (fun i hi => absurd hi List.not_mem_nil) agg3 rfl rfl ?_)
      refine DR_s 8 rfl (by kernel_rfl) rfl rfl (t_v (fun _ => (r_lss rfl rfl)) ?_)
      refine DR_done (by kernel_rfl) ?_
      refine thn_nrm (_hK_11 _ _ ?_)
      clear _hK_11
      refine W_cond rfl (fun _h26 => ?_) (fun _h26 => ?_)
      · have _kb_15 := _h26
        have _h26 := bt_d _h26
        refine W_seq fun _K_16 _hK_16 => ?_
        refine W_region ?_
        refine WL_step rfl rfl (r_assign rfl) ?_
        refine WL_nil ?_
        refine thn_nrm (_hK_16 _ _ ?_)
        clear _hK_16
        refine W_ret (thn_ret (inB_ret (thn_ret (thn_ret (inB_ret (thn_ret ?_))))))
        clear _hK_2 _hK_9 _hK_10
        exact ret_intro [_] ⟨rfl, trivial⟩ ⟨congrArg (Value.int .i64) (by first | exact lexI_lt _hy20 _hy24 _h26 hl | exact lexI_gt _hy29 _hy33 _h35 hl | (rw [← lexI_end (by omega) hi hl, if_pos (by omega)]; done) | (rw [← lexI_end (by omega) hi hl, if_neg (by omega), if_pos (by omega)]; done) | (rw [← lexI_end (by omega) hi hl, if_neg (by omega), if_neg (by omega)]; done)), E⟩
      · have _kb_15 := _h26
        have _h26 := bf_d _h26
        refine W_skip ?_
        refine thn_nrm (_hK_10 _ _ ?_)
        clear _hK_10
        refine W_seq fun _K_17 _hK_17 => ?_
        refine W_drawC [] 9 mixed rfl fun _w_18 _cw_18 => ?_
        have _cw_18z := _cw_18.size
        have E := E.trans _cw_18
        refine DR_s 0 rfl (by kernel_rfl) rfl rfl (t_v (fun _ => (r_move rfl)) ?_)
        refine DR_s 1 rfl (by kernel_rfl) rfl rfl (t_v (fun _ => (r_move rfl)) ?_)
        have _f_19 := (_f_13.ch0 _cw_18)
        refine DR_s 2 rfl (by kernel_rfl) rfl rfl (t_index _f_19 ics_len el30 sz3 rfl rfl rfl (by omega) fun _p29 _y29 _hy29 _a29 => ?_)
        refine DR_s 3 rfl (by kernel_rfl) rfl rfl (t_loadAt0 _a29 (fun i hi => absurd hi List.not_mem_nil) agg3 rfl rfl ?_)
        refine DR_s 4 rfl (by kernel_rfl) rfl rfl (t_v (fun _ => (r_move rfl)) ?_)
        refine DR_s 5 rfl (by kernel_rfl) rfl rfl (t_v (fun _ => (r_move rfl)) ?_)
        have _f_20 := (_f_14.ch0 _cw_18)
        refine DR_s 6 rfl (by kernel_rfl) rfl rfl (t_index _f_20 ics_len el30 sz3 rfl rfl rfl (by omega) fun _p33 _y33 _hy33 _a33 => ?_)
        refine DR_s 7 rfl (by kernel_rfl) rfl rfl (t_loadAt0 _a33 (fun i hi => absurd hi List.not_mem_nil) agg3 rfl rfl ?_)
        refine DR_s 8 rfl (by kernel_rfl) rfl rfl (t_v (fun _ => (r_gtr rfl rfl)) ?_)
        refine DR_done (by kernel_rfl) ?_
        refine thn_nrm (_hK_17 _ _ ?_)
        clear _hK_17
        refine W_cond rfl (fun _h35 => ?_) (fun _h35 => ?_)
        · have _kb_21 := _h35
          have _h35 := bt_d _h35
          refine W_seq fun _K_22 _hK_22 => ?_
          refine W_region ?_
          refine WL_step rfl rfl (r_assign rfl) ?_
          refine WL_nil ?_
          refine thn_nrm (_hK_22 _ _ ?_)
          clear _hK_22
          refine W_ret (inB_ret (thn_ret (thn_ret (inB_ret (thn_ret ?_)))))
          clear _hK_2 _hK_9
          exact ret_intro [_] ⟨rfl, trivial⟩ ⟨congrArg (Value.int .i64) (by first | exact lexI_lt _hy20 _hy24 _h26 hl | exact lexI_gt _hy29 _hy33 _h35 hl | (rw [← lexI_end (by omega) hi hl, if_pos (by omega)]; done) | (rw [← lexI_end (by omega) hi hl, if_neg (by omega), if_pos (by omega)]; done) | (rw [← lexI_end (by omega) hi hl, if_neg (by omega), if_neg (by omega)]; done)), E⟩
        · have _kb_21 := _h35
          have _h35 := bf_d _h35
          refine W_skip ?_
          refine inB_nrm ?_
          refine thn_nrm (_hK_9 _ _ ?_)
          clear _hK_9
          refine W_region ?_
          refine WL_step rfl rfl (r_move rfl) ?_
          refine WL_step rfl rfl (r_add (by omega) rfl rfl) ?_
          refine WL_step rfl rfl (r_assign rfl) ?_
          refine WL_nil ?_
          exact thn_nrm (Exists.intro (i + 1) ⟨⟨E, (by omega), (by omega), (lexI_step _hy20 _hy24 _h26 (by rw [get_uniq _hy20 _hy29, get_uniq _hy24 _hy33]; exact _h35) hl)⟩, Sub.cons rfl (Sub.cons rfl (Sub.cons rfl (Sub.nil _))), (by first | omega | (dsimp only; omega))⟩)
    · have _kb_8 := _h15
      have _h15 := bf_d _h15
      refine W_exit (thn_exit (thn_exit (inB_hit ?_)))
      refine thn_nrm (_hK_2 _ _ ?_)
      clear _hK_2
      refine W_seq fun _K_23 _hK_23 => ?_
      refine W_seq fun _K_24 _hK_24 => ?_
      refine W_region ?_
      refine WL_step rfl rfl (r_move rfl) ?_
      refine WL_step rfl rfl (r_len (by rw [el30]; rfl) rfl) ?_
      refine WL_step rfl rfl (r_move rfl) ?_
      refine WL_step rfl rfl (r_len (by rw [el30]; rfl) rfl) ?_
      refine WL_step rfl rfl (r_lss rfl rfl) ?_
      refine WL_nil ?_
      refine thn_nrm (_hK_24 _ _ ?_)
      clear _hK_24
      refine W_cond rfl (fun _h40 => ?_) (fun _h40 => ?_)
      · have _kb_25 := _h40
        have _h40 := bt_d _h40
        refine W_seq fun _K_26 _hK_26 => ?_
        refine W_region ?_
        refine WL_step rfl rfl (r_assign rfl) ?_
        refine WL_nil ?_
        refine thn_nrm (_hK_26 _ _ ?_)
        clear _hK_26
        refine W_ret (thn_ret ?_)
        clear _hK_5 _hK_23
        exact ret_intro [_] ⟨rfl, trivial⟩ ⟨congrArg (Value.int .i64) (by first | exact lexI_lt _hy20 _hy24 _h26 hl | exact lexI_gt _hy29 _hy33 _h35 hl | (rw [← lexI_end (by omega) hi hl, if_pos (by omega)]; done) | (rw [← lexI_end (by omega) hi hl, if_neg (by omega), if_pos (by omega)]; done) | (rw [← lexI_end (by omega) hi hl, if_neg (by omega), if_neg (by omega)]; done)), E⟩
      · have _kb_25 := _h40
        have _h40 := bf_d _h40
        refine W_skip ?_
        refine thn_nrm (_hK_23 _ _ ?_)
        clear _hK_23
        refine W_seq fun _K_27 _hK_27 => ?_
        refine W_seq fun _K_28 _hK_28 => ?_
        refine W_region ?_
        refine WL_step rfl rfl (r_move rfl) ?_
        refine WL_step rfl rfl (r_len (by rw [el30]; rfl) rfl) ?_
        refine WL_step rfl rfl (r_move rfl) ?_
        refine WL_step rfl rfl (r_len (by rw [el30]; rfl) rfl) ?_
        refine WL_step rfl rfl (r_gtr rfl rfl) ?_
        refine WL_nil ?_
        refine thn_nrm (_hK_28 _ _ ?_)
        clear _hK_28
        refine W_cond rfl (fun _h45 => ?_) (fun _h45 => ?_)
        · have _kb_29 := _h45
          have _h45 := bt_d _h45
          refine W_seq fun _K_30 _hK_30 => ?_
          refine W_region ?_
          refine WL_step rfl rfl (r_assign rfl) ?_
          refine WL_nil ?_
          refine thn_nrm (_hK_30 _ _ ?_)
          clear _hK_30
          refine W_ret (thn_ret ?_)
          clear _hK_5 _hK_27
          exact ret_intro [_] ⟨rfl, trivial⟩ ⟨congrArg (Value.int .i64) (by first | exact lexI_lt _hy20 _hy24 _h26 hl | exact lexI_gt _hy29 _hy33 _h35 hl | (rw [← lexI_end (by omega) hi hl, if_pos (by omega)]; done) | (rw [← lexI_end (by omega) hi hl, if_neg (by omega), if_pos (by omega)]; done) | (rw [← lexI_end (by omega) hi hl, if_neg (by omega), if_neg (by omega)]; done)), E⟩
        · have _kb_29 := _h45
          have _h45 := bf_d _h45
          refine W_skip ?_
          refine thn_nrm (_hK_27 _ _ ?_)
          clear _hK_27
          refine W_seq fun _K_31 _hK_31 => ?_
          refine W_region ?_
          refine WL_step rfl rfl (r_assign rfl) ?_
          refine WL_nil ?_
          refine thn_nrm (_hK_31 _ _ ?_)
          clear _hK_31
          refine W_ret ?_
          clear _hK_5
          exact ret_intro [_] ⟨rfl, trivial⟩ ⟨congrArg (Value.int .i64) (by first | exact lexI_lt _hy20 _hy24 _h26 hl | exact lexI_gt _hy29 _hy33 _h35 hl | (rw [← lexI_end (by omega) hi hl, if_pos (by omega)]; done) | (rw [← lexI_end (by omega) hi hl, if_neg (by omega), if_pos (by omega)]; done) | (rw [← lexI_end (by omega) hi hl, if_neg (by omega), if_neg (by omega)]; done)), E⟩
  · have _kb_7 := _h10
    have _h10 := bf_d _h10
    refine WL_skip rfl rfl ?_
    refine WL_skip rfl rfl ?_
    refine WL_skip rfl rfl ?_
    refine WL_skip rfl rfl ?_
    refine WL_step rfl rfl (r_pickF rfl rfl) ?_
    refine WL_nil ?_
    refine thn_nrm (_hK_6 _ _ ?_)
    clear _hK_6
    refine W_condF rfl ?_
    refine W_exit (thn_exit (thn_exit (inB_hit ?_)))
    refine thn_nrm (_hK_2 _ _ ?_)
    clear _hK_2
    refine W_seq fun _K_32 _hK_32 => ?_
    refine W_seq fun _K_33 _hK_33 => ?_
    refine W_region ?_
    refine WL_step rfl rfl (r_move rfl) ?_
    refine WL_step rfl rfl (r_len (by rw [el30]; rfl) rfl) ?_
    refine WL_step rfl rfl (r_move rfl) ?_
    refine WL_step rfl rfl (r_len (by rw [el30]; rfl) rfl) ?_
    refine WL_step rfl rfl (r_lss rfl rfl) ?_
    refine WL_nil ?_
    refine thn_nrm (_hK_33 _ _ ?_)
    clear _hK_33
    refine W_cond rfl (fun _h40 => ?_) (fun _h40 => ?_)
    · have _kb_34 := _h40
      have _h40 := bt_d _h40
      refine W_seq fun _K_35 _hK_35 => ?_
      refine W_region ?_
      refine WL_step rfl rfl (r_assign rfl) ?_
      refine WL_nil ?_
      refine thn_nrm (_hK_35 _ _ ?_)
      clear _hK_35
      refine W_ret (thn_ret ?_)
      clear _hK_5 _hK_32
      exact ret_intro [_] ⟨rfl, trivial⟩ ⟨congrArg (Value.int .i64) (by first | exact lexI_lt _hy20 _hy24 _h26 hl | exact lexI_gt _hy29 _hy33 _h35 hl | (rw [← lexI_end (by omega) hi hl, if_pos (by omega)]; done) | (rw [← lexI_end (by omega) hi hl, if_neg (by omega), if_pos (by omega)]; done) | (rw [← lexI_end (by omega) hi hl, if_neg (by omega), if_neg (by omega)]; done)), E⟩
    · have _kb_34 := _h40
      have _h40 := bf_d _h40
      refine W_skip ?_
      refine thn_nrm (_hK_32 _ _ ?_)
      clear _hK_32
      refine W_seq fun _K_36 _hK_36 => ?_
      refine W_seq fun _K_37 _hK_37 => ?_
      refine W_region ?_
      refine WL_step rfl rfl (r_move rfl) ?_
      refine WL_step rfl rfl (r_len (by rw [el30]; rfl) rfl) ?_
      refine WL_step rfl rfl (r_move rfl) ?_
      refine WL_step rfl rfl (r_len (by rw [el30]; rfl) rfl) ?_
      refine WL_step rfl rfl (r_gtr rfl rfl) ?_
      refine WL_nil ?_
      refine thn_nrm (_hK_37 _ _ ?_)
      clear _hK_37
      refine W_cond rfl (fun _h45 => ?_) (fun _h45 => ?_)
      · have _kb_38 := _h45
        have _h45 := bt_d _h45
        refine W_seq fun _K_39 _hK_39 => ?_
        refine W_region ?_
        refine WL_step rfl rfl (r_assign rfl) ?_
        refine WL_nil ?_
        refine thn_nrm (_hK_39 _ _ ?_)
        clear _hK_39
        refine W_ret (thn_ret ?_)
        clear _hK_5 _hK_36
        exact ret_intro [_] ⟨rfl, trivial⟩ ⟨congrArg (Value.int .i64) (by first | exact lexI_lt _hy20 _hy24 _h26 hl | exact lexI_gt _hy29 _hy33 _h35 hl | (rw [← lexI_end (by omega) hi hl, if_pos (by omega)]; done) | (rw [← lexI_end (by omega) hi hl, if_neg (by omega), if_pos (by omega)]; done) | (rw [← lexI_end (by omega) hi hl, if_neg (by omega), if_neg (by omega)]; done)), E⟩
      · have _kb_38 := _h45
        have _h45 := bf_d _h45
        refine W_skip ?_
        refine thn_nrm (_hK_36 _ _ ?_)
        clear _hK_36
        refine W_seq fun _K_40 _hK_40 => ?_
        refine W_region ?_
        refine WL_step rfl rfl (r_assign rfl) ?_
        refine WL_nil ?_
        refine thn_nrm (_hK_40 _ _ ?_)
        clear _hK_40
        refine W_ret ?_
        clear _hK_5
        exact ret_intro [_] ⟨rfl, trivial⟩ ⟨congrArg (Value.int .i64) (by first | exact lexI_lt _hy20 _hy24 _h26 hl | exact lexI_gt _hy29 _hy33 _h35 hl | (rw [← lexI_end (by omega) hi hl, if_pos (by omega)]; done) | (rw [← lexI_end (by omega) hi hl, if_neg (by omega), if_pos (by omega)]; done) | (rw [← lexI_end (by omega) hi hl, if_neg (by omega), if_neg (by omega)]; done)), E⟩

/-- spec.CompareWords -/
theorem c_spec_CompareWords {w : World} {LL_a _B_a : Nat} {_v_a : Value} {a : List Int} (_h_a : Ls ics 1 w LL_a _B_a _v_a a) {LL_b _B_b : Nat} {_v_b : Value} {b : List Int} (_h_b : Ls ics 1 w LL_b _B_b _v_b b) :
    Ctr Try.prog 64 #[_v_a, _v_b] w (fun v w' => v = .int .i64 (cmpWd a b) ∧ Ch [] w w') := by
  obtain ⟨_A_a, _C_a, _e1_a⟩ := _h_a.val
  subst _e1_a
  have _l_a := _h_a.len
  have _h_a := _h_a.here (by decide)
  obtain ⟨_A_b, _C_b, _e1_b⟩ := _h_b.val
  subst _e1_b
  have _l_b := _h_b.len
  have _h_b := _h_b.here (by decide)
  have E := Ch.refl [] w
  refine Ctr_of_W (N := 18) (vs0 := [(.slice _A_a a.length _C_a), (.slice _A_b b.length _C_b)]) Try.func64 rfl rfl rfl ?_
  refine W_seq fun _K_1 _hK_1 => ?_
  refine W_region ?_
  refine WL_step rfl rfl (r_assign rfl) ?_
  refine WL_nil ?_
  refine thn_nrm (_hK_1 _ _ ?_)
  clear _hK_1
  refine W_seq fun _K_2 _hK_2 => ?_
  refine W_seq fun _K_3 _hK_3 => ?_
  refine W_region ?_
  refine WL_step rfl rfl (r_move rfl) ?_
  refine WL_step rfl rfl (r_len (by rw [el30]; rfl) rfl) ?_
  refine WL_step rfl rfl (r_move rfl) ?_
  refine WL_step rfl rfl (r_len (by rw [el30]; rfl) rfl) ?_
  refine WL_step rfl rfl (r_lss rfl rfl) ?_
  refine WL_nil ?_
  refine thn_nrm (_hK_3 _ _ ?_)
  clear _hK_3
  refine W_cond rfl (fun _h9 => ?_) (fun _h9 => ?_)
  · have _kb_4 := _h9
    have _h9 := bt_d _h9
    refine W_seq fun _K_5 _hK_5 => ?_
    refine W_region ?_
    refine WL_step rfl rfl (r_assign rfl) ?_
    refine WL_nil ?_
    refine thn_nrm (_hK_5 _ _ ?_)
    clear _hK_5
    refine W_ret (thn_ret ?_)
    clear _hK_2
    exact ret_intro [_] ⟨rfl, trivial⟩ ⟨congrArg (Value.int .i64) (by unfold cmpWd; first | rw [if_pos (by omega)] | rw [if_neg (by omega), if_pos (by omega)] | rw [if_neg (by omega), if_neg (by omega)]), E⟩
  · have _kb_4 := _h9
    have _h9 := bf_d _h9
    refine W_skip ?_
    refine thn_nrm (_hK_2 _ _ ?_)
    clear _hK_2
    refine W_seq fun _K_6 _hK_6 => ?_
    refine W_seq fun _K_7 _hK_7 => ?_
    refine W_region ?_
    refine WL_step rfl rfl (r_move rfl) ?_
    refine WL_step rfl rfl (r_len (by rw [el30]; rfl) rfl) ?_
    refine WL_step rfl rfl (r_move rfl) ?_
    refine WL_step rfl rfl (r_len (by rw [el30]; rfl) rfl) ?_
    refine WL_step rfl rfl (r_gtr rfl rfl) ?_
    refine WL_nil ?_
    refine thn_nrm (_hK_7 _ _ ?_)
    clear _hK_7
    refine W_cond rfl (fun _h14 => ?_) (fun _h14 => ?_)
    · have _kb_8 := _h14
      have _h14 := bt_d _h14
      refine W_seq fun _K_9 _hK_9 => ?_
      refine W_region ?_
      refine WL_step rfl rfl (r_assign rfl) ?_
      refine WL_nil ?_
      refine thn_nrm (_hK_9 _ _ ?_)
      clear _hK_9
      refine W_ret (thn_ret ?_)
      clear _hK_6
      exact ret_intro [_] ⟨rfl, trivial⟩ ⟨congrArg (Value.int .i64) (by unfold cmpWd; first | rw [if_pos (by omega)] | rw [if_neg (by omega), if_pos (by omega)] | rw [if_neg (by omega), if_neg (by omega)]), E⟩
    · have _kb_8 := _h14
      have _h14 := bf_d _h14
      refine W_skip ?_
      refine thn_nrm (_hK_6 _ _ ?_)
      clear _hK_6
      refine W_seq fun _K_10 _hK_10 => ?_
      refine W_region ?_
      refine WL_step rfl rfl (r_move rfl) ?_
      refine WL_step rfl rfl (r_move rfl) ?_
      refine WL_s rfl rfl ?_
      refine Step.call (r_call (xs := [.tmp 15, .tmp 16]) fk106 rfl) (c_spec_l2Cmp _h_a _h_b ) fun _v17 _w_11 _q17 => ?_
      obtain ⟨rfl, _cw_11⟩ := _q17
      have _cw_11z := _cw_11.size
      have E := E.trans _cw_11
      refine WL_step rfl rfl (r_assign rfl) ?_
      refine WL_nil ?_
      refine thn_nrm (_hK_10 _ _ ?_)
      clear _hK_10
      refine W_ret ?_
      exact ret_intro [_] ⟨rfl, trivial⟩ ⟨congrArg (Value.int .i64) (by unfold cmpWd; first | rw [if_pos (by omega)] | rw [if_neg (by omega), if_pos (by omega)] | rw [if_neg (by omega), if_neg (by omega)]), E⟩

/-- spec.l1New -/
theorem c_spec_l1New {w : World} {LL_code _B_code : Nat} {_v_code : Value} {code : List Int} (_h_code : Ls ucs 1 w LL_code _B_code _v_code code) (hb : code.length ≤ 4194304) :
    Ctr Try.prog 74 #[_v_code] w (fun v w' => ∃ b, v = .pointer (some ⟨b, 0, none⟩) ∧ Cu w' b ∧ w.heap.size ≤ b ∧ Ch [] w w') := by
  obtain ⟨_A_code, _C_code, _e1_code⟩ := _h_code.val
  subst _e1_code
  have _l_code := _h_code.len
  have _h_code := _h_code.here (by decide)
  have E := Ch.refl [] w
  refine Ctr_of_W (N := 32) (vs0 := [(.slice _A_code code.length _C_code)]) Try.func74 rfl rfl rfl ?_
  refine W_seq fun _K_1 _hK_1 => ?_
  refine W_region ?_
  refine WL_step rfl rfl (r_assign rfl) ?_
  refine WL_nil ?_
  refine thn_nrm (_hK_1 _ _ ?_)
  clear _hK_1
  refine W_seq fun _K_2 _hK_2 => ?_
  refine W_region ?_
  refine WL_step rfl rfl (r_move rfl) ?_
  refine WL_step rfl rfl (r_len (by rw [el22]; rfl) rfl) ?_
  refine WL_step rfl rfl (r_add (by omega) rfl rfl) ?_
  refine WL_step rfl rfl (r_assign rfl) ?_
  refine WL_nil ?_
  refine thn_nrm (_hK_2 _ _ ?_)
  clear _hK_2
  refine W_seq fun _K_3 _hK_3 => ?_
  refine W_seq fun _K_4 _hK_4 => ?_
  refine W_region ?_
  refine WL_step rfl rfl (r_assign rfl) ?_
  refine WL_nil ?_
  refine thn_nrm (_hK_4 _ _ ?_)
  clear _hK_4
  refine W_block ?_
  refine W_loop (σ := Nat × Int) (fun ⟨i, h⟩ => [(0, (.slice _A_code code.length _C_code)), (2, (.pointer none)), (3, (.int .i64 h)), (4, (.int .i64 ((i : Nat) : Int)))]) (fun ⟨i, h⟩ wx => Ch [] w wx ∧ w.heap.size ≤ wx.heap.size ∧ (i ≤ code.length)) (fun ⟨i, h⟩ => code.length - i) (0, (10101 + ((code.length : Nat) : Int))) (Sub.cons rfl (Sub.cons rfl (Sub.cons rfl (Sub.cons rfl (Sub.nil _))))) ⟨E, (Nat.le_refl _), (by omega)⟩ ?_
  rintro ⟨i, h⟩ _wr_5 ⟨E, _zz0, hi⟩
  have _E0h := E
  have _E0hz := _E0h.size
  refine W_seq fun _K_6 _hK_6 => ?_
  refine W_seq fun _K_7 _hK_7 => ?_
  refine W_region ?_
  refine WL_step rfl rfl (r_move rfl) ?_
  refine WL_step rfl rfl (r_move rfl) ?_
  refine WL_step rfl rfl (r_len (by rw [el22]; rfl) rfl) ?_
  refine WL_step rfl rfl (r_lss rfl rfl) ?_
  refine WL_step rfl rfl (r_move rfl) ?_
  refine WL_split (d := 12) rfl (fun _h12 => ?_) (fun _h12 => ?_)
  · have _kb_8 := _h12
    have _h12 := bt_d _h12
    refine WL_step rfl rfl (r_move rfl) ?_
    refine WL_step rfl rfl (r_lss rfl rfl) ?_
    refine WL_step rfl rfl (r_pickT rfl rfl) ?_
    refine WL_nil ?_
    refine thn_nrm (_hK_7 _ _ ?_)
    clear _hK_7
    refine W_cond rfl (fun _h15 => ?_) (fun _h15 => ?_)
    · have _kb_9 := _h15
      have _h15 := bt_d _h15
      refine W_skip ?_
      refine thn_nrm (_hK_6 _ _ ?_)
      clear _hK_6
      refine W_seq fun _K_10 _hK_10 => ?_
      refine W_block ?_
      refine W_region ?_
      refine WL_step rfl rfl (r_move rfl) ?_
      refine WL_step rfl rfl (r_mul64 rfl rfl) ?_
      refine WL_step rfl rfl (r_move rfl) ?_
      refine WL_step rfl rfl (r_move rfl) ?_
      refine WL_s rfl rfl ?_
      have _f_11 := (_h_code.ch0 _E0h)
      refine (s_index _f_11 ucs_len el22 sz5 rfl rfl rfl (by omega) fun _p22 _y22 _hy22 _a22 => ?_)
      refine WL_step rfl rfl (r_loadAt0 _a22 agg5 rfl rfl) ?_
      refine WL_step rfl rfl (r_convert (by rw [un5]; rfl) un3 rfl) ?_
      refine WL_step rfl rfl (r_add64 rfl rfl) ?_
      refine WL_step rfl rfl (r_add64 rfl rfl) ?_
      refine WL_step rfl rfl (r_and rfl rfl) ?_
      refine WL_step rfl rfl (r_assign rfl) ?_
      refine WL_nil ?_
      refine inB_nrm ?_
      refine thn_nrm (_hK_10 _ _ ?_)
      clear _hK_10
      refine W_region ?_
      refine WL_step rfl rfl (r_move rfl) ?_
      refine WL_step rfl rfl (r_add (by omega) rfl rfl) ?_
      refine WL_step rfl rfl (r_assign rfl) ?_
      refine WL_nil ?_
      exact thn_nrm (Exists.intro ((i + 1), (iand (w64 ((w64 ((w64 (h * 131)) + (w64 _y22))) + 7)) 1073741823)) ⟨⟨E, (by omega), (by omega)⟩, Sub.cons rfl (Sub.cons rfl (Sub.cons rfl (Sub.cons rfl (Sub.nil _)))), (by first | omega | (dsimp only; omega))⟩)
    · have _kb_9 := _h15
      have _h15 := bf_d _h15
      refine W_exit (thn_exit (thn_exit (inB_hit ?_)))
      refine thn_nrm (_hK_3 _ _ ?_)
      clear _hK_3
      refine W_seq fun _K_12 _hK_12 => ?_
      refine W_region ?_
      refine WL_step rfl rfl (r_move rfl) ?_
      refine WL_step rfl rfl (r_move rfl) ?_
      refine WL_step rfl rfl (r_build (parts := [(0, .tmp 28), (2, .tmp 29)]) (cells := [(.slice _A_code code.length _C_code), (.int .i64 0), (.int .i64 h)]) zr150 pl150 rfl rfl) ?_
      refine WL_s rfl rfl ?_
      refine s_box rfl fun _b31 _w_13 _m31 _cw_13 _e31 => ?_
      have _cw_13z := _cw_13.size
      have E := E.trans _cw_13
      have _z31 := _m31.lt
      replace _m31 : Blk _w_13 _b31 150 [(.slice _A_code code.length _C_code), (.int .i64 0), (.int .i64 h)] := _m31
      refine WL_step rfl rfl (r_assign rfl) ?_
      refine WL_nil ?_
      refine thn_nrm (_hK_12 _ _ ?_)
      clear _hK_12
      refine W_ret ?_
      clear _hK_6
      have _f_14 := ((_h_code.ch0 _E0h).ch0 _cw_13)
      exact ret_intro [_] ⟨rfl, trivial⟩ ⟨_, rfl, ⟨_, _, _, _, _, _m31, _f_14.up (by omega) (by omega), (by omega), (by omega)⟩, (by omega), E⟩
  · have _kb_8 := _h12
    have _h12 := bf_d _h12
    refine WL_skip rfl rfl ?_
    refine WL_skip rfl rfl ?_
    refine WL_step rfl rfl (r_pickF rfl rfl) ?_
    refine WL_nil ?_
    refine thn_nrm (_hK_7 _ _ ?_)
    clear _hK_7
    refine W_condF rfl ?_
    refine W_exit (thn_exit (thn_exit (inB_hit ?_)))
    refine thn_nrm (_hK_3 _ _ ?_)
    clear _hK_3
    refine W_seq fun _K_15 _hK_15 => ?_
    refine W_region ?_
    refine WL_step rfl rfl (r_move rfl) ?_
    refine WL_step rfl rfl (r_move rfl) ?_
    refine WL_step rfl rfl (r_build (parts := [(0, .tmp 28), (2, .tmp 29)]) (cells := [(.slice _A_code code.length _C_code), (.int .i64 0), (.int .i64 h)]) zr150 pl150 rfl rfl) ?_
    refine WL_s rfl rfl ?_
    refine s_box rfl fun _b31 _w_16 _m31 _cw_16 _e31 => ?_
    have _cw_16z := _cw_16.size
    have E := E.trans _cw_16
    have _z31 := _m31.lt
    replace _m31 : Blk _w_16 _b31 150 [(.slice _A_code code.length _C_code), (.int .i64 0), (.int .i64 h)] := _m31
    refine WL_step rfl rfl (r_assign rfl) ?_
    refine WL_nil ?_
    refine thn_nrm (_hK_15 _ _ ?_)
    clear _hK_15
    refine W_ret ?_
    clear _hK_6
    have _f_17 := ((_h_code.ch0 _E0h).ch0 _cw_16)
    exact ret_intro [_] ⟨rfl, trivial⟩ ⟨_, rfl, ⟨_, _, _, _, _, _m31, _f_17.up (by omega) (by omega), (by omega), (by omega)⟩, (by omega), E⟩

/-- spec.l1Byte -/
theorem c_spec_l1Byte {w : World} {b_c : Nat} (_h_c : Cu w b_c) :
    Ctr Try.prog 148 #[(.pointer (some ⟨b_c, 0, none⟩))] w (fun v w' => ∃ (xq0 : Int) , v = .int .i64 xq0 ∧ (0 ≤ xq0 ∧ xq0 ≤ 255) ∧ Cu w' b_c ∧ Ch [b_c] w w') := by
  obtain ⟨_v_c, x_c, t_c, i_c, k_c, m_c, _q_c, g1_c, g2_c⟩ := _h_c
  obtain ⟨_A_c, _C_c, _e1_c⟩ := _q_c.val
  subst _e1_c
  have _l_c := _q_c.len
  have _zb_c := m_c.lt
  have E := Ch.refl [b_c] w
  refine Ctr_of_W (N := 58) (vs0 := [(.pointer (some ⟨b_c, 0, none⟩))]) Try.func148 rfl rfl rfl ?_
  refine W_seq fun _K_1 _hK_1 => ?_
  refine W_region ?_
  refine WL_step rfl rfl (r_assign rfl) ?_
  refine WL_nil ?_
  refine thn_nrm (_hK_1 _ _ ?_)
  clear _hK_1
  refine W_seq fun _K_2 _hK_2 => ?_
  refine W_region ?_
  refine WL_step rfl rfl (r_move rfl) ?_
  refine WL_step rfl rfl (r_move rfl) ?_
  refine WL_step rfl rfl (r_nilCheck rfl) ?_
  refine WL_step rfl rfl (r_fieldAddr fa150_2 rfl) ?_
  refine WL_step rfl rfl (r_loadAt m_c.at_ agg3 rfl rfl) ?_
  refine WL_step rfl rfl (r_mul64 rfl rfl) ?_
  refine WL_step rfl rfl (r_add64 rfl rfl) ?_
  refine WL_step rfl rfl (r_nilCheck rfl) ?_
  refine WL_step rfl rfl (r_fieldAddr fa150_2 rfl) ?_
  refine WL_s rfl rfl ?_
  refine s_store1 (off := 2) m_c sz3 rfl rfl rfl rfl fun _w_3 _m_4 _cw_3 => ?_
  have _cw_3z := _cw_3.size
  have E := E.trans _cw_3
  replace _m_4 : Blk _w_3 b_c t_c [(.slice _A_c x_c.length _C_c), (.int .i64 i_c), (.int .i64 (w64 ((w64 (k_c * 6364136223846793005)) + 1442695040888963407)))] := _m_4
  refine WL_nil ?_
  refine thn_nrm (_hK_2 _ _ ?_)
  clear _hK_2
  refine W_seq fun _K_5 _hK_5 => ?_
  refine W_drawC [] 13 mixed rfl fun _w_6 _cw_6 => ?_
  have _cw_6z := _cw_6.size
  have E := E.trans _cw_6.of_nil
  refine DR_s 0 rfl (by kernel_rfl) rfl rfl (t_v (fun _ => (r_move rfl)) ?_)
  refine DR_s 1 rfl (by kernel_rfl) rfl rfl (t_v (fun _ => (r_nilCheck rfl)) ?_)
  refine DR_s 2 rfl (by kernel_rfl) rfl rfl (t_v (fun _ => (r_fieldAddr fa150_2 rfl)) ?_)
  have _f_7 := (_m_4.ch0 _cw_6)
  refine DR_s 3 rfl (by kernel_rfl) rfl rfl (t_loadAt _f_7.at_ (fun i hi => absurd hi List.not_mem_nil) agg3 rfl rfl ?_)
  refine DR_s 4 rfl (by kernel_rfl) rfl rfl (t_v (fun _ => (r_shr (by omega) rfl rfl)) ?_)
  refine DR_s 5 rfl (by kernel_rfl) rfl rfl (t_v (fun _ => (r_move rfl)) ?_)
  refine DR_s 6 rfl (by kernel_rfl) rfl rfl (t_v (fun _ => (r_nilCheck rfl)) ?_)
  refine DR_s 7 rfl (by kernel_rfl) rfl rfl (t_v (fun _ => (r_fieldAddr fa150_2 rfl)) ?_)
  refine DR_s 8 rfl (by kernel_rfl) rfl rfl (t_loadAt _f_7.at_ (fun i hi => absurd hi List.not_mem_nil) agg3 rfl rfl ?_)
  refine DR_s 9 rfl (by kernel_rfl) rfl rfl (t_v (fun _ => (r_shr (by omega) rfl rfl)) ?_)
  refine DR_s 10 rfl (by kernel_rfl) rfl rfl (t_v (fun _ => (r_xor rfl rfl)) ?_)
  refine DR_s 11 rfl (by kernel_rfl) rfl rfl (t_v (fun _ => (r_and rfl rfl)) ?_)
  refine DR_s 12 rfl (by kernel_rfl) rfl rfl (t_v (fun _ => (r_assign rfl)) ?_)
  refine DR_done (by kernel_rfl) ?_
  refine thn_nrm (_hK_5 _ _ ?_)
  clear _hK_5
  refine W_seq fun _K_8 _hK_8 => ?_
  refine W_seq fun _K_9 _hK_9 => ?_
  refine W_drawC [] 10 mixed rfl fun _w_10 _cw_10 => ?_
  have _cw_10z := _cw_10.size
  have E := E.trans _cw_10.of_nil
  refine DR_s 0 rfl (by kernel_rfl) rfl rfl (t_v (fun _ => (r_move rfl)) ?_)
  refine DR_s 1 rfl (by kernel_rfl) rfl rfl (t_v (fun _ => (r_nilCheck rfl)) ?_)
  refine DR_s 2 rfl (by kernel_rfl) rfl rfl (t_v (fun _ => (r_fieldAddr fa150_1 rfl)) ?_)
  have _f_11 := (_f_7.ch0 _cw_10)
  refine DR_s 3 rfl (by kernel_rfl) rfl rfl (t_loadAt _f_11.at_ (fun i hi => absurd hi List.not_mem_nil) agg3 rfl rfl ?_)
  refine DR_s 4 rfl (by kernel_rfl) rfl rfl (t_v (fun _ => (r_move rfl)) ?_)
  refine DR_s 5 rfl (by kernel_rfl) rfl rfl (t_v (fun _ => (r_nilCheck rfl)) ?_)
  refine DR_s 6 rfl (by kernel_rfl) rfl rfl (t_v (fun _ => (r_fieldAddr fa150_0 rfl)) ?_)
  refine DR_s 7 rfl (by kernel_rfl) rfl rfl (t_loadAt _f_11.at_ (fun i hi => absurd hi List.not_mem_nil) agg22 rfl rfl ?_)
  refine DR_s 8 rfl (by kernel_rfl) rfl rfl (t_v (fun _ => (r_len (by rw [el22]; rfl) rfl)) ?_)
  refine DR_s 9 rfl (by kernel_rfl) rfl rfl (t_v (fun _ => (r_lss rfl rfl)) ?_)
  refine DR_done (by kernel_rfl) ?_
  refine thn_nrm (_hK_9 _ _ ?_)
  clear _hK_9
  refine W_cond rfl (fun _h34 => ?_) (fun _h34 => ?_)
  · have _kb_12 := _h34
    have _h34 := bt_d _h34
    refine W_seq fun _K_13 _hK_13 => ?_
    refine W_drawC [] 15 mixed rfl fun _w_14 _cw_14 => ?_
    have _cw_14z := _cw_14.size
    have E := E.trans _cw_14.of_nil
    refine DR_s 0 rfl (by kernel_rfl) rfl rfl (t_v (fun _ => (r_move rfl)) ?_)
    refine DR_s 1 rfl (by kernel_rfl) rfl rfl (t_v (fun _ => (r_move rfl)) ?_)
    refine DR_s 2 rfl (by kernel_rfl) rfl rfl (t_v (fun _ => (r_nilCheck rfl)) ?_)
    refine DR_s 3 rfl (by kernel_rfl) rfl rfl (t_v (fun _ => (r_fieldAddr fa150_0 rfl)) ?_)
    have _f_15 := (_f_11.ch0 _cw_14)
    refine DR_s 4 rfl (by kernel_rfl) rfl rfl (t_loadAt _f_15.at_ (fun i hi => absurd hi List.not_mem_nil) agg22 rfl rfl ?_)
    refine DR_s 5 rfl (by kernel_rfl) rfl rfl (t_v (fun _ => (r_move rfl)) ?_)
    refine DR_s 6 rfl (by kernel_rfl) rfl rfl (t_v (fun _ => (r_nilCheck rfl)) ?_)
    refine DR_s 7 rfl (by kernel_rfl) rfl rfl (t_v (fun _ => (r_fieldAddr fa150_1 rfl)) ?_)
    refine DR_s 8 rfl (by kernel_rfl) rfl rfl (t_loadAt _f_15.at_ (fun i hi => absurd hi List.not_mem_nil) agg3 rfl rfl ?_)
    have _f_16 := ((((_q_c.ch _cw_3 (fun i hi => by have _h1 := List.mem_singleton.1 hi; omega)).ch0 _cw_6).ch0 _cw_10).ch0 _cw_14)
    refine DR_s 9 rfl (by kernel_rfl) rfl rfl (t_index (j := i_c.toNat) _f_16 ucs_len el22 sz5 rfl rfl (by omega) (by omega) fun _p44 _y44 _hy44 _a44 => ?_)
    refine DR_s 10 rfl (by kernel_rfl) rfl rfl (t_loadAt0 _a44 (fun i hi => absurd hi List.not_mem_nil) agg5 rfl rfl ?_)
    refine DR_s 11 rfl (by kernel_rfl) rfl rfl (t_v (fun _ => (r_convert (by rw [un5]; rfl) un3 rfl)) ?_)
    refine DR_s 12 rfl (by kernel_rfl) rfl rfl (t_v (fun _ => (r_add64 rfl rfl)) ?_)
    refine DR_s 13 rfl (by kernel_rfl) rfl rfl (t_v (fun _ => (r_and rfl rfl)) ?_)
    refine DR_s 14 rfl (by kernel_rfl) rfl rfl (t_v (fun _ => (r_assign rfl)) ?_)
    refine DR_done (by kernel_rfl) ?_
    refine thn_nrm (_hK_13 _ _ ?_)
    clear _hK_13
    refine W_region ?_
    refine WL_step rfl rfl (r_move rfl) ?_
    refine WL_step rfl rfl (r_move rfl) ?_
    refine WL_step rfl rfl (r_nilCheck rfl) ?_
    refine WL_step rfl rfl (r_fieldAddr fa150_1 rfl) ?_
    refine WL_step rfl rfl (r_loadAt _f_15.at_ agg3 rfl rfl) ?_
    refine WL_step rfl rfl (r_add (by omega) rfl rfl) ?_
    refine WL_step rfl rfl (r_nilCheck rfl) ?_
    refine WL_step rfl rfl (r_fieldAddr fa150_1 rfl) ?_
    refine WL_s rfl rfl ?_
    refine s_store1 (off := 1) _f_15 sz3 rfl rfl rfl rfl fun _w_17 _m_18 _cw_17 => ?_
    have _cw_17z := _cw_17.size
    have E := E.trans _cw_17
    replace _m_18 : Blk _w_17 b_c t_c [(.slice _A_c x_c.length _C_c), (.int .i64 (i_c + 1)), (.int .i64 (w64 ((w64 (k_c * 6364136223846793005)) + 1442695040888963407)))] := _m_18
    refine WL_nil ?_
    refine thn_nrm (_hK_8 _ _ ?_)
    clear _hK_8
    refine W_seq fun _K_19 _hK_19 => ?_
    refine W_region ?_
    refine WL_step rfl rfl (r_move rfl) ?_
    refine WL_step rfl rfl (r_assign rfl) ?_
    refine WL_nil ?_
    refine thn_nrm (_hK_19 _ _ ?_)
    clear _hK_19
    refine W_ret ?_
    have _f_20 := (_f_16.ch _cw_17 (fun i hi => by have _h1 := List.mem_singleton.1 hi; omega))
    exact ret_intro [_] ⟨rfl, trivial⟩ ⟨(iand (w64 ((iand (ixor (ishr (w64 ((w64 (k_c * 6364136223846793005)) + 1442695040888963407)) 33) (ishr (w64 ((w64 (k_c * 6364136223846793005)) + 1442695040888963407)) 45)) 255) + (w64 _y44))) 255), (congrArg (fun zq => (Value.int .i64 zq)) (by first | rfl | simp_all)), (iand255 _), ⟨_, _, _, _, _, _m_18, _f_20, (by omega), (by omega)⟩, E⟩
  · have _kb_12 := _h34
    have _h34 := bf_d _h34
    refine W_skip ?_
    refine thn_nrm (_hK_8 _ _ ?_)
    clear _hK_8
    refine W_seq fun _K_21 _hK_21 => ?_
    refine W_region ?_
    refine WL_step rfl rfl (r_move rfl) ?_
    refine WL_step rfl rfl (r_assign rfl) ?_
    refine WL_nil ?_
    refine thn_nrm (_hK_21 _ _ ?_)
    clear _hK_21
    refine W_ret ?_
    have _f_22 := (((_q_c.ch _cw_3 (fun i hi => by have _h1 := List.mem_singleton.1 hi; omega)).ch0 _cw_6).ch0 _cw_10)
    exact ret_intro [_] ⟨rfl, trivial⟩ ⟨(iand (ixor (ishr (w64 ((w64 (k_c * 6364136223846793005)) + 1442695040888963407)) 33) (ishr (w64 ((w64 (k_c * 6364136223846793005)) + 1442695040888963407)) 45)) 255), (congrArg (fun zq => (Value.int .i64 zq)) (by first | rfl | simp_all)), (iand255 _), ⟨_, _, _, _, _, _f_11, _f_22, (by omega), (by omega)⟩, E⟩

/-- spec.l1Below -/
theorem c_spec_l1Below {w : World} {b_c : Nat} (_h_c : Cu w b_c) (n : Int) (hn : 0 < n) :
    Ctr Try.prog 76 #[(.pointer (some ⟨b_c, 0, none⟩)), (.int .i64 n)] w (fun v w' => ∃ (xq0 : Int) , v = .int .i64 xq0 ∧ (0 ≤ xq0 ∧ xq0 < n) ∧ Cu w' b_c ∧ Ch [b_c] w w') := by
  have _zb_c := _h_c.lt
  have E := Ch.refl [b_c] w
  refine Ctr_of_W (N := 37) (vs0 := [(.pointer (some ⟨b_c, 0, none⟩)), (.int .i64 n)]) Try.func76 rfl rfl rfl ?_
  refine W_seq fun _K_1 _hK_1 => ?_
  refine W_region ?_
  refine WL_step rfl rfl (r_assign rfl) ?_
  refine WL_nil ?_
  refine thn_nrm (_hK_1 _ _ ?_)
  clear _hK_1
  refine W_seq fun _K_2 _hK_2 => ?_
  refine W_seq fun _K_3 _hK_3 => ?_
  refine W_region ?_
  refine WL_step rfl rfl (r_move rfl) ?_
  refine WL_step rfl rfl (r_leq rfl rfl) ?_
  refine WL_nil ?_
  refine thn_nrm (_hK_3 _ _ ?_)
  clear _hK_3
  refine W_cond rfl (fun _h10 => ?_) (fun _h10 => ?_)
  · have _kb_4 := _h10
    have _h10 := bt_d _h10
    refine W_seq fun _K_5 _hK_5 => ?_
    refine W_region ?_
    refine WL_step rfl rfl (r_assign rfl) ?_
    refine WL_nil ?_
    refine thn_nrm (_hK_5 _ _ ?_)
    clear _hK_5
    refine W_ret (thn_ret ?_)
    clear _hK_2
    exact ret_intro [_] ⟨rfl, trivial⟩ ⟨0, (congrArg (fun zq => (Value.int .i64 zq)) (by first | rfl | simp_all)), (by first | exact tmod_rng (by omega) (by omega) | omega), _h_c, E⟩
  · have _kb_4 := _h10
    have _h10 := bf_d _h10
    refine W_skip ?_
    refine thn_nrm (_hK_2 _ _ ?_)
    clear _hK_2
    refine W_seq fun _K_6 _hK_6 => ?_
    refine W_seq fun _K_7 _hK_7 => ?_
    refine W_region ?_
    refine WL_step rfl rfl (r_move rfl) ?_
    refine WL_step rfl rfl (r_leq rfl rfl) ?_
    refine WL_nil ?_
    refine thn_nrm (_hK_7 _ _ ?_)
    clear _hK_7
    refine W_cond rfl (fun _h12 => ?_) (fun _h12 => ?_)
    · have _kb_8 := _h12
      have _h12 := bt_d _h12
      refine W_seq fun _K_9 _hK_9 => ?_
      refine W_region ?_
      refine WL_step rfl rfl (r_move rfl) ?_
      refine WL_s rfl rfl ?_
      refine Step.call (r_call (xs := [.tmp 13]) fk148 rfl) (c_spec_l1Byte _h_c ) fun _v14 _w_10 _q14 => ?_
      obtain ⟨x14q0, rfl, pt14_0, cu14, _cw_10⟩ := _q14
      have _cw_10z := _cw_10.size
      have E := E.trans _cw_10
      refine WL_step rfl rfl (r_move rfl) ?_
      refine WL_step rfl rfl (r_rem (by omega) rfl rfl) ?_
      refine WL_step rfl rfl (r_assign rfl) ?_
      refine WL_nil ?_
      refine thn_nrm (_hK_9 _ _ ?_)
      clear _hK_9
      refine W_ret (thn_ret ?_)
      clear _hK_6
      exact ret_intro [_] ⟨rfl, trivial⟩ ⟨(x14q0.tmod n), (congrArg (fun zq => (Value.int .i64 zq)) (by first | rfl | simp_all)), (by first | exact tmod_rng (by omega) (by omega) | omega), cu14, E⟩
    · have _kb_8 := _h12
      have _h12 := bf_d _h12
      refine W_skip ?_
      refine thn_nrm (_hK_6 _ _ ?_)
      clear _hK_6
      refine W_seq fun _K_11 _hK_11 => ?_
      refine W_region ?_
      refine WL_step rfl rfl (r_move rfl) ?_
      refine WL_s rfl rfl ?_
      refine Step.call (r_call (xs := [.tmp 17]) fk148 rfl) (c_spec_l1Byte _h_c ) fun _v18 _w_12 _q18 => ?_
      obtain ⟨x18q0, rfl, pt18_0, cu18, _cw_12⟩ := _q18
      have _cw_12z := _cw_12.size
      have E := E.trans _cw_12
      refine WL_step rfl rfl (r_assign rfl) ?_
      refine WL_nil ?_
      refine thn_nrm (_hK_11 _ _ ?_)
      clear _hK_11
      refine W_seq fun _K_13 _hK_13 => ?_
      refine W_region ?_
      refine WL_step rfl rfl (r_move rfl) ?_
      refine WL_s rfl rfl ?_
      refine Step.call (r_call (xs := [.tmp 19]) fk148 rfl) (c_spec_l1Byte cu18 ) fun _v20 _w_14 _q20 => ?_
      obtain ⟨x20q0, rfl, pt20_0, cu20, _cw_14⟩ := _q20
      have _cw_14z := _cw_14.size
      have E := E.trans _cw_14
      refine WL_step rfl rfl (r_assign rfl) ?_
      refine WL_nil ?_
      refine thn_nrm (_hK_13 _ _ ?_)
      clear _hK_13
      refine W_seq fun _K_15 _hK_15 => ?_
      refine W_region ?_
      refine WL_step rfl rfl (r_move rfl) ?_
      refine WL_s rfl rfl ?_
      refine Step.call (r_call (xs := [.tmp 21]) fk148 rfl) (c_spec_l1Byte cu20 ) fun _v22 _w_16 _q22 => ?_
      obtain ⟨x22q0, rfl, pt22_0, cu22, _cw_16⟩ := _q22
      have _cw_16z := _cw_16.size
      have E := E.trans _cw_16
      refine WL_step rfl rfl (r_assign rfl) ?_
      refine WL_nil ?_
      refine thn_nrm (_hK_15 _ _ ?_)
      clear _hK_15
      refine W_seq fun _K_17 _hK_17 => ?_
      refine W_region ?_
      refine WL_step rfl rfl (r_move rfl) ?_
      refine WL_s rfl rfl ?_
      refine Step.call (r_call (xs := [.tmp 23]) fk148 rfl) (c_spec_l1Byte cu22 ) fun _v24 _w_18 _q24 => ?_
      obtain ⟨x24q0, rfl, pt24_0, cu24, _cw_18⟩ := _q24
      have _cw_18z := _cw_18.size
      have E := E.trans _cw_18
      refine WL_step rfl rfl (r_assign rfl) ?_
      refine WL_nil ?_
      refine thn_nrm (_hK_17 _ _ ?_)
      clear _hK_17
      refine W_seq fun _K_19 _hK_19 => ?_
      refine W_region ?_
      refine WL_step rfl rfl (r_move rfl) ?_
      refine WL_step rfl rfl (r_mul (by omega) rfl rfl) ?_
      refine WL_step rfl rfl (r_move rfl) ?_
      refine WL_step rfl rfl (r_mul (by omega) rfl rfl) ?_
      refine WL_step rfl rfl (r_add (by omega) rfl rfl) ?_
      refine WL_step rfl rfl (r_move rfl) ?_
      refine WL_step rfl rfl (r_mul (by omega) rfl rfl) ?_
      refine WL_step rfl rfl (r_add (by omega) rfl rfl) ?_
      refine WL_step rfl rfl (r_move rfl) ?_
      refine WL_step rfl rfl (r_add (by omega) rfl rfl) ?_
      refine WL_step rfl rfl (r_move rfl) ?_
      refine WL_step rfl rfl (r_rem (by omega) rfl rfl) ?_
      refine WL_step rfl rfl (r_assign rfl) ?_
      refine WL_nil ?_
      refine thn_nrm (_hK_19 _ _ ?_)
      clear _hK_19
      refine W_ret ?_
      exact ret_intro [_] ⟨rfl, trivial⟩ ⟨(((((x18q0 * 16777216) + (x20q0 * 65536)) + (x22q0 * 256)) + x24q0).tmod n), (congrArg (fun zq => (Value.int .i64 zq)) (by first | rfl | simp_all)), (by first | exact tmod_rng (by omega) (by omega) | omega), cu24, E⟩

/-- spec.l1Once -/
theorem c_spec_l1Once {w : World} {b_c : Nat} (_h_c : Cu w b_c) (n : Int) (hn : 0 < n) :
    Ctr Try.prog 157 #[(.pointer (some ⟨b_c, 0, none⟩)), (.int .i64 n)] w (fun v w' => ∃ (xq0 : Bool) , v = .bool xq0 ∧ Cu w' b_c ∧ Ch [b_c] w w') := by
  have _zb_c := _h_c.lt
  have E := Ch.refl [b_c] w
  refine Ctr_of_W (N := 9) (vs0 := [(.pointer (some ⟨b_c, 0, none⟩)), (.int .i64 n)]) Try.func157 rfl rfl rfl ?_
  refine W_seq fun _K_1 _hK_1 => ?_
  refine W_region ?_
  refine WL_step rfl rfl (r_assign rfl) ?_
  refine WL_nil ?_
  refine thn_nrm (_hK_1 _ _ ?_)
  clear _hK_1
  refine W_seq fun _K_2 _hK_2 => ?_
  refine W_region ?_
  refine WL_step rfl rfl (r_move rfl) ?_
  refine WL_step rfl rfl (r_move rfl) ?_
  refine WL_s rfl rfl ?_
  refine Step.call (r_call (xs := [.tmp 5, .tmp 6]) fk76 rfl) (c_spec_l1Below _h_c _ (by omega)) fun _v7 _w_3 _q7 => ?_
  obtain ⟨x7q0, rfl, pt7_0, cu7, _cw_3⟩ := _q7
  have _cw_3z := _cw_3.size
  have E := E.trans _cw_3
  refine WL_step rfl rfl (r_eql rfl rfl) ?_
  refine WL_step rfl rfl (r_assign rfl) ?_
  refine WL_nil ?_
  refine thn_nrm (_hK_2 _ _ ?_)
  clear _hK_2
  refine W_ret ?_
  exact ret_intro [_] ⟨rfl, trivial⟩ ⟨(decide (x7q0 = 0)), (congrArg (fun zq => (Value.bool zq)) (by first | rfl | simp_all)), cu7, E⟩

/-- spec.l1In -/
theorem c_spec_l1In {w : World} (n : Int) (a : Int) (b : Int) :
    Ctr Try.prog 83 #[(.int .i64 n), (.int .i64 a), (.int .i64 b)] w (fun v w' => v = .bool (decide (a ≤ n ∧ n ≤ b)) ∧ Ch [] w w') := by
  have E := Ch.refl [] w
  refine Ctr_of_W (N := 15) (vs0 := [(.int .i64 n), (.int .i64 a), (.int .i64 b)]) Try.func83 rfl rfl rfl ?_
  refine W_seq fun _K_1 _hK_1 => ?_
  refine W_region ?_
  refine WL_step rfl rfl (r_assign rfl) ?_
  refine WL_nil ?_
  refine thn_nrm (_hK_1 _ _ ?_)
  clear _hK_1
  refine W_seq fun _K_2 _hK_2 => ?_
  refine W_region ?_
  refine WL_step rfl rfl (r_move rfl) ?_
  refine WL_step rfl rfl (r_move rfl) ?_
  refine WL_step rfl rfl (r_geq rfl rfl) ?_
  refine WL_step rfl rfl (r_move rfl) ?_
  refine WL_split (d := 10) rfl (fun _h10 => ?_) (fun _h10 => ?_)
  · have _kb_3 := _h10
    have _h10 := bt_d _h10
    refine WL_step rfl rfl (r_move rfl) ?_
    refine WL_step rfl rfl (r_move rfl) ?_
    refine WL_step rfl rfl (r_leq rfl rfl) ?_
    refine WL_step rfl rfl (r_pickT rfl rfl) ?_
    refine WL_step rfl rfl (r_assign rfl) ?_
    refine WL_nil ?_
    refine thn_nrm (_hK_2 _ _ ?_)
    clear _hK_2
    refine W_ret ?_
    exact ret_intro [_] ⟨rfl, trivial⟩ ⟨congrArg Value.bool (by first | rfl | (rw [Bool.eq_iff_iff]; simp <;> omega) | (rw [Bool.eq_iff_iff]; simp_all; done) | simp_all), E⟩
  · have _kb_3 := _h10
    have _h10 := bf_d _h10
    refine WL_skip rfl rfl ?_
    refine WL_skip rfl rfl ?_
    refine WL_skip rfl rfl ?_
    refine WL_step rfl rfl (r_pickF rfl rfl) ?_
    refine WL_step rfl rfl (r_assign rfl) ?_
    refine WL_nil ?_
    refine thn_nrm (_hK_2 _ _ ?_)
    clear _hK_2
    refine W_ret ?_
    exact ret_intro [_] ⟨rfl, trivial⟩ ⟨congrArg Value.bool (by first | rfl | (rw [Bool.eq_iff_iff]; simp <;> omega) | (rw [Bool.eq_iff_iff]; simp_all; done) | simp_all), E⟩

/-- spec.l2Letter -/
theorem c_spec_l2Letter {w : World} (n : Int) :
    Ctr Try.prog 127 #[(.int .i64 n)] w (fun v w' => v = .bool (decide (0 ≤ n ∧ n ≤ 8)) ∧ Ch [] w w') := by
  have E := Ch.refl [] w
  refine Ctr_of_W (N := 5) (vs0 := [(.int .i64 n)]) Try.func127 rfl rfl rfl ?_
  refine W_seq fun _K_1 _hK_1 => ?_
  refine W_region ?_
  refine WL_step rfl rfl (r_assign rfl) ?_
  refine WL_nil ?_
  refine thn_nrm (_hK_1 _ _ ?_)
  clear _hK_1
  refine W_seq fun _K_2 _hK_2 => ?_
  refine W_region ?_
  refine WL_step rfl rfl (r_move rfl) ?_
  refine WL_s rfl rfl ?_
  refine Step.call (r_call (xs := [.tmp 3, .const (Go.Value.int Go.IntKind.i64 0), .const (Go.Value.int Go.IntKind.i64 8)]) fk83 rfl) (c_spec_l1In _ _ _ ) fun _v4 _w_3 _q4 => ?_
  obtain ⟨rfl, _cw_3⟩ := _q4
  have _cw_3z := _cw_3.size
  have E := E.trans _cw_3
  refine WL_step rfl rfl (r_assign rfl) ?_
  refine WL_nil ?_
  refine thn_nrm (_hK_2 _ _ ?_)
  clear _hK_2
  refine W_ret ?_
  exact ret_intro [_] ⟨rfl, trivial⟩ ⟨congrArg Value.bool rfl, E⟩

/-- spec.l8Arity -/
theorem c_spec_l8Arity {w : World} (t : Token) :
    Ctr Try.prog 173 #[(.agg #[(.int .i64 t.kind), (.int .i64 t.letter), (.int .i64 t.low), (.int .i64 t.high)])] w (fun v w' => v = .int .i64 (arT t) ∧ Ch [] w w') := by
  have E := Ch.refl [] w
  refine Ctr_of_W (N := 87) (vs0 := [(.agg #[(.int .i64 t.kind), (.int .i64 t.letter), (.int .i64 t.low), (.int .i64 t.high)])]) Try.func173 rfl rfl rfl ?_
  refine W_seq fun _K_1 _hK_1 => ?_
  refine W_region ?_
  refine WL_s rfl rfl ?_
  refine s_box rfl fun _b1 _w_2 _m1 _cw_2 _e1 => ?_
  have _cw_2z := _cw_2.size
  have E := E.trans _cw_2
  have _z1 := _m1.lt
  replace _m1 : Blk _w_2 _b1 126 [(.int .i64 t.kind), (.int .i64 t.letter), (.int .i64 t.low), (.int .i64 t.high)] := _m1
  refine WL_step rfl rfl (r_assign rfl) ?_
  refine WL_nil ?_
  refine thn_nrm (_hK_1 _ _ ?_)
  clear _hK_1
  refine W_seq fun _K_3 _hK_3 => ?_
  refine W_seq fun _K_4 _hK_4 => ?_
  refine W_region ?_
  refine WL_step rfl rfl (r_fieldAddr fa126_0 rfl) ?_
  refine WL_step rfl rfl (r_loadAt _m1.at_ agg3 rfl rfl) ?_
  refine WL_nil ?_
  refine thn_nrm (_hK_4 _ _ ?_)
  clear _hK_4
  refine W_block ?_
  refine W_seq fun _K_5 _hK_5 => ?_
  refine W_seq fun _K_6 _hK_6 => ?_
  refine W_region ?_
  refine WL_step rfl rfl (r_eql rfl rfl) ?_
  refine WL_step rfl rfl (r_assign rfl) ?_
  refine WL_nil ?_
  refine thn_nrm (_hK_6 _ _ ?_)
  clear _hK_6
  refine W_cond rfl (fun _h5 => ?_) (fun _h5 => ?_)
  · have _kb_7 := _h5
    have _h5 := bt_d _h5
    refine W_skip ?_
    refine thn_nrm (_hK_5 _ _ ?_)
    clear _hK_5
    refine W_condTk rfl _kb_7 ?_
    refine W_seq fun _K_8 _hK_8 => ?_
    refine W_seq fun _K_9 _hK_9 => ?_
    refine W_region ?_
    refine WL_step rfl rfl (r_fieldAddr fa126_1 rfl) ?_
    refine WL_step rfl rfl (r_loadAt _m1.at_ agg3 rfl rfl) ?_
    refine WL_step rfl rfl (r_neq rfl rfl) ?_
    refine WL_step rfl rfl (r_move rfl) ?_
    refine WL_split (d := 11) rfl (fun _h11 => ?_) (fun _h11 => ?_)
    · have _kb_10 := _h11
      have _h11 := bf_d (bt_n _h11)
      refine WL_skip rfl rfl ?_
      refine WL_skip rfl rfl ?_
      refine WL_skip rfl rfl ?_
      refine WL_step rfl rfl (r_pickT rfl rfl) ?_
      refine WL_step rfl rfl (r_move rfl) ?_
      refine WL_skip rfl rfl ?_
      refine WL_skip rfl rfl ?_
      refine WL_skip rfl rfl ?_
      refine WL_step rfl rfl (r_pickT rfl rfl) ?_
      refine WL_nil ?_
      refine thn_nrm (_hK_9 _ _ ?_)
      clear _hK_9
      refine W_condT rfl ?_
      refine W_seq fun _K_11 _hK_11 => ?_
      refine W_region ?_
      refine WL_step rfl rfl (r_assign rfl) ?_
      refine WL_nil ?_
      refine thn_nrm (_hK_11 _ _ ?_)
      clear _hK_11
      refine W_ret (thn_ret (inB_ret (thn_ret ?_)))
      clear _hK_3 _hK_8
      exact ret_intro [_] ⟨rfl, trivial⟩ ⟨congrArg (Value.int .i64) (by unfold arT; repeat (first | rw [if_pos (by omega)] | rw [if_neg (by omega)])), E⟩
    · have _kb_10 := _h11
      have _h11 := bt_d (bf_n _h11)
      refine WL_step rfl rfl (r_fieldAddr fa126_2 rfl) ?_
      refine WL_step rfl rfl (r_loadAt _m1.at_ agg3 rfl rfl) ?_
      refine WL_step rfl rfl (r_neq rfl rfl) ?_
      refine WL_step rfl rfl (r_pickF rfl rfl) ?_
      refine WL_step rfl rfl (r_move rfl) ?_
      refine WL_split (d := 16) rfl (fun _h16 => ?_) (fun _h16 => ?_)
      · have _kb_12 := _h16
        have _h16 := bf_d (bt_n _h16)
        refine WL_skip rfl rfl ?_
        refine WL_skip rfl rfl ?_
        refine WL_skip rfl rfl ?_
        refine WL_step rfl rfl (r_pickT rfl rfl) ?_
        refine WL_nil ?_
        refine thn_nrm (_hK_9 _ _ ?_)
        clear _hK_9
        refine W_condT rfl ?_
        refine W_seq fun _K_13 _hK_13 => ?_
        refine W_region ?_
        refine WL_step rfl rfl (r_assign rfl) ?_
        refine WL_nil ?_
        refine thn_nrm (_hK_13 _ _ ?_)
        clear _hK_13
        refine W_ret (thn_ret (inB_ret (thn_ret ?_)))
        clear _hK_3 _hK_8
        exact ret_intro [_] ⟨rfl, trivial⟩ ⟨congrArg (Value.int .i64) (by unfold arT; repeat (first | rw [if_pos (by omega)] | rw [if_neg (by omega)])), E⟩
      · have _kb_12 := _h16
        have _h16 := bt_d (bf_n _h16)
        refine WL_step rfl rfl (r_fieldAddr fa126_3 rfl) ?_
        refine WL_step rfl rfl (r_loadAt _m1.at_ agg3 rfl rfl) ?_
        refine WL_step rfl rfl (r_neq rfl rfl) ?_
        refine WL_step rfl rfl (r_pickF rfl rfl) ?_
        refine WL_nil ?_
        refine thn_nrm (_hK_9 _ _ ?_)
        clear _hK_9
        refine W_cond rfl (fun _h20 => ?_) (fun _h20 => ?_)
        · have _kb_14 := _h20
          have _h20 := bf_d (bt_n _h20)
          refine W_seq fun _K_15 _hK_15 => ?_
          refine W_region ?_
          refine WL_step rfl rfl (r_assign rfl) ?_
          refine WL_nil ?_
          refine thn_nrm (_hK_15 _ _ ?_)
          clear _hK_15
          refine W_ret (thn_ret (inB_ret (thn_ret ?_)))
          clear _hK_3 _hK_8
          exact ret_intro [_] ⟨rfl, trivial⟩ ⟨congrArg (Value.int .i64) (by unfold arT; repeat (first | rw [if_pos (by omega)] | rw [if_neg (by omega)])), E⟩
        · have _kb_14 := _h20
          have _h20 := bt_d (bf_n _h20)
          refine W_skip ?_
          refine thn_nrm (_hK_8 _ _ ?_)
          clear _hK_8
          refine W_seq fun _K_16 _hK_16 => ?_
          refine W_region ?_
          refine WL_step rfl rfl (r_assign rfl) ?_
          refine WL_nil ?_
          refine thn_nrm (_hK_16 _ _ ?_)
          clear _hK_16
          refine W_ret (inB_ret (thn_ret ?_))
          clear _hK_3
          exact ret_intro [_] ⟨rfl, trivial⟩ ⟨congrArg (Value.int .i64) (by unfold arT; repeat (first | rw [if_pos (by omega)] | rw [if_neg (by omega)])), E⟩
  · have _kb_7 := _h5
    have _h5 := bf_d _h5
    refine W_region ?_
    refine WL_step rfl rfl (r_eql rfl rfl) ?_
    refine WL_step rfl rfl (r_assign rfl) ?_
    refine WL_nil ?_
    refine thn_nrm (_hK_5 _ _ ?_)
    clear _hK_5
    refine W_cond rfl (fun _h5 => ?_) (fun _h5 => ?_)
    · have _kb_17 := _h5
      have _h5 := bt_d _h5
      refine W_seq fun _K_18 _hK_18 => ?_
      refine W_seq fun _K_19 _hK_19 => ?_
      refine W_region ?_
      refine WL_step rfl rfl (r_fieldAddr fa126_1 rfl) ?_
      refine WL_step rfl rfl (r_loadAt _m1.at_ agg3 rfl rfl) ?_
      refine WL_step rfl rfl (r_neq rfl rfl) ?_
      refine WL_step rfl rfl (r_move rfl) ?_
      refine WL_split (d := 11) rfl (fun _h11 => ?_) (fun _h11 => ?_)
      · have _kb_20 := _h11
        have _h11 := bf_d (bt_n _h11)
        refine WL_skip rfl rfl ?_
        refine WL_skip rfl rfl ?_
        refine WL_skip rfl rfl ?_
        refine WL_step rfl rfl (r_pickT rfl rfl) ?_
        refine WL_step rfl rfl (r_move rfl) ?_
        refine WL_skip rfl rfl ?_
        refine WL_skip rfl rfl ?_
        refine WL_skip rfl rfl ?_
        refine WL_step rfl rfl (r_pickT rfl rfl) ?_
        refine WL_nil ?_
        refine thn_nrm (_hK_19 _ _ ?_)
        clear _hK_19
        refine W_condT rfl ?_
        refine W_seq fun _K_21 _hK_21 => ?_
        refine W_region ?_
        refine WL_step rfl rfl (r_assign rfl) ?_
        refine WL_nil ?_
        refine thn_nrm (_hK_21 _ _ ?_)
        clear _hK_21
        refine W_ret (thn_ret (inB_ret (thn_ret ?_)))
        clear _hK_3 _hK_18
        exact ret_intro [_] ⟨rfl, trivial⟩ ⟨congrArg (Value.int .i64) (by unfold arT; repeat (first | rw [if_pos (by omega)] | rw [if_neg (by omega)])), E⟩
      · have _kb_20 := _h11
        have _h11 := bt_d (bf_n _h11)
        refine WL_step rfl rfl (r_fieldAddr fa126_2 rfl) ?_
        refine WL_step rfl rfl (r_loadAt _m1.at_ agg3 rfl rfl) ?_
        refine WL_step rfl rfl (r_neq rfl rfl) ?_
        refine WL_step rfl rfl (r_pickF rfl rfl) ?_
        refine WL_step rfl rfl (r_move rfl) ?_
        refine WL_split (d := 16) rfl (fun _h16 => ?_) (fun _h16 => ?_)
        · have _kb_22 := _h16
          have _h16 := bf_d (bt_n _h16)
          refine WL_skip rfl rfl ?_
          refine WL_skip rfl rfl ?_
          refine WL_skip rfl rfl ?_
          refine WL_step rfl rfl (r_pickT rfl rfl) ?_
          refine WL_nil ?_
          refine thn_nrm (_hK_19 _ _ ?_)
          clear _hK_19
          refine W_condT rfl ?_
          refine W_seq fun _K_23 _hK_23 => ?_
          refine W_region ?_
          refine WL_step rfl rfl (r_assign rfl) ?_
          refine WL_nil ?_
          refine thn_nrm (_hK_23 _ _ ?_)
          clear _hK_23
          refine W_ret (thn_ret (inB_ret (thn_ret ?_)))
          clear _hK_3 _hK_18
          exact ret_intro [_] ⟨rfl, trivial⟩ ⟨congrArg (Value.int .i64) (by unfold arT; repeat (first | rw [if_pos (by omega)] | rw [if_neg (by omega)])), E⟩
        · have _kb_22 := _h16
          have _h16 := bt_d (bf_n _h16)
          refine WL_step rfl rfl (r_fieldAddr fa126_3 rfl) ?_
          refine WL_step rfl rfl (r_loadAt _m1.at_ agg3 rfl rfl) ?_
          refine WL_step rfl rfl (r_neq rfl rfl) ?_
          refine WL_step rfl rfl (r_pickF rfl rfl) ?_
          refine WL_nil ?_
          refine thn_nrm (_hK_19 _ _ ?_)
          clear _hK_19
          refine W_cond rfl (fun _h20 => ?_) (fun _h20 => ?_)
          · have _kb_24 := _h20
            have _h20 := bf_d (bt_n _h20)
            refine W_seq fun _K_25 _hK_25 => ?_
            refine W_region ?_
            refine WL_step rfl rfl (r_assign rfl) ?_
            refine WL_nil ?_
            refine thn_nrm (_hK_25 _ _ ?_)
            clear _hK_25
            refine W_ret (thn_ret (inB_ret (thn_ret ?_)))
            clear _hK_3 _hK_18
            exact ret_intro [_] ⟨rfl, trivial⟩ ⟨congrArg (Value.int .i64) (by unfold arT; repeat (first | rw [if_pos (by omega)] | rw [if_neg (by omega)])), E⟩
          · have _kb_24 := _h20
            have _h20 := bt_d (bf_n _h20)
            refine W_skip ?_
            refine thn_nrm (_hK_18 _ _ ?_)
            clear _hK_18
            refine W_seq fun _K_26 _hK_26 => ?_
            refine W_region ?_
            refine WL_step rfl rfl (r_assign rfl) ?_
            refine WL_nil ?_
            refine thn_nrm (_hK_26 _ _ ?_)
            clear _hK_26
            refine W_ret (inB_ret (thn_ret ?_))
            clear _hK_3
            exact ret_intro [_] ⟨rfl, trivial⟩ ⟨congrArg (Value.int .i64) (by unfold arT; repeat (first | rw [if_pos (by omega)] | rw [if_neg (by omega)])), E⟩
    · have _kb_17 := _h5
      have _h5 := bf_d _h5
      refine W_seq fun _K_27 _hK_27 => ?_
      refine W_region ?_
      refine WL_step rfl rfl (r_eql rfl rfl) ?_
      refine WL_step rfl rfl (r_assign rfl) ?_
      refine WL_nil ?_
      refine thn_nrm (_hK_27 _ _ ?_)
      clear _hK_27
      refine W_cond rfl (fun _h21 => ?_) (fun _h21 => ?_)
      · have _kb_28 := _h21
        have _h21 := bt_d _h21
        refine W_seq fun _K_29 _hK_29 => ?_
        refine W_seq fun _K_30 _hK_30 => ?_
        refine W_region ?_
        refine WL_step rfl rfl (r_fieldAddr fa126_1 rfl) ?_
        refine WL_step rfl rfl (r_loadAt _m1.at_ agg3 rfl rfl) ?_
        refine WL_s rfl rfl ?_
        refine Step.call (r_call (xs := [.tmp 24]) fk127 rfl) (c_spec_l2Letter _ ) fun _v25 _w_31 _q25 => ?_
        obtain ⟨rfl, _cw_31⟩ := _q25
        have _cw_31z := _cw_31.size
        have E := E.trans _cw_31
        refine WL_step rfl rfl (r_not rfl) ?_
        refine WL_step rfl rfl (r_move rfl) ?_
        refine WL_split (d := 27) rfl (fun _h27 => ?_) (fun _h27 => ?_)
        · have _kb_32 := _h27
          have _h27 := bf_d (bt_n _h27)
          refine WL_skip rfl rfl ?_
          refine WL_skip rfl rfl ?_
          refine WL_skip rfl rfl ?_
          refine WL_step rfl rfl (r_pickT rfl rfl) ?_
          refine WL_step rfl rfl (r_move rfl) ?_
          refine WL_skip rfl rfl ?_
          refine WL_skip rfl rfl ?_
          refine WL_skip rfl rfl ?_
          refine WL_step rfl rfl (r_pickT rfl rfl) ?_
          refine WL_nil ?_
          refine thn_nrm (_hK_30 _ _ ?_)
          clear _hK_30
          refine W_condT rfl ?_
          refine W_seq fun _K_33 _hK_33 => ?_
          refine W_region ?_
          refine WL_step rfl rfl (r_assign rfl) ?_
          refine WL_nil ?_
          refine thn_nrm (_hK_33 _ _ ?_)
          clear _hK_33
          refine W_ret (thn_ret (inB_ret (thn_ret ?_)))
          clear _hK_3 _hK_29
          exact ret_intro [_] ⟨rfl, trivial⟩ ⟨congrArg (Value.int .i64) (by unfold arT; repeat (first | rw [if_pos (by omega)] | rw [if_neg (by omega)])), E⟩
        · have _kb_32 := _h27
          have _h27 := bt_d (bf_n _h27)
          refine WL_step rfl rfl (r_fieldAddr fa126_2 rfl) ?_
          have _f_34 := (_m1.ch0 _cw_31)
          refine WL_step rfl rfl (r_loadAt _f_34.at_ agg3 rfl rfl) ?_
          refine WL_step rfl rfl (r_neq rfl rfl) ?_
          refine WL_step rfl rfl (r_pickF rfl rfl) ?_
          refine WL_step rfl rfl (r_move rfl) ?_
          refine WL_split (d := 32) rfl (fun _h32 => ?_) (fun _h32 => ?_)
          · have _kb_35 := _h32
            have _h32 := bf_d (bt_n _h32)
            refine WL_skip rfl rfl ?_
            refine WL_skip rfl rfl ?_
            refine WL_skip rfl rfl ?_
            refine WL_step rfl rfl (r_pickT rfl rfl) ?_
            refine WL_nil ?_
            refine thn_nrm (_hK_30 _ _ ?_)
            clear _hK_30
            refine W_condT rfl ?_
            refine W_seq fun _K_36 _hK_36 => ?_
            refine W_region ?_
            refine WL_step rfl rfl (r_assign rfl) ?_
            refine WL_nil ?_
            refine thn_nrm (_hK_36 _ _ ?_)
            clear _hK_36
            refine W_ret (thn_ret (inB_ret (thn_ret ?_)))
            clear _hK_3 _hK_29
            exact ret_intro [_] ⟨rfl, trivial⟩ ⟨congrArg (Value.int .i64) (by unfold arT; repeat (first | rw [if_pos (by omega)] | rw [if_neg (by omega)])), E⟩
          · have _kb_35 := _h32
            have _h32 := bt_d (bf_n _h32)
            refine WL_step rfl rfl (r_fieldAddr fa126_3 rfl) ?_
            refine WL_step rfl rfl (r_loadAt _f_34.at_ agg3 rfl rfl) ?_
            refine WL_step rfl rfl (r_neq rfl rfl) ?_
            refine WL_step rfl rfl (r_pickF rfl rfl) ?_
            refine WL_nil ?_
            refine thn_nrm (_hK_30 _ _ ?_)
            clear _hK_30
            refine W_cond rfl (fun _h36 => ?_) (fun _h36 => ?_)
            · have _kb_37 := _h36
              have _h36 := bf_d (bt_n _h36)
              refine W_seq fun _K_38 _hK_38 => ?_
              refine W_region ?_
              refine WL_step rfl rfl (r_assign rfl) ?_
              refine WL_nil ?_
              refine thn_nrm (_hK_38 _ _ ?_)
              clear _hK_38
              refine W_ret (thn_ret (inB_ret (thn_ret ?_)))
              clear _hK_3 _hK_29
              exact ret_intro [_] ⟨rfl, trivial⟩ ⟨congrArg (Value.int .i64) (by unfold arT; repeat (first | rw [if_pos (by omega)] | rw [if_neg (by omega)])), E⟩
            · have _kb_37 := _h36
              have _h36 := bt_d (bf_n _h36)
              refine W_skip ?_
              refine thn_nrm (_hK_29 _ _ ?_)
              clear _hK_29
              refine W_seq fun _K_39 _hK_39 => ?_
              refine W_region ?_
              refine WL_step rfl rfl (r_assign rfl) ?_
              refine WL_nil ?_
              refine thn_nrm (_hK_39 _ _ ?_)
              clear _hK_39
              refine W_ret (inB_ret (thn_ret ?_))
              clear _hK_3
              exact ret_intro [_] ⟨rfl, trivial⟩ ⟨congrArg (Value.int .i64) (by unfold arT; repeat (first | rw [if_pos (by omega)] | rw [if_neg (by omega)])), E⟩
      · have _kb_28 := _h21
        have _h21 := bf_d _h21
        refine W_seq fun _K_40 _hK_40 => ?_
        refine W_seq fun _K_41 _hK_41 => ?_
        refine W_region ?_
        refine WL_step rfl rfl (r_eql rfl rfl) ?_
        refine WL_step rfl rfl (r_assign rfl) ?_
        refine WL_nil ?_
        refine thn_nrm (_hK_41 _ _ ?_)
        clear _hK_41
        refine W_cond rfl (fun _h37 => ?_) (fun _h37 => ?_)
        · have _kb_42 := _h37
          have _h37 := bt_d _h37
          refine W_skip ?_
          refine thn_nrm (_hK_40 _ _ ?_)
          clear _hK_40
          refine W_condTk rfl _kb_42 ?_
          refine W_seq fun _K_43 _hK_43 => ?_
          refine W_seq fun _K_44 _hK_44 => ?_
          refine W_region ?_
          refine WL_step rfl rfl (r_fieldAddr fa126_1 rfl) ?_
          refine WL_step rfl rfl (r_loadAt _m1.at_ agg3 rfl rfl) ?_
          refine WL_step rfl rfl (r_neq rfl rfl) ?_
          refine WL_step rfl rfl (r_move rfl) ?_
          refine WL_split (d := 43) rfl (fun _h43 => ?_) (fun _h43 => ?_)
          · have _kb_45 := _h43
            have _h43 := bf_d (bt_n _h43)
            refine WL_skip rfl rfl ?_
            refine WL_skip rfl rfl ?_
            refine WL_skip rfl rfl ?_
            refine WL_step rfl rfl (r_pickT rfl rfl) ?_
            refine WL_step rfl rfl (r_move rfl) ?_
            refine WL_skip rfl rfl ?_
            refine WL_skip rfl rfl ?_
            refine WL_skip rfl rfl ?_
            refine WL_step rfl rfl (r_pickT rfl rfl) ?_
            refine WL_nil ?_
            refine thn_nrm (_hK_44 _ _ ?_)
            clear _hK_44
            refine W_condT rfl ?_
            refine W_seq fun _K_46 _hK_46 => ?_
            refine W_region ?_
            refine WL_step rfl rfl (r_assign rfl) ?_
            refine WL_nil ?_
            refine thn_nrm (_hK_46 _ _ ?_)
            clear _hK_46
            refine W_ret (thn_ret (inB_ret (thn_ret ?_)))
            clear _hK_3 _hK_43
            exact ret_intro [_] ⟨rfl, trivial⟩ ⟨congrArg (Value.int .i64) (by unfold arT; repeat (first | rw [if_pos (by omega)] | rw [if_neg (by omega)])), E⟩
          · have _kb_45 := _h43
            have _h43 := bt_d (bf_n _h43)
            refine WL_step rfl rfl (r_fieldAddr fa126_2 rfl) ?_
            refine WL_step rfl rfl (r_loadAt _m1.at_ agg3 rfl rfl) ?_
            refine WL_step rfl rfl (r_neq rfl rfl) ?_
            refine WL_step rfl rfl (r_pickF rfl rfl) ?_
            refine WL_step rfl rfl (r_move rfl) ?_
            refine WL_split (d := 48) rfl (fun _h48 => ?_) (fun _h48 => ?_)
            · have _kb_47 := _h48
              have _h48 := bf_d (bt_n _h48)
              refine WL_skip rfl rfl ?_
              refine WL_skip rfl rfl ?_
              refine WL_skip rfl rfl ?_
              refine WL_step rfl rfl (r_pickT rfl rfl) ?_
              refine WL_nil ?_
              refine thn_nrm (_hK_44 _ _ ?_)
              clear _hK_44
              refine W_condT rfl ?_
              refine W_seq fun _K_48 _hK_48 => ?_
              refine W_region ?_
              refine WL_step rfl rfl (r_assign rfl) ?_
              refine WL_nil ?_
              refine thn_nrm (_hK_48 _ _ ?_)
              clear _hK_48
              refine W_ret (thn_ret (inB_ret (thn_ret ?_)))
              clear _hK_3 _hK_43
              exact ret_intro [_] ⟨rfl, trivial⟩ ⟨congrArg (Value.int .i64) (by unfold arT; repeat (first | rw [if_pos (by omega)] | rw [if_neg (by omega)])), E⟩
            · have _kb_47 := _h48
              have _h48 := bt_d (bf_n _h48)
              refine WL_step rfl rfl (r_fieldAddr fa126_3 rfl) ?_
              refine WL_step rfl rfl (r_loadAt _m1.at_ agg3 rfl rfl) ?_
              refine WL_step rfl rfl (r_neq rfl rfl) ?_
              refine WL_step rfl rfl (r_pickF rfl rfl) ?_
              refine WL_nil ?_
              refine thn_nrm (_hK_44 _ _ ?_)
              clear _hK_44
              refine W_cond rfl (fun _h52 => ?_) (fun _h52 => ?_)
              · have _kb_49 := _h52
                have _h52 := bf_d (bt_n _h52)
                refine W_seq fun _K_50 _hK_50 => ?_
                refine W_region ?_
                refine WL_step rfl rfl (r_assign rfl) ?_
                refine WL_nil ?_
                refine thn_nrm (_hK_50 _ _ ?_)
                clear _hK_50
                refine W_ret (thn_ret (inB_ret (thn_ret ?_)))
                clear _hK_3 _hK_43
                exact ret_intro [_] ⟨rfl, trivial⟩ ⟨congrArg (Value.int .i64) (by unfold arT; repeat (first | rw [if_pos (by omega)] | rw [if_neg (by omega)])), E⟩
              · have _kb_49 := _h52
                have _h52 := bt_d (bf_n _h52)
                refine W_skip ?_
                refine thn_nrm (_hK_43 _ _ ?_)
                clear _hK_43
                refine W_seq fun _K_51 _hK_51 => ?_
                refine W_region ?_
                refine WL_step rfl rfl (r_assign rfl) ?_
                refine WL_nil ?_
                refine thn_nrm (_hK_51 _ _ ?_)
                clear _hK_51
                refine W_ret (inB_ret (thn_ret ?_))
                clear _hK_3
                exact ret_intro [_] ⟨rfl, trivial⟩ ⟨congrArg (Value.int .i64) (by unfold arT; repeat (first | rw [if_pos (by omega)] | rw [if_neg (by omega)])), E⟩
        · have _kb_42 := _h37
          have _h37 := bf_d _h37
          refine W_region ?_
          refine WL_step rfl rfl (r_eql rfl rfl) ?_
          refine WL_step rfl rfl (r_assign rfl) ?_
          refine WL_nil ?_
          refine thn_nrm (_hK_40 _ _ ?_)
          clear _hK_40
          refine W_cond rfl (fun _h37 => ?_) (fun _h37 => ?_)
          · have _kb_52 := _h37
            have _h37 := bt_d _h37
            refine W_seq fun _K_53 _hK_53 => ?_
            refine W_seq fun _K_54 _hK_54 => ?_
            refine W_region ?_
            refine WL_step rfl rfl (r_fieldAddr fa126_1 rfl) ?_
            refine WL_step rfl rfl (r_loadAt _m1.at_ agg3 rfl rfl) ?_
            refine WL_step rfl rfl (r_neq rfl rfl) ?_
            refine WL_step rfl rfl (r_move rfl) ?_
            refine WL_split (d := 43) rfl (fun _h43 => ?_) (fun _h43 => ?_)
            · have _kb_55 := _h43
              have _h43 := bf_d (bt_n _h43)
              refine WL_skip rfl rfl ?_
              refine WL_skip rfl rfl ?_
              refine WL_skip rfl rfl ?_
              refine WL_step rfl rfl (r_pickT rfl rfl) ?_
              refine WL_step rfl rfl (r_move rfl) ?_
              refine WL_skip rfl rfl ?_
              refine WL_skip rfl rfl ?_
              refine WL_skip rfl rfl ?_
              refine WL_step rfl rfl (r_pickT rfl rfl) ?_
              refine WL_nil ?_
              refine thn_nrm (_hK_54 _ _ ?_)
              clear _hK_54
              refine W_condT rfl ?_
              refine W_seq fun _K_56 _hK_56 => ?_
              refine W_region ?_
              refine WL_step rfl rfl (r_assign rfl) ?_
              refine WL_nil ?_
              refine thn_nrm (_hK_56 _ _ ?_)
              clear _hK_56
              refine W_ret (thn_ret (inB_ret (thn_ret ?_)))
              clear _hK_3 _hK_53
              exact ret_intro [_] ⟨rfl, trivial⟩ ⟨congrArg (Value.int .i64) (by unfold arT; repeat (first | rw [if_pos (by omega)] | rw [if_neg (by omega)])), E⟩
            · have _kb_55 := _h43
              have _h43 := bt_d (bf_n _h43)
              refine WL_step rfl rfl (r_fieldAddr fa126_2 rfl) ?_
              refine WL_step rfl rfl (r_loadAt _m1.at_ agg3 rfl rfl) ?_
              refine WL_step rfl rfl (r_neq rfl rfl) ?_
              refine WL_step rfl rfl (r_pickF rfl rfl) ?_
              refine WL_step rfl rfl (r_move rfl) ?_
              refine WL_split (d := 48) rfl (fun _h48 => ?_) (fun _h48 => ?_)
              · have _kb_57 := _h48
                have _h48 := bf_d (bt_n _h48)
                refine WL_skip rfl rfl ?_
                refine WL_skip rfl rfl ?_
                refine WL_skip rfl rfl ?_
                refine WL_step rfl rfl (r_pickT rfl rfl) ?_
                refine WL_nil ?_
                refine thn_nrm (_hK_54 _ _ ?_)
                clear _hK_54
                refine W_condT rfl ?_
                refine W_seq fun _K_58 _hK_58 => ?_
                refine W_region ?_
                refine WL_step rfl rfl (r_assign rfl) ?_
                refine WL_nil ?_
                refine thn_nrm (_hK_58 _ _ ?_)
                clear _hK_58
                refine W_ret (thn_ret (inB_ret (thn_ret ?_)))
                clear _hK_3 _hK_53
                exact ret_intro [_] ⟨rfl, trivial⟩ ⟨congrArg (Value.int .i64) (by unfold arT; repeat (first | rw [if_pos (by omega)] | rw [if_neg (by omega)])), E⟩
              · have _kb_57 := _h48
                have _h48 := bt_d (bf_n _h48)
                refine WL_step rfl rfl (r_fieldAddr fa126_3 rfl) ?_
                refine WL_step rfl rfl (r_loadAt _m1.at_ agg3 rfl rfl) ?_
                refine WL_step rfl rfl (r_neq rfl rfl) ?_
                refine WL_step rfl rfl (r_pickF rfl rfl) ?_
                refine WL_nil ?_
                refine thn_nrm (_hK_54 _ _ ?_)
                clear _hK_54
                refine W_cond rfl (fun _h52 => ?_) (fun _h52 => ?_)
                · have _kb_59 := _h52
                  have _h52 := bf_d (bt_n _h52)
                  refine W_seq fun _K_60 _hK_60 => ?_
                  refine W_region ?_
                  refine WL_step rfl rfl (r_assign rfl) ?_
                  refine WL_nil ?_
                  refine thn_nrm (_hK_60 _ _ ?_)
                  clear _hK_60
                  refine W_ret (thn_ret (inB_ret (thn_ret ?_)))
                  clear _hK_3 _hK_53
                  exact ret_intro [_] ⟨rfl, trivial⟩ ⟨congrArg (Value.int .i64) (by unfold arT; repeat (first | rw [if_pos (by omega)] | rw [if_neg (by omega)])), E⟩
                · have _kb_59 := _h52
                  have _h52 := bt_d (bf_n _h52)
                  refine W_skip ?_
                  refine thn_nrm (_hK_53 _ _ ?_)
                  clear _hK_53
                  refine W_seq fun _K_61 _hK_61 => ?_
                  refine W_region ?_
                  refine WL_step rfl rfl (r_assign rfl) ?_
                  refine WL_nil ?_
                  refine thn_nrm (_hK_61 _ _ ?_)
                  clear _hK_61
                  refine W_ret (inB_ret (thn_ret ?_))
                  clear _hK_3
                  exact ret_intro [_] ⟨rfl, trivial⟩ ⟨congrArg (Value.int .i64) (by unfold arT; repeat (first | rw [if_pos (by omega)] | rw [if_neg (by omega)])), E⟩
          · have _kb_52 := _h37
            have _h37 := bf_d _h37
            refine W_seq fun _K_62 _hK_62 => ?_
            refine W_region ?_
            refine WL_step rfl rfl (r_eql rfl rfl) ?_
            refine WL_step rfl rfl (r_assign rfl) ?_
            refine WL_nil ?_
            refine thn_nrm (_hK_62 _ _ ?_)
            clear _hK_62
            refine W_cond rfl (fun _h53 => ?_) (fun _h53 => ?_)
            · have _kb_63 := _h53
              have _h53 := bt_d _h53
              refine W_seq fun _K_64 _hK_64 => ?_
              refine W_seq fun _K_65 _hK_65 => ?_
              refine W_region ?_
              refine WL_step rfl rfl (r_fieldAddr fa126_1 rfl) ?_
              refine WL_step rfl rfl (r_loadAt _m1.at_ agg3 rfl rfl) ?_
              refine WL_step rfl rfl (r_neq rfl rfl) ?_
              refine WL_step rfl rfl (r_move rfl) ?_
              refine WL_split (d := 58) rfl (fun _h58 => ?_) (fun _h58 => ?_)
              · have _kb_66 := _h58
                have _h58 := bf_d (bt_n _h58)
                refine WL_skip rfl rfl ?_
                refine WL_skip rfl rfl ?_
                refine WL_skip rfl rfl ?_
                refine WL_step rfl rfl (r_pickT rfl rfl) ?_
                refine WL_step rfl rfl (r_move rfl) ?_
                refine WL_skip rfl rfl ?_
                refine WL_skip rfl rfl ?_
                refine WL_skip rfl rfl ?_
                refine WL_step rfl rfl (r_pickT rfl rfl) ?_
                refine WL_nil ?_
                refine thn_nrm (_hK_65 _ _ ?_)
                clear _hK_65
                refine W_condT rfl ?_
                refine W_seq fun _K_67 _hK_67 => ?_
                refine W_region ?_
                refine WL_step rfl rfl (r_assign rfl) ?_
                refine WL_nil ?_
                refine thn_nrm (_hK_67 _ _ ?_)
                clear _hK_67
                refine W_ret (thn_ret (inB_ret (thn_ret ?_)))
                clear _hK_3 _hK_64
                exact ret_intro [_] ⟨rfl, trivial⟩ ⟨congrArg (Value.int .i64) (by unfold arT; repeat (first | rw [if_pos (by omega)] | rw [if_neg (by omega)])), E⟩
              · have _kb_66 := _h58
                have _h58 := bt_d (bf_n _h58)
                refine WL_step rfl rfl (r_fieldAddr fa126_2 rfl) ?_
                refine WL_step rfl rfl (r_loadAt _m1.at_ agg3 rfl rfl) ?_
                refine WL_step rfl rfl (r_neq rfl rfl) ?_
                refine WL_step rfl rfl (r_pickF rfl rfl) ?_
                refine WL_step rfl rfl (r_move rfl) ?_
                refine WL_split (d := 63) rfl (fun _h63 => ?_) (fun _h63 => ?_)
                · have _kb_68 := _h63
                  have _h63 := bf_d (bt_n _h63)
                  refine WL_skip rfl rfl ?_
                  refine WL_skip rfl rfl ?_
                  refine WL_skip rfl rfl ?_
                  refine WL_step rfl rfl (r_pickT rfl rfl) ?_
                  refine WL_nil ?_
                  refine thn_nrm (_hK_65 _ _ ?_)
                  clear _hK_65
                  refine W_condT rfl ?_
                  refine W_seq fun _K_69 _hK_69 => ?_
                  refine W_region ?_
                  refine WL_step rfl rfl (r_assign rfl) ?_
                  refine WL_nil ?_
                  refine thn_nrm (_hK_69 _ _ ?_)
                  clear _hK_69
                  refine W_ret (thn_ret (inB_ret (thn_ret ?_)))
                  clear _hK_3 _hK_64
                  exact ret_intro [_] ⟨rfl, trivial⟩ ⟨congrArg (Value.int .i64) (by unfold arT; repeat (first | rw [if_pos (by omega)] | rw [if_neg (by omega)])), E⟩
                · have _kb_68 := _h63
                  have _h63 := bt_d (bf_n _h63)
                  refine WL_step rfl rfl (r_fieldAddr fa126_3 rfl) ?_
                  refine WL_step rfl rfl (r_loadAt _m1.at_ agg3 rfl rfl) ?_
                  refine WL_step rfl rfl (r_neq rfl rfl) ?_
                  refine WL_step rfl rfl (r_pickF rfl rfl) ?_
                  refine WL_nil ?_
                  refine thn_nrm (_hK_65 _ _ ?_)
                  clear _hK_65
                  refine W_cond rfl (fun _h67 => ?_) (fun _h67 => ?_)
                  · have _kb_70 := _h67
                    have _h67 := bf_d (bt_n _h67)
                    refine W_seq fun _K_71 _hK_71 => ?_
                    refine W_region ?_
                    refine WL_step rfl rfl (r_assign rfl) ?_
                    refine WL_nil ?_
                    refine thn_nrm (_hK_71 _ _ ?_)
                    clear _hK_71
                    refine W_ret (thn_ret (inB_ret (thn_ret ?_)))
                    clear _hK_3 _hK_64
                    exact ret_intro [_] ⟨rfl, trivial⟩ ⟨congrArg (Value.int .i64) (by unfold arT; repeat (first | rw [if_pos (by omega)] | rw [if_neg (by omega)])), E⟩
                  · have _kb_70 := _h67
                    have _h67 := bt_d (bf_n _h67)
                    refine W_skip ?_
                    refine thn_nrm (_hK_64 _ _ ?_)
                    clear _hK_64
                    refine W_seq fun _K_72 _hK_72 => ?_
                    refine W_region ?_
                    refine WL_step rfl rfl (r_assign rfl) ?_
                    refine WL_nil ?_
                    refine thn_nrm (_hK_72 _ _ ?_)
                    clear _hK_72
                    refine W_ret (inB_ret (thn_ret ?_))
                    clear _hK_3
                    exact ret_intro [_] ⟨rfl, trivial⟩ ⟨congrArg (Value.int .i64) (by unfold arT; repeat (first | rw [if_pos (by omega)] | rw [if_neg (by omega)])), E⟩
            · have _kb_63 := _h53
              have _h53 := bf_d _h53
              refine W_seq fun _K_73 _hK_73 => ?_
              refine W_region ?_
              refine WL_step rfl rfl (r_eql rfl rfl) ?_
              refine WL_step rfl rfl (r_assign rfl) ?_
              refine WL_nil ?_
              refine thn_nrm (_hK_73 _ _ ?_)
              clear _hK_73
              refine W_cond rfl (fun _h68 => ?_) (fun _h68 => ?_)
              · have _kb_74 := _h68
                have _h68 := bt_d _h68
                refine W_seq fun _K_75 _hK_75 => ?_
                refine W_seq fun _K_76 _hK_76 => ?_
                refine W_region ?_
                refine WL_step rfl rfl (r_fieldAddr fa126_1 rfl) ?_
                refine WL_step rfl rfl (r_loadAt _m1.at_ agg3 rfl rfl) ?_
                refine WL_step rfl rfl (r_neq rfl rfl) ?_
                refine WL_step rfl rfl (r_move rfl) ?_
                refine WL_split (d := 73) rfl (fun _h73 => ?_) (fun _h73 => ?_)
                · have _kb_77 := _h73
                  have _h73 := bf_d (bt_n _h73)
                  refine WL_skip rfl rfl ?_
                  refine WL_skip rfl rfl ?_
                  refine WL_skip rfl rfl ?_
                  refine WL_skip rfl rfl ?_
                  refine WL_step rfl rfl (r_pickT rfl rfl) ?_
                  refine WL_step rfl rfl (r_move rfl) ?_
                  refine WL_skip rfl rfl ?_
                  refine WL_skip rfl rfl ?_
                  refine WL_skip rfl rfl ?_
                  refine WL_skip rfl rfl ?_
                  refine WL_skip rfl rfl ?_
                  refine WL_skip rfl rfl ?_
                  refine WL_step rfl rfl (r_pickT rfl rfl) ?_
                  refine WL_nil ?_
                  refine thn_nrm (_hK_76 _ _ ?_)
                  clear _hK_76
                  refine W_condT rfl ?_
                  refine W_seq fun _K_78 _hK_78 => ?_
                  refine W_region ?_
                  refine WL_step rfl rfl (r_assign rfl) ?_
                  refine WL_nil ?_
                  refine thn_nrm (_hK_78 _ _ ?_)
                  clear _hK_78
                  refine W_ret (thn_ret (inB_ret (thn_ret ?_)))
                  clear _hK_3 _hK_75
                  exact ret_intro [_] ⟨rfl, trivial⟩ ⟨congrArg (Value.int .i64) (by unfold arT; repeat (first | rw [if_pos (by omega)] | rw [if_neg (by omega)])), E⟩
                · have _kb_77 := _h73
                  have _h73 := bt_d (bf_n _h73)
                  refine WL_step rfl rfl (r_fieldAddr fa126_3 rfl) ?_
                  refine WL_step rfl rfl (r_loadAt _m1.at_ agg3 rfl rfl) ?_
                  refine WL_s rfl rfl ?_
                  refine Step.call (r_call (xs := [.tmp 75, .const (Go.Value.int Go.IntKind.i64 1), .const (Go.Value.int Go.IntKind.i64 3)]) fk83 rfl) (c_spec_l1In _ _ _ ) fun _v76 _w_79 _q76 => ?_
                  obtain ⟨rfl, _cw_79⟩ := _q76
                  have _cw_79z := _cw_79.size
                  have E := E.trans _cw_79
                  refine WL_step rfl rfl (r_not rfl) ?_
                  refine WL_step rfl rfl (r_pickF rfl rfl) ?_
                  refine WL_step rfl rfl (r_move rfl) ?_
                  refine WL_split (d := 79) rfl (fun _h79 => ?_) (fun _h79 => ?_)
                  · have _kb_80 := _h79
                    have _h79 := bf_d (bt_n _h79)
                    refine WL_skip rfl rfl ?_
                    refine WL_skip rfl rfl ?_
                    refine WL_skip rfl rfl ?_
                    refine WL_skip rfl rfl ?_
                    refine WL_skip rfl rfl ?_
                    refine WL_skip rfl rfl ?_
                    refine WL_step rfl rfl (r_pickT rfl rfl) ?_
                    refine WL_nil ?_
                    refine thn_nrm (_hK_76 _ _ ?_)
                    clear _hK_76
                    refine W_condT rfl ?_
                    refine W_seq fun _K_81 _hK_81 => ?_
                    refine W_region ?_
                    refine WL_step rfl rfl (r_assign rfl) ?_
                    refine WL_nil ?_
                    refine thn_nrm (_hK_81 _ _ ?_)
                    clear _hK_81
                    refine W_ret (thn_ret (inB_ret (thn_ret ?_)))
                    clear _hK_3 _hK_75
                    exact ret_intro [_] ⟨rfl, trivial⟩ ⟨congrArg (Value.int .i64) (by unfold arT; repeat (first | rw [if_pos (by omega)] | rw [if_neg (by omega)])), E⟩
                  · have _kb_80 := _h79
                    have _h79 := bt_d (bf_n _h79)
                    refine WL_step rfl rfl (r_fieldAddr fa126_2 rfl) ?_
                    have _f_82 := (_m1.ch0 _cw_79)
                    refine WL_step rfl rfl (r_loadAt _f_82.at_ agg3 rfl rfl) ?_
                    refine WL_step rfl rfl (r_fieldAddr fa126_3 rfl) ?_
                    refine WL_step rfl rfl (r_loadAt _f_82.at_ agg3 rfl rfl) ?_
                    refine WL_s rfl rfl ?_
                    refine Step.call (r_call (xs := [.tmp 81, .const (Go.Value.int Go.IntKind.i64 0), .tmp 83]) fk83 rfl) (c_spec_l1In _ _ _ ) fun _v84 _w_83 _q84 => ?_
                    obtain ⟨rfl, _cw_83⟩ := _q84
                    have _cw_83z := _cw_83.size
                    have E := E.trans _cw_83
                    refine WL_step rfl rfl (r_not rfl) ?_
                    refine WL_step rfl rfl (r_pickF rfl rfl) ?_
                    refine WL_nil ?_
                    refine thn_nrm (_hK_76 _ _ ?_)
                    clear _hK_76
                    refine W_cond rfl (fun _h86 => ?_) (fun _h86 => ?_)
                    · have _kb_84 := _h86
                      have _h86 := bf_d (bt_n _h86)
                      refine W_seq fun _K_85 _hK_85 => ?_
                      refine W_region ?_
                      refine WL_step rfl rfl (r_assign rfl) ?_
                      refine WL_nil ?_
                      refine thn_nrm (_hK_85 _ _ ?_)
                      clear _hK_85
                      refine W_ret (thn_ret (inB_ret (thn_ret ?_)))
                      clear _hK_3 _hK_75
                      exact ret_intro [_] ⟨rfl, trivial⟩ ⟨congrArg (Value.int .i64) (by unfold arT; repeat (first | rw [if_pos (by omega)] | rw [if_neg (by omega)])), E⟩
                    · have _kb_84 := _h86
                      have _h86 := bt_d (bf_n _h86)
                      refine W_skip ?_
                      refine thn_nrm (_hK_75 _ _ ?_)
                      clear _hK_75
                      refine W_seq fun _K_86 _hK_86 => ?_
                      refine W_region ?_
                      refine WL_step rfl rfl (r_assign rfl) ?_
                      refine WL_nil ?_
                      refine thn_nrm (_hK_86 _ _ ?_)
                      clear _hK_86
                      refine W_ret (inB_ret (thn_ret ?_))
                      clear _hK_3
                      exact ret_intro [_] ⟨rfl, trivial⟩ ⟨congrArg (Value.int .i64) (by unfold arT; repeat (first | rw [if_pos (by omega)] | rw [if_neg (by omega)])), E⟩
              · have _kb_74 := _h68
                have _h68 := bf_d _h68
                refine W_skip ?_
                refine inB_nrm ?_
                refine thn_nrm (_hK_3 _ _ ?_)
                clear _hK_3
                refine W_seq fun _K_87 _hK_87 => ?_
                refine W_region ?_
                refine WL_step rfl rfl (r_assign rfl) ?_
                refine WL_nil ?_
                refine thn_nrm (_hK_87 _ _ ?_)
                clear _hK_87
                refine W_ret ?_
                exact ret_intro [_] ⟨rfl, trivial⟩ ⟨congrArg (Value.int .i64) (by unfold arT; repeat (first | rw [if_pos (by omega)] | rw [if_neg (by omega)])), E⟩

/-- spec.IsExpr -/
theorem c_spec_IsExpr {w : World} {LL_e _B_e : Nat} {_v_e : Value} {e : List Token} (_h_e : Ls Token.cs 4 w LL_e _B_e _v_e e) :
    Ctr Try.prog 121 #[(.agg #[_v_e])] w (fun v w' => v = .bool (isE e) ∧ Ch [] w w') := by
  obtain ⟨_A_e, _C_e, _e1_e⟩ := _h_e.val
  subst _e1_e
  have _l_e := _h_e.len
  have _h_e := _h_e.here (by decide)
  have E := Ch.refl [] w
  refine Ctr_of_W (N := 32) (vs0 := [(.agg #[(.slice _A_e e.length _C_e)])]) Try.func121 rfl rfl rfl ?_
  refine W_seq fun _K_1 _hK_1 => ?_
  refine W_region ?_
  refine WL_s rfl rfl ?_
  refine s_box rfl fun _b1 _w_2 _m1 _cw_2 _e1 => ?_
  have _cw_2z := _cw_2.size
  have E := E.trans _cw_2
  have _z1 := _m1.lt
  replace _m1 : Blk _w_2 _b1 67 [(.slice _A_e e.length _C_e)] := _m1
  refine WL_step rfl rfl (r_assign rfl) ?_
  refine WL_nil ?_
  refine thn_nrm (_hK_1 _ _ ?_)
  clear _hK_1
  refine W_seq fun _K_3 _hK_3 => ?_
  refine W_region ?_
  refine WL_step rfl rfl (r_assign rfl) ?_
  refine WL_nil ?_
  refine thn_nrm (_hK_3 _ _ ?_)
  clear _hK_3
  refine W_seq fun _K_4 _hK_4 => ?_
  refine W_seq fun _K_5 _hK_5 => ?_
  refine W_region ?_
  refine WL_step rfl rfl (r_assign rfl) ?_
  refine WL_nil ?_
  refine thn_nrm (_hK_5 _ _ ?_)
  clear _hK_5
  refine W_block ?_
  refine W_loop (σ := Nat × Int × List Tr) (fun ⟨i, d, st⟩ => [(1, (.pointer (some ⟨_b1, 0, none⟩))), (3, (.int .i64 d)), (4, (.int .i64 ((i : Nat) : Int)))]) (fun ⟨i, d, st⟩ wx => Ch [] w wx ∧ _w_2.heap.size ≤ wx.heap.size ∧ (i ≤ e.length) ∧ (d = st.length) ∧ (st.length ≤ i) ∧ (prs [] (e.take i) = some st) ∧ Blk wx _b1 67 [(.slice _A_e e.length _C_e)]) (fun ⟨i, d, st⟩ => e.length - i) (0, 0, ([] : List Tr)) (Sub.cons rfl (Sub.cons rfl (Sub.cons rfl (Sub.nil _)))) ⟨E, (Nat.le_refl _), (by omega), rfl, (Nat.le_refl _), rfl, _m1⟩ ?_
  rintro ⟨i, d, st⟩ _wr_6 ⟨E, _zz0, hi, hd, hs, hp, _F0_0⟩
  have _E0h := E
  have _E0hz := _E0h.size
  have _F0_0z := _F0_0.lt
  refine W_seq fun _K_7 _hK_7 => ?_
  refine W_seq fun _K_8 _hK_8 => ?_
  refine W_region ?_
  refine WL_step rfl rfl (r_move rfl) ?_
  refine WL_step rfl rfl (r_fieldAddr fa67_0 rfl) ?_
  refine WL_step rfl rfl (r_loadAt _F0_0.at_ agg65 rfl rfl) ?_
  refine WL_step rfl rfl (r_len (by rw [el65]; rfl) rfl) ?_
  refine WL_step rfl rfl (r_lss rfl rfl) ?_
  refine WL_nil ?_
  refine thn_nrm (_hK_8 _ _ ?_)
  clear _hK_8
  refine W_cond rfl (fun _h10 => ?_) (fun _h10 => ?_)
  · have _kb_9 := _h10
    have _h10 := bt_d _h10
    refine W_skip ?_
    refine thn_nrm (_hK_7 _ _ ?_)
    clear _hK_7
    refine W_seq fun _K_10 _hK_10 => ?_
    refine W_block ?_
    refine W_seq fun _K_11 _hK_11 => ?_
    refine W_region ?_
    refine WL_step rfl rfl (r_fieldAddr fa67_0 rfl) ?_
    refine WL_step rfl rfl (r_loadAt _F0_0.at_ agg65 rfl rfl) ?_
    refine WL_step rfl rfl (r_move rfl) ?_
    refine WL_s rfl rfl ?_
    have _f_12 := (_h_e.ch0 _E0h)
    refine (s_index _f_12 Token.len el65 sz126 rfl rfl rfl (by omega) fun _p16 _y16 _hy16 _a16 => ?_)
    refine WL_step rfl rfl (r_loadAtA0 _a16 agg126 sz126 rfl) ?_
    refine WL_s rfl rfl ?_
    refine Step.call (r_call (xs := [.tmp 17]) fk173 rfl) (c_spec_l8Arity _y16 ) fun _v18 _w_13 _q18 => ?_
    obtain ⟨rfl, _cw_13⟩ := _q18
    have _cw_13z := _cw_13.size
    have E := E.trans _cw_13
    have _a18 := arT_cases _y16
    refine WL_step rfl rfl (r_assign rfl) ?_
    refine WL_nil ?_
    refine thn_nrm (_hK_11 _ _ ?_)
    clear _hK_11
    refine W_seq fun _K_14 _hK_14 => ?_
    refine W_seq fun _K_15 _hK_15 => ?_
    refine W_region ?_
    refine WL_step rfl rfl (r_move rfl) ?_
    refine WL_step rfl rfl (r_lss rfl rfl) ?_
    refine WL_step rfl rfl (r_move rfl) ?_
    refine WL_split (d := 21) rfl (fun _h21 => ?_) (fun _h21 => ?_)
    · have _kb_16 := _h21
      have _h21 := bt_d _h21
      refine WL_skip rfl rfl ?_
      refine WL_skip rfl rfl ?_
      refine WL_skip rfl rfl ?_
      refine WL_step rfl rfl (r_pickT rfl rfl) ?_
      refine WL_nil ?_
      refine thn_nrm (_hK_15 _ _ ?_)
      clear _hK_15
      refine W_condT rfl ?_
      refine W_seq fun _K_17 _hK_17 => ?_
      refine W_region ?_
      refine WL_step rfl rfl (r_assign rfl) ?_
      refine WL_nil ?_
      refine thn_nrm (_hK_17 _ _ ?_)
      clear _hK_17
      refine W_ret (thn_ret (inB_ret (thn_ret (thn_ret (inB_ret (thn_ret ?_))))))
      clear _hK_4 _hK_10 _hK_14
      exact ret_intro [_] ⟨rfl, trivial⟩ ⟨congrArg Value.bool (by first | (rw [isE_end hp (by omega), hd]; done) | exact isE_none (isE_no hp _hy16 (push_no (by omega)))), E⟩
    · have _kb_16 := _h21
      have _h21 := bf_d _h21
      refine WL_step rfl rfl (r_move rfl) ?_
      refine WL_step rfl rfl (r_move rfl) ?_
      refine WL_step rfl rfl (r_gtr rfl rfl) ?_
      refine WL_step rfl rfl (r_pickF rfl rfl) ?_
      refine WL_nil ?_
      refine thn_nrm (_hK_15 _ _ ?_)
      clear _hK_15
      refine W_cond rfl (fun _h25 => ?_) (fun _h25 => ?_)
      · have _kb_18 := _h25
        have _h25 := bt_d _h25
        refine W_seq fun _K_19 _hK_19 => ?_
        refine W_region ?_
        refine WL_step rfl rfl (r_assign rfl) ?_
        refine WL_nil ?_
        refine thn_nrm (_hK_19 _ _ ?_)
        clear _hK_19
        refine W_ret (thn_ret (inB_ret (thn_ret (thn_ret (inB_ret (thn_ret ?_))))))
        clear _hK_4 _hK_10 _hK_14
        exact ret_intro [_] ⟨rfl, trivial⟩ ⟨congrArg Value.bool (by first | (rw [isE_end hp (by omega), hd]; done) | exact isE_none (isE_no hp _hy16 (push_no (by omega)))), E⟩
      · have _kb_18 := _h25
        have _h25 := bf_d _h25
        refine W_skip ?_
        refine thn_nrm (_hK_14 _ _ ?_)
        clear _hK_14
        refine W_region ?_
        refine WL_step rfl rfl (r_move rfl) ?_
        refine WL_step rfl rfl (r_move rfl) ?_
        refine WL_step rfl rfl (r_sub (by omega) rfl rfl) ?_
        refine WL_step rfl rfl (r_add (by omega) rfl rfl) ?_
        refine WL_step rfl rfl (r_assign rfl) ?_
        refine WL_nil ?_
        refine inB_nrm ?_
        refine thn_nrm (_hK_10 _ _ ?_)
        clear _hK_10
        refine W_region ?_
        refine WL_step rfl rfl (r_move rfl) ?_
        refine WL_step rfl rfl (r_add (by omega) rfl rfl) ?_
        refine WL_step rfl rfl (r_assign rfl) ?_
        refine WL_nil ?_
        obtain ⟨s2, _p2, _l2⟩ := push_yes (t := _y16) (st := st) (by omega) (by omega)
        have _f_20 := (_F0_0.ch0 _cw_13)
        exact thn_nrm (Exists.intro ((i + 1), ((d - arT _y16) + 1), s2) ⟨⟨E, (by omega), (by omega), (by omega), (by omega), ((prs_snoc hp _hy16).trans _p2), _f_20⟩, Sub.cons rfl (Sub.cons rfl (Sub.cons rfl (Sub.nil _))), (by first | omega | (dsimp only; omega))⟩)
  · have _kb_9 := _h10
    have _h10 := bf_d _h10
    refine W_exit (thn_exit (thn_exit (inB_hit ?_)))
    refine thn_nrm (_hK_4 _ _ ?_)
    clear _hK_4
    refine W_seq fun _K_21 _hK_21 => ?_
    refine W_region ?_
    refine WL_step rfl rfl (r_move rfl) ?_
    refine WL_step rfl rfl (r_eql rfl rfl) ?_
    refine WL_step rfl rfl (r_assign rfl) ?_
    refine WL_nil ?_
    refine thn_nrm (_hK_21 _ _ ?_)
    clear _hK_21
    refine W_ret ?_
    clear _hK_7
    exact ret_intro [_] ⟨rfl, trivial⟩ ⟨congrArg Value.bool (by first | (rw [isE_end hp (by omega), hd]; done) | exact isE_none (isE_no hp _hy16 (push_no (by omega)))), E⟩

/-- spec.IsValidExpr -/
theorem c_spec_IsValidExpr {w : World} {LL_e _B_e : Nat} {_v_e : Value} {e : List Token} (_h_e : Ls Token.cs 4 w LL_e _B_e _v_e e) :
    Ctr Try.prog 52 #[(.agg #[_v_e])] w (fun v w' => v = .bool (ivE e) ∧ Ch [] w w') := by
  obtain ⟨_A_e, _C_e, _e1_e⟩ := _h_e.val
  subst _e1_e
  have _l_e := _h_e.len
  have _h_e := _h_e.here (by decide)
  have E := Ch.refl [] w
  refine Ctr_of_W (N := 11) (vs0 := [(.agg #[(.slice _A_e e.length _C_e)])]) Try.func52 rfl rfl rfl ?_
  refine W_seq fun _K_1 _hK_1 => ?_
  refine W_region ?_
  refine WL_s rfl rfl ?_
  refine s_box rfl fun _b1 _w_2 _m1 _cw_2 _e1 => ?_
  have _cw_2z := _cw_2.size
  have E := E.trans _cw_2
  have _z1 := _m1.lt
  replace _m1 : Blk _w_2 _b1 67 [(.slice _A_e e.length _C_e)] := _m1
  refine WL_step rfl rfl (r_assign rfl) ?_
  refine WL_nil ?_
  refine thn_nrm (_hK_1 _ _ ?_)
  clear _hK_1
  refine W_seq fun _K_3 _hK_3 => ?_
  refine W_region ?_
  refine WL_step rfl rfl (r_fieldAddr fa67_0 rfl) ?_
  refine WL_step rfl rfl (r_loadAt _m1.at_ agg65 rfl rfl) ?_
  refine WL_step rfl rfl (r_len (by rw [el65]; rfl) rfl) ?_
  refine WL_step rfl rfl (r_leq rfl rfl) ?_
  refine WL_step rfl rfl (r_move rfl) ?_
  refine WL_split (d := 7) rfl (fun _h7 => ?_) (fun _h7 => ?_)
  · have _kb_4 := _h7
    have _h7 := bt_d _h7
    refine WL_step rfl rfl (r_loadAtA0 _m1.at_ agg67 sz67 rfl) ?_
    refine WL_s rfl rfl ?_
    have _f_5 := (_h_e.ch0 _cw_2)
    refine Step.call (r_call (xs := [.tmp 8]) fk121 rfl) (c_spec_IsExpr _f_5 ) fun _v9 _w_6 _q9 => ?_
    obtain ⟨rfl, _cw_6⟩ := _q9
    have _cw_6z := _cw_6.size
    have E := E.trans _cw_6
    refine WL_step rfl rfl (r_pickT rfl rfl) ?_
    refine WL_step rfl rfl (r_assign rfl) ?_
    refine WL_nil ?_
    refine thn_nrm (_hK_3 _ _ ?_)
    clear _hK_3
    refine W_ret ?_
    exact ret_intro [_] ⟨rfl, trivial⟩ ⟨congrArg Value.bool (by unfold ivE; first | (rw [decide_eq_true (by omega)]; rfl) | (rw [decide_eq_false (by omega)]; rfl)), E⟩
  · have _kb_4 := _h7
    have _h7 := bf_d _h7
    refine WL_skip rfl rfl ?_
    refine WL_skip rfl rfl ?_
    refine WL_step rfl rfl (r_pickF rfl rfl) ?_
    refine WL_step rfl rfl (r_assign rfl) ?_
    refine WL_nil ?_
    refine thn_nrm (_hK_3 _ _ ?_)
    clear _hK_3
    refine W_ret ?_
    exact ret_intro [_] ⟨rfl, trivial⟩ ⟨congrArg Value.bool (by unfold ivE; first | (rw [decide_eq_true (by omega)]; rfl) | (rw [decide_eq_false (by omega)]; rfl)), E⟩

/-- spec.l2Cut -/
theorem c_spec_l2Cut {w : World} (s : List UInt8) (sep : Int) (hb : s.length ≤ 4194304) :
    Ctr Try.prog 220 #[(bst s), (.int .u8 sep)] w (fun v w' => Ol scs 9 1 w' v (cutR s sep []) ∧ Lo w.heap.size v ∧ Ch [] w w') := by
  have E := Ch.refl [] w
  refine Ctr_of_W (N := 35) (vs0 := [(bst s), (.int .u8 sep)]) Try.func220 rfl rfl rfl ?_
  refine W_seq fun _K_1 _hK_1 => ?_
  refine W_region ?_
  refine WL_step rfl rfl (r_assign rfl) ?_
  refine WL_nil ?_
  refine thn_nrm (_hK_1 _ _ ?_)
  clear _hK_1
  refine W_seq fun _K_2 _hK_2 => ?_
  refine W_region ?_
  refine WL_s rfl rfl ?_
  refine s_buildSlice0 (k := 1) scs el224 sz9 fun _v8 _w_3 _q8 _lo8 _cw_3 => ?_
  have _cw_3z := _cw_3.size
  have E := E.trans _cw_3
  obtain ⟨_Av8, _Cv8, _ev8⟩ := _q8.val
  subst _ev8
  have _lv8 := _q8.len
  have _hiv8 := _q8.lt
  refine WL_step rfl rfl (r_assign rfl) ?_
  refine WL_nil ?_
  refine thn_nrm (_hK_2 _ _ ?_)
  clear _hK_2
  refine W_seq fun _K_4 _hK_4 => ?_
  refine W_region ?_
  refine WL_step rfl rfl (r_assign rfl) ?_
  refine WL_nil ?_
  refine thn_nrm (_hK_4 _ _ ?_)
  clear _hK_4
  refine W_seq fun _K_5 _hK_5 => ?_
  refine W_seq fun _K_6 _hK_6 => ?_
  refine W_region ?_
  refine WL_step rfl rfl (r_assign rfl) ?_
  refine WL_nil ?_
  refine thn_nrm (_hK_6 _ _ ?_)
  clear _hK_6
  refine W_block ?_
  have _oi_7 : Ol scs 9 1 _w_3 (.slice _Av8 (([] : List (List UInt8))).length _Cv8) (([] : List (List UInt8))) := by
    have hx := _q8
    exact hx
  refine W_loop (σ := Nat × Nat × List (List UInt8) × Value) (fun ⟨i, f, out, ov⟩ => [(0, (bst s)), (1, (.int .u8 sep)), (4, (.slice none 0 0)), (5, ov), (6, (.int .i64 ((f : Nat) : Int))), (7, (.int .i64 ((i : Nat) : Int)))]) (fun ⟨i, f, out, ov⟩ wx => Ch [] w wx ∧ _w_3.heap.size ≤ wx.heap.size ∧ (f ≤ i ∧ i ≤ s.length) ∧ (out ++ cutR (s.drop i) sep ((s.drop f).take (i - f)) = cutR s sep []) ∧ Ol scs 9 1 wx ov out ∧ Lo w.heap.size ov) (fun ⟨i, f, out, ov⟩ => s.length - i) (0, 0, ([] : List (List UInt8)), (.slice _Av8 (([] : List (List UInt8))).length _Cv8)) (Sub.cons rfl (Sub.cons rfl (Sub.cons rfl (Sub.cons rfl (Sub.cons rfl (Sub.cons rfl (Sub.nil _))))))) ⟨E, (Nat.le_refl _), (by omega), cut_zero, _oi_7, _lo8⟩ ?_
  rintro ⟨i, f, out, ov⟩ _wr_8 ⟨E, _zz0, hi, hc, _o0_5, _lo0_5⟩
  have _E0h := E
  have _E0hz := _E0h.size
  obtain ⟨Aov, Cov, eov⟩ := _o0_5.val
  subst eov
  have lov := _o0_5.len
  have hiov := _o0_5.lt
  have ol9 := congrArg List.length hc
  have cl9 := cutR_len s sep []
  rw [List.length_append] at ol9
  refine W_seq fun _K_9 _hK_9 => ?_
  refine W_seq fun _K_10 _hK_10 => ?_
  refine W_region ?_
  refine WL_step rfl rfl (r_move rfl) ?_
  refine WL_step rfl rfl (r_move rfl) ?_
  refine WL_step rfl rfl (r_lenB un9 rfl) ?_
  refine WL_step rfl rfl (r_lss rfl rfl) ?_
  refine WL_nil ?_
  refine thn_nrm (_hK_10 _ _ ?_)
  clear _hK_10
  refine W_cond rfl (fun _h12 => ?_) (fun _h12 => ?_)
  · have _kb_11 := _h12
    have _h12 := bt_d _h12
    refine W_skip ?_
    refine thn_nrm (_hK_9 _ _ ?_)
    clear _hK_9
    refine W_seq fun _K_12 _hK_12 => ?_
    refine W_block ?_
    refine W_seq fun _K_13 _hK_13 => ?_
    refine W_region ?_
    refine WL_step rfl rfl (r_move rfl) ?_
    refine WL_step rfl rfl (r_move rfl) ?_
    refine WL_step rfl rfl (r_sIndex (by omega) un9 rfl rfl) ?_
    refine WL_step rfl rfl (r_move rfl) ?_
    refine WL_step rfl rfl (r_eql rfl rfl) ?_
    refine WL_nil ?_
    refine thn_nrm (_hK_13 _ _ ?_)
    clear _hK_13
    refine W_cond rfl (fun _h19 => ?_) (fun _h19 => ?_)
    · have _kb_14 := _h19
      have _h19 := bt_d _h19
      refine W_seq fun _K_15 _hK_15 => ?_
      refine W_region ?_
      refine WL_step rfl rfl (r_move rfl) ?_
      refine WL_step rfl rfl (r_move rfl) ?_
      refine WL_step rfl rfl (r_move rfl) ?_
      refine WL_step rfl rfl (r_move rfl) ?_
      refine WL_step rfl rfl (r_sCut (by omega) un9 rfl rfl rfl) ?_
      refine WL_s rfl rfl ?_
      refine s_buildSlice (cs := scs) (parts := [(0, .tmp 24)]) ([] : List UInt8) [((s.drop f).take (i - f))] el224 sz9 zr9 scs_len (by decide) rfl rfl rfl (by decide) (by decide) rfl fun _v25 _w_16 _q25 _lo25 _cw_16 => ?_
      have _cw_16z := _cw_16.size
      have E := E.trans _cw_16
      obtain ⟨_Av25, _Cv25, _ev25⟩ := _q25.val
      subst _ev25
      have _lv25 := _q25.len
      have _hiv25 := _q25.lt
      refine WL_s rfl rfl ?_
      have _f_18 := (_o0_5.ch0 _cw_16)
      refine s_append (cs := scs) el224 sz9 by9 zr9 rfl (by decide) scs_one _f_18 _q25.ls rfl rfl (by first | omega | (simp only [List.length_append, List.length_nil, List.length_cons, List.length_replicate, List.length_set, List.length_reverse, List.length_map] at *; omega) | (simp at *; omega)) (by first | omega | (simp only [List.length_append, List.length_nil, List.length_cons, List.length_replicate, List.length_set, List.length_reverse, List.length_map] at *; omega) | (simp at *; omega)) _lo0_5 (by omega) fun _v26 _w_17 _q26 _lo26 _ap26 _cw_17 => ?_
      have _cw_17z := _cw_17.size
      have E := E.step _cw_17 (fun i hi => .inl (by have _h1 := _lo0_5 _ hi; omega))
      obtain ⟨_Av26, _Cv26, _ev26⟩ := _q26.val
      subst _ev26
      have _lv26 := _q26.len
      have _hiv26 := _q26.lt
      refine WL_step rfl rfl (r_assign rfl) ?_
      refine WL_nil ?_
      refine thn_nrm (_hK_15 _ _ ?_)
      clear _hK_15
      refine W_region ?_
      refine WL_step rfl rfl (r_move rfl) ?_
      refine WL_step rfl rfl (r_add (by omega) rfl rfl) ?_
      refine WL_step rfl rfl (r_assign rfl) ?_
      refine WL_nil ?_
      refine inB_nrm ?_
      refine thn_nrm (_hK_12 _ _ ?_)
      clear _hK_12
      refine W_region ?_
      refine WL_step rfl rfl (r_move rfl) ?_
      refine WL_step rfl rfl (r_add (by omega) rfl rfl) ?_
      refine WL_step rfl rfl (r_assign rfl) ?_
      refine WL_nil ?_
      have _on_19 : Ol scs 9 1 _w_17 (.slice _Av26 ((out ++ [((s.drop f).take (i - f))])).length _Cv26) ((out ++ [((s.drop f).take (i - f))])) := by
        have hx := _q26
        exact hx
      exact thn_nrm (Exists.intro ((i + 1), (i + 1), (out ++ [((s.drop f).take (i - f))]), (.slice _Av26 ((out ++ [((s.drop f).take (i - f))])).length _Cv26)) ⟨⟨E, (by omega), (by omega), (by first | exact cut_hit hc (by omega) _h19 | exact cut_miss hc (by omega) (by omega) _h19), _on_19, (Lo.down _lo26 (by omega))⟩, Sub.cons rfl (Sub.cons rfl (Sub.cons rfl (Sub.cons rfl (Sub.cons rfl (Sub.cons rfl (Sub.nil _)))))), (by first | omega | (dsimp only; omega))⟩)
    · have _kb_14 := _h19
      have _h19 := bf_d _h19
      refine W_skip ?_
      refine inB_nrm ?_
      refine thn_nrm (_hK_12 _ _ ?_)
      clear _hK_12
      refine W_region ?_
      refine WL_step rfl rfl (r_move rfl) ?_
      refine WL_step rfl rfl (r_add (by omega) rfl rfl) ?_
      refine WL_step rfl rfl (r_assign rfl) ?_
      refine WL_nil ?_
      have _on_20 : Ol scs 9 1 _wr_8 (.slice Aov (out).length Cov) (out) := by
        have hx := _o0_5
        exact hx
      exact thn_nrm (Exists.intro ((i + 1), f, out, (.slice Aov (out).length Cov)) ⟨⟨E, (by omega), (by omega), (by first | exact cut_hit hc (by omega) _h19 | exact cut_miss hc (by omega) (by omega) _h19), _on_20, (Lo.down _lo0_5 (by omega))⟩, Sub.cons rfl (Sub.cons rfl (Sub.cons rfl (Sub.cons rfl (Sub.cons rfl (Sub.cons rfl (Sub.nil _)))))), (by first | omega | (dsimp only; omega))⟩)
  · have _kb_11 := _h12
    have _h12 := bf_d _h12
    refine W_exit (thn_exit (thn_exit (inB_hit ?_)))
    refine thn_nrm (_hK_5 _ _ ?_)
    clear _hK_5
    refine W_seq fun _K_21 _hK_21 => ?_
    refine W_region ?_
    refine WL_step rfl rfl (r_move rfl) ?_
    refine WL_step rfl rfl (r_move rfl) ?_
    refine WL_step rfl rfl (r_move rfl) ?_
    refine WL_step rfl rfl (r_sCutL (by omega) un9 rfl rfl) ?_
    refine WL_s rfl rfl ?_
    refine s_buildSlice (cs := scs) (parts := [(0, .tmp 32)]) ([] : List UInt8) [(s.drop f)] el224 sz9 zr9 scs_len (by decide) rfl rfl rfl (by decide) (by decide) rfl fun _v33 _w_22 _q33 _lo33 _cw_22 => ?_
    have _cw_22z := _cw_22.size
    have E := E.trans _cw_22
    obtain ⟨_Av33, _Cv33, _ev33⟩ := _q33.val
    subst _ev33
    have _lv33 := _q33.len
    have _hiv33 := _q33.lt
    refine WL_s rfl rfl ?_
    have _f_24 := (_o0_5.ch0 _cw_22)
    refine s_append (cs := scs) el224 sz9 by9 zr9 rfl (by decide) scs_one _f_24 _q33.ls rfl rfl (by first | omega | (simp only [List.length_append, List.length_nil, List.length_cons, List.length_replicate, List.length_set, List.length_reverse, List.length_map] at *; omega) | (simp at *; omega)) (by first | omega | (simp only [List.length_append, List.length_nil, List.length_cons, List.length_replicate, List.length_set, List.length_reverse, List.length_map] at *; omega) | (simp at *; omega)) _lo0_5 (by omega) fun _v34 _w_23 _q34 _lo34 _ap34 _cw_23 => ?_
    have _cw_23z := _cw_23.size
    have E := E.step _cw_23 (fun i hi => .inl (by have _h1 := _lo0_5 _ hi; omega))
    obtain ⟨_Av34, _Cv34, _ev34⟩ := _q34.val
    subst _ev34
    have _lv34 := _q34.len
    have _hiv34 := _q34.lt
    refine WL_step rfl rfl (r_assign rfl) ?_
    refine WL_nil ?_
    refine thn_nrm (_hK_21 _ _ ?_)
    clear _hK_21
    refine W_ret ?_
    clear _hK_9
    have _o_25 : Ol scs 9 1 _w_23 (.slice _Av34 ((out ++ [(s.drop f)])).length _Cv34) (cutR s sep []) := by
      have hx := _q34
      exact hx.eq (cut_end hc (by omega))
    exact ret_intro [_] ⟨rfl, trivial⟩ ⟨_o_25, Lo.down _lo34 (by omega), E⟩

/-- spec.FormatLetter -/
theorem c_spec_FormatLetter {w : World} (n : Int) :
    Ctr Try.prog 225 #[(.int .i64 n)] w (fun v w' => v = bst (fmtL n) ∧ Ch [] w w') := by
  have E := Ch.refl [] w
  refine Ctr_of_W (N := 10) (vs0 := [(.int .i64 n)]) Try.func225 rfl rfl rfl ?_
  refine W_seq fun _K_1 _hK_1 => ?_
  refine W_region ?_
  refine WL_step rfl rfl (r_assign rfl) ?_
  refine WL_nil ?_
  refine thn_nrm (_hK_1 _ _ ?_)
  clear _hK_1
  refine W_seq fun _K_2 _hK_2 => ?_
  refine W_seq fun _K_3 _hK_3 => ?_
  refine W_region ?_
  refine WL_step rfl rfl (r_move rfl) ?_
  refine WL_s rfl rfl ?_
  refine Step.call (r_call (xs := [.tmp 3]) fk127 rfl) (c_spec_l2Letter _ ) fun _v4 _w_4 _q4 => ?_
  obtain ⟨rfl, _cw_4⟩ := _q4
  have _cw_4z := _cw_4.size
  have E := E.trans _cw_4
  refine WL_step rfl rfl (r_not rfl) ?_
  refine WL_nil ?_
  refine thn_nrm (_hK_3 _ _ ?_)
  clear _hK_3
  refine W_cond rfl (fun _h5 => ?_) (fun _h5 => ?_)
  · have _kb_5 := _h5
    have _h5 := bf_d (bt_n _h5)
    refine W_seq fun _K_6 _hK_6 => ?_
    refine W_region ?_
    refine WL_step rfl rfl (r_assign rfl) ?_
    refine WL_nil ?_
    refine thn_nrm (_hK_6 _ _ ?_)
    clear _hK_6
    refine W_ret (thn_ret ?_)
    clear _hK_2
    exact ret_intro [_] ⟨rfl, trivial⟩ ⟨congrArg bst (fmtL_n (by omega)), E⟩
  · have _kb_5 := _h5
    have _h5 := bt_d (bf_n _h5)
    refine W_skip ?_
    refine thn_nrm (_hK_2 _ _ ?_)
    clear _hK_2
    refine W_seq fun _K_7 _hK_7 => ?_
    refine W_region ?_
    refine WL_s rfl rfl ?_
    refine s_buildSlice (cs := scs) (parts := [(0, .const (Go.Value.string { data := #[97] })), (1, .const (Go.Value.string { data := #[97, 45] })), (2, .const (Go.Value.string { data := #[98] })), (3, .const (Go.Value.string { data := #[98, 45] })), (4, .const (Go.Value.string { data := #[99] })), (5, .const (Go.Value.string { data := #[99, 45] })), (6, .const (Go.Value.string { data := #[48] })), (7, .const (Go.Value.string { data := #[49] })), (8, .const (Go.Value.string { data := #[50] }))]) ([] : List UInt8) [[97], [97, 45], [98], [98, 45], [99], [99, 45], [48], [49], [50]] el224 sz9 zr9 scs_len (by decide) rfl rfl rfl (by decide) (by decide) rfl fun _v6 _w_8 _q6 _lo6 _cw_8 => ?_
    have _cw_8z := _cw_8.size
    have E := E.trans _cw_8
    obtain ⟨_Av6, _Cv6, _ev6⟩ := _q6.val
    subst _ev6
    have _lv6 := _q6.len
    have _hiv6 := _q6.lt
    refine WL_step rfl rfl (r_move rfl) ?_
    refine WL_s rfl rfl ?_
    refine (s_index (j := n.toNat) _q6.ls scs_len el224 sz9 rfl rfl (by omega) (by first | omega | (simp; omega)) fun _p8 _y8 _hy8 _a8 => ?_)
    refine WL_step rfl rfl (r_loadAt0 _a8 agg9 rfl rfl) ?_
    refine WL_step rfl rfl (r_assign rfl) ?_
    refine WL_nil ?_
    refine thn_nrm (_hK_7 _ _ ?_)
    clear _hK_7
    refine W_ret ?_
    exact ret_intro [_] ⟨rfl, trivial⟩ ⟨congrArg bst (fmtL_y (by omega) _hy8), E⟩

/-- spec.ParseLetter -/
theorem c_spec_ParseLetter {w : World} (s : List UInt8) :
    Ctr Try.prog 224 #[(bst s)] w (fun v w' => v = .tuple #[.int .i64 ((plR s).1), .bool ((plR s).2)] ∧ Ch [] w w') := by
  have E := Ch.refl [] w
  refine Ctr_of_W (N := 14) (vs0 := [(bst s)]) Try.func224 rfl rfl rfl ?_
  refine W_seq fun _K_1 _hK_1 => ?_
  refine W_region ?_
  refine WL_step rfl rfl (r_assign rfl) ?_
  refine WL_step rfl rfl (r_assign rfl) ?_
  refine WL_nil ?_
  refine thn_nrm (_hK_1 _ _ ?_)
  clear _hK_1
  refine W_seq fun _K_2 _hK_2 => ?_
  refine W_seq fun _K_3 _hK_3 => ?_
  refine W_region ?_
  refine WL_step rfl rfl (r_assign rfl) ?_
  refine WL_nil ?_
  refine thn_nrm (_hK_3 _ _ ?_)
  clear _hK_3
  refine W_block ?_
  refine W_loop (σ := Nat) (fun (k : Nat) => [(0, (bst s)), (4, (.int .i64 ((k : Nat) : Int)))]) (fun (k : Nat) wx => Ch [] w wx ∧ w.heap.size ≤ wx.heap.size ∧ (k ≤ 9) ∧ (ltrI s k = none)) (fun (k : Nat) => 9 - k) 0 (Sub.cons rfl (Sub.cons rfl (Sub.nil _))) ⟨E, (Nat.le_refl _), (by omega), ltrI_zero⟩ ?_
  rintro k _wr_4 ⟨E, _zz0, _hk, hn⟩
  have _E0h := E
  have _E0hz := _E0h.size
  refine W_seq fun _K_5 _hK_5 => ?_
  refine W_seq fun _K_6 _hK_6 => ?_
  refine W_region ?_
  refine WL_step rfl rfl (r_move rfl) ?_
  refine WL_step rfl rfl (r_lss rfl rfl) ?_
  refine WL_nil ?_
  refine thn_nrm (_hK_6 _ _ ?_)
  clear _hK_6
  refine W_cond rfl (fun _h6 => ?_) (fun _h6 => ?_)
  · have _kb_7 := _h6
    have _h6 := bt_d _h6
    refine W_skip ?_
    refine thn_nrm (_hK_5 _ _ ?_)
    clear _hK_5
    refine W_seq fun _K_8 _hK_8 => ?_
    refine W_block ?_
    refine W_seq fun _K_9 _hK_9 => ?_
    refine W_region ?_
    refine WL_step rfl rfl (r_move rfl) ?_
    refine WL_s rfl rfl ?_
    refine Step.call (r_call (xs := [.tmp 9]) fk225 rfl) (c_spec_FormatLetter _ ) fun _v10 _w_10 _q10 => ?_
    obtain ⟨rfl, _cw_10⟩ := _q10
    have _cw_10z := _cw_10.size
    have E := E.trans _cw_10
    refine WL_step rfl rfl (r_move rfl) ?_
    refine WL_step rfl rfl (r_sEql rfl rfl) ?_
    refine WL_nil ?_
    refine thn_nrm (_hK_9 _ _ ?_)
    clear _hK_9
    refine W_cond rfl (fun _h12 => ?_) (fun _h12 => ?_)
    · have _kb_11 := _h12
      have _h12 := bt_d _h12
      refine W_seq fun _K_12 _hK_12 => ?_
      refine W_region ?_
      refine WL_step rfl rfl (r_move rfl) ?_
      refine WL_step rfl rfl (r_assign rfl) ?_
      refine WL_step rfl rfl (r_assign rfl) ?_
      refine WL_nil ?_
      refine thn_nrm (_hK_12 _ _ ?_)
      clear _hK_12
      refine W_ret (inB_ret (thn_ret (thn_ret (inB_ret (thn_ret ?_)))))
      clear _hK_2 _hK_8
      exact ret_intro [_, _] ⟨rfl, ⟨rfl, trivial⟩⟩ ⟨((congrArg (fun zq => (Value.tuple #[.int .i64 zq, .bool true])) (by first | exact congrArg Prod.fst (plR_y hn (by omega) _h12) | exact congrArg Prod.fst (plR_n hn (by omega) (by omega)))).trans (congrArg (fun zq => (Value.tuple #[.int .i64 ((plR s).1), .bool zq])) (by first | exact congrArg Prod.snd (plR_y hn (by omega) _h12) | exact congrArg Prod.snd (plR_n hn (by omega) (by omega))))), E⟩
    · have _kb_11 := _h12
      have _h12 := bf_d _h12
      refine W_skip ?_
      refine inB_nrm ?_
      refine thn_nrm (_hK_8 _ _ ?_)
      clear _hK_8
      refine W_region ?_
      refine WL_step rfl rfl (r_move rfl) ?_
      refine WL_step rfl rfl (r_add (by omega) rfl rfl) ?_
      refine WL_step rfl rfl (r_assign rfl) ?_
      refine WL_nil ?_
      exact thn_nrm (Exists.intro (k + 1) ⟨⟨E, (by omega), (by omega), (ltrI_n hn (by omega) _h12)⟩, Sub.cons rfl (Sub.cons rfl (Sub.nil _)), (by first | omega | (dsimp only; omega))⟩)
  · have _kb_7 := _h6
    have _h6 := bf_d _h6
    refine W_exit (thn_exit (thn_exit (inB_hit ?_)))
    refine thn_nrm (_hK_2 _ _ ?_)
    clear _hK_2
    refine W_seq fun _K_13 _hK_13 => ?_
    refine W_region ?_
    refine WL_step rfl rfl (r_assign rfl) ?_
    refine WL_step rfl rfl (r_assign rfl) ?_
    refine WL_nil ?_
    refine thn_nrm (_hK_13 _ _ ?_)
    clear _hK_13
    refine W_ret ?_
    clear _hK_5
    exact ret_intro [_, _] ⟨rfl, ⟨rfl, trivial⟩⟩ ⟨((congrArg (fun zq => (Value.tuple #[.int .i64 zq, .bool false])) (by first | exact congrArg Prod.fst (plR_y hn (by omega) _h12) | exact congrArg Prod.fst (plR_n hn (by omega) (by omega)))).trans (congrArg (fun zq => (Value.tuple #[.int .i64 ((plR s).1), .bool zq])) (by first | exact congrArg Prod.snd (plR_y hn (by omega) _h12) | exact congrArg Prod.snd (plR_n hn (by omega) (by omega))))), E⟩

/-- spec.FormatInt -/
theorem c_spec_FormatInt {w : World} (n : Int) (hr0 : -9223372036854775808 ≤ n ∧ n ≤ 9223372036854775807) :
    Ctr Try.prog 226 #[(.int .i64 n)] w (fun v w' => v = bst (fmtI n) ∧ Ch [] w w') := by
  have E := Ch.refl [] w
  refine Ctr_of_W (N := 31) (vs0 := [(.int .i64 n)]) Try.func226 rfl rfl rfl ?_
  refine W_seq fun _K_1 _hK_1 => ?_
  refine W_region ?_
  refine WL_step rfl rfl (r_assign rfl) ?_
  refine WL_nil ?_
  refine thn_nrm (_hK_1 _ _ ?_)
  clear _hK_1
  refine W_seq fun _K_2 _hK_2 => ?_
  refine W_seq fun _K_3 _hK_3 => ?_
  refine W_region ?_
  refine WL_step rfl rfl (r_move rfl) ?_
  refine WL_step rfl rfl (r_eql rfl rfl) ?_
  refine WL_nil ?_
  refine thn_nrm (_hK_3 _ _ ?_)
  clear _hK_3
  refine W_cond rfl (fun _h7 => ?_) (fun _h7 => ?_)
  · have _kb_4 := _h7
    have _h7 := bt_d _h7
    refine W_seq fun _K_5 _hK_5 => ?_
    refine W_region ?_
    refine WL_step rfl rfl (r_assign rfl) ?_
    refine WL_nil ?_
    refine thn_nrm (_hK_5 _ _ ?_)
    clear _hK_5
    refine W_ret (thn_ret ?_)
    clear _hK_2
    exact ret_intro [_] ⟨rfl, trivial⟩ ⟨congrArg bst (fmtI_0 _h7), E⟩
  · have _kb_4 := _h7
    have _h7 := bf_d _h7
    refine W_skip ?_
    refine thn_nrm (_hK_2 _ _ ?_)
    clear _hK_2
    refine W_seq fun _K_6 _hK_6 => ?_
    refine W_region ?_
    refine WL_step rfl rfl (r_assign rfl) ?_
    refine WL_nil ?_
    refine thn_nrm (_hK_6 _ _ ?_)
    clear _hK_6
    refine W_seq fun _K_7 _hK_7 => ?_
    refine W_region ?_
    refine WL_step rfl rfl (r_move rfl) ?_
    refine WL_step rfl rfl (r_lss rfl rfl) ?_
    refine WL_step rfl rfl (r_assign rfl) ?_
    refine WL_nil ?_
    refine thn_nrm (_hK_7 _ _ ?_)
    clear _hK_7
    refine W_seq fun _K_8 _hK_8 => ?_
    refine W_block ?_
    refine W_loop (σ := Int × List UInt8) (fun ⟨m, out⟩ => [(0, (.int .i64 m)), (2, (bst ([] : List UInt8))), (3, (bst out)), (4, (.bool (decide (n < 0))))]) (fun ⟨m, out⟩ wx => Ch [] w wx ∧ w.heap.size ≤ wx.heap.size ∧ (dgF 20 m.natAbs ++ out = dgF 20 n.natAbs) ∧ (-9223372036854775808 ≤ m ∧ m ≤ 9223372036854775807)) (fun ⟨m, out⟩ => m.natAbs) (n, ([] : List UInt8)) (Sub.cons rfl (Sub.cons rfl (Sub.cons rfl (Sub.cons rfl (Sub.nil _))))) ⟨E, (Nat.le_refl _), (by simp), hr0⟩ ?_
    rintro ⟨m, out⟩ _wr_9 ⟨E, _zz0, hm, hr⟩
    have _E0h := E
    have _E0hz := _E0h.size
    have ol9 := congrArg List.length hm
    have dl9 := dgF_len 20 n.natAbs
    rw [List.length_append] at ol9
    refine W_seq fun _K_10 _hK_10 => ?_
    refine W_seq fun _K_11 _hK_11 => ?_
    refine W_region ?_
    refine WL_step rfl rfl (r_move rfl) ?_
    refine WL_step rfl rfl (r_neq rfl rfl) ?_
    refine WL_nil ?_
    refine thn_nrm (_hK_11 _ _ ?_)
    clear _hK_11
    refine W_cond rfl (fun _h11 => ?_) (fun _h11 => ?_)
    · have _kb_12 := _h11
      have _h11 := bf_d (bt_n _h11)
      have tm9 := tm10 m
      refine W_skip ?_
      refine thn_nrm (_hK_10 _ _ ?_)
      clear _hK_10
      refine W_block ?_
      refine W_seq fun _K_13 _hK_13 => ?_
      refine W_region ?_
      refine WL_step rfl rfl (r_move rfl) ?_
      refine WL_step rfl rfl (r_rem (by omega) rfl rfl) ?_
      refine WL_step rfl rfl (r_assign rfl) ?_
      refine WL_nil ?_
      refine thn_nrm (_hK_13 _ _ ?_)
      clear _hK_13
      refine W_seq fun _K_14 _hK_14 => ?_
      refine W_seq fun _K_15 _hK_15 => ?_
      refine W_region ?_
      refine WL_step rfl rfl (r_move rfl) ?_
      refine WL_step rfl rfl (r_lss rfl rfl) ?_
      refine WL_nil ?_
      refine thn_nrm (_hK_15 _ _ ?_)
      clear _hK_15
      refine W_cond rfl (fun _h15 => ?_) (fun _h15 => ?_)
      · have _kb_16 := _h15
        have _h15 := bt_d _h15
        refine W_region ?_
        refine WL_step rfl rfl (r_move rfl) ?_
        refine WL_step rfl rfl (r_neg (by omega) rfl) ?_
        refine WL_step rfl rfl (r_assign rfl) ?_
        refine WL_nil ?_
        refine thn_nrm (_hK_14 _ _ ?_)
        clear _hK_14
        refine W_seq fun _K_17 _hK_17 => ?_
        refine W_region ?_
        refine WL_step rfl rfl (r_move rfl) ?_
        refine WL_step rfl rfl (r_add (by omega) rfl rfl) ?_
        refine WL_step rfl rfl (r_convert (by rw [un3]; rfl) un5 rfl) ?_
        refine WL_s rfl rfl ?_
        refine s_buildSlice (cs := ucs) (parts := [(0, .tmp 20)]) (0 : Int) [(w8 (48 + (-(m.tmod 10))))] el22 sz5 zr5 ucs_len (by decide) rfl rfl rfl (by decide) (by decide) rfl fun _v21 _w_18 _q21 _lo21 _cw_18 => ?_
        have _cw_18z := _cw_18.size
        have E := E.trans _cw_18
        obtain ⟨_Av21, _Cv21, _ev21⟩ := _q21.val
        subst _ev21
        have _lv21 := _q21.len
        have _hiv21 := _q21.lt
        refine WL_step rfl rfl (r_bytesStr _q21.ls el22 un5 un9 rfl) ?_
        refine WL_step rfl rfl (r_move rfl) ?_
        refine WL_step rfl rfl (r_sAdd (by (simp only [u8s, List.map_cons, List.map_nil, List.length_cons, List.length_nil]; omega)) rfl rfl) ?_
        refine WL_step rfl rfl (r_assign rfl) ?_
        refine WL_nil ?_
        refine thn_nrm (_hK_17 _ _ ?_)
        clear _hK_17
        refine W_region ?_
        refine WL_step rfl rfl (r_move rfl) ?_
        refine WL_step rfl rfl (r_quo (by omega) (td10 (by omega)) rfl rfl) ?_
        refine WL_step rfl rfl (r_assign rfl) ?_
        refine WL_nil ?_
        refine inB_nrm ?_
        exact thn_nrm (Exists.intro ((m.tdiv 10), ((u8s ([(w8 (48 + (-(m.tmod 10))))])) ++ out)) ⟨⟨E, (by omega), (dg_step hm _h11 hr (by first | exact .inl rfl | exact .inr rfl) (by omega)), (td10 hr)⟩, Sub.cons rfl (Sub.cons rfl (Sub.cons rfl (Sub.cons rfl (Sub.nil _)))), (td_lt _h11)⟩)
      · have _kb_16 := _h15
        have _h15 := bf_d _h15
        refine W_skip ?_
        refine thn_nrm (_hK_14 _ _ ?_)
        clear _hK_14
        refine W_seq fun _K_19 _hK_19 => ?_
        refine W_region ?_
        refine WL_step rfl rfl (r_move rfl) ?_
        refine WL_step rfl rfl (r_add (by omega) rfl rfl) ?_
        refine WL_step rfl rfl (r_convert (by rw [un3]; rfl) un5 rfl) ?_
        refine WL_s rfl rfl ?_
        refine s_buildSlice (cs := ucs) (parts := [(0, .tmp 20)]) (0 : Int) [(w8 (48 + (m.tmod 10)))] el22 sz5 zr5 ucs_len (by decide) rfl rfl rfl (by decide) (by decide) rfl fun _v21 _w_20 _q21 _lo21 _cw_20 => ?_
        have _cw_20z := _cw_20.size
        have E := E.trans _cw_20
        obtain ⟨_Av21, _Cv21, _ev21⟩ := _q21.val
        subst _ev21
        have _lv21 := _q21.len
        have _hiv21 := _q21.lt
        refine WL_step rfl rfl (r_bytesStr _q21.ls el22 un5 un9 rfl) ?_
        refine WL_step rfl rfl (r_move rfl) ?_
        refine WL_step rfl rfl (r_sAdd (by (simp only [u8s, List.map_cons, List.map_nil, List.length_cons, List.length_nil]; omega)) rfl rfl) ?_
        refine WL_step rfl rfl (r_assign rfl) ?_
        refine WL_nil ?_
        refine thn_nrm (_hK_19 _ _ ?_)
        clear _hK_19
        refine W_region ?_
        refine WL_step rfl rfl (r_move rfl) ?_
        refine WL_step rfl rfl (r_quo (by omega) (td10 (by omega)) rfl rfl) ?_
        refine WL_step rfl rfl (r_assign rfl) ?_
        refine WL_nil ?_
        refine inB_nrm ?_
        exact thn_nrm (Exists.intro ((m.tdiv 10), ((u8s ([(w8 (48 + (m.tmod 10)))])) ++ out)) ⟨⟨E, (by omega), (dg_step hm _h11 hr (by first | exact .inl rfl | exact .inr rfl) (by omega)), (td10 hr)⟩, Sub.cons rfl (Sub.cons rfl (Sub.cons rfl (Sub.cons rfl (Sub.nil _)))), (td_lt _h11)⟩)
    · have _kb_12 := _h11
      have _h11 := bt_d (bf_n _h11)
      refine W_exit (thn_exit (thn_exit (inB_hit ?_)))
      refine thn_nrm (_hK_8 _ _ ?_)
      clear _hK_8
      refine W_seq fun _K_21 _hK_21 => ?_
      refine W_seq fun _K_22 _hK_22 => ?_
      refine W_region ?_
      refine WL_step rfl rfl (r_move rfl) ?_
      refine WL_nil ?_
      refine thn_nrm (_hK_22 _ _ ?_)
      clear _hK_22
      refine W_cond rfl (fun _h27 => ?_) (fun _h27 => ?_)
      · have _kb_23 := _h27
        have _h27 := bt_d _h27
        refine W_seq fun _K_24 _hK_24 => ?_
        refine W_region ?_
        refine WL_step rfl rfl (r_move rfl) ?_
        refine WL_step rfl rfl (r_sAdd (by (simp only [u8s, List.map_cons, List.map_nil, List.length_cons, List.length_nil]; omega)) rfl rfl) ?_
        refine WL_step rfl rfl (r_assign rfl) ?_
        refine WL_nil ?_
        refine thn_nrm (_hK_24 _ _ ?_)
        clear _hK_24
        refine W_ret (thn_ret ?_)
        clear _hK_10 _hK_21
        exact ret_intro [_] ⟨rfl, trivial⟩ ⟨congrArg bst (fmtI_neg _h27 (dg_end hm _h11)), E⟩
      · have _kb_23 := _h27
        have _h27 := bf_d _h27
        refine W_skip ?_
        refine thn_nrm (_hK_21 _ _ ?_)
        clear _hK_21
        refine W_seq fun _K_25 _hK_25 => ?_
        refine W_region ?_
        refine WL_step rfl rfl (r_move rfl) ?_
        refine WL_step rfl rfl (r_assign rfl) ?_
        refine WL_nil ?_
        refine thn_nrm (_hK_25 _ _ ?_)
        clear _hK_25
        refine W_ret ?_
        clear _hK_10
        exact ret_intro [_] ⟨rfl, trivial⟩ ⟨congrArg bst (fmtI_pos _h27 _h7 (dg_end hm _h11)), E⟩

/-- spec.l8Token -/
theorem c_spec_l8Token {w : World} (t : Token) (hl : 0 ≤ t.low ∧ t.low ≤ 255) (hh : 0 ≤ t.high ∧ t.high ≤ 255) :
    Ctr Try.prog 223 #[(.agg #[(.int .i64 t.kind), (.int .i64 t.letter), (.int .i64 t.low), (.int .i64 t.high)])] w (fun v w' => v = bst (tokS t) ∧ Ch [] w w') := by
  have E := Ch.refl [] w
  have fl9 := fmtI_len t.low; have fh9 := fmtI_len t.high
  refine Ctr_of_W (N := 30) (vs0 := [(.agg #[(.int .i64 t.kind), (.int .i64 t.letter), (.int .i64 t.low), (.int .i64 t.high)])]) Try.func223 rfl rfl rfl ?_
  refine W_seq fun _K_1 _hK_1 => ?_
  refine W_region ?_
  refine WL_s rfl rfl ?_
  refine s_box rfl fun _b1 _w_2 _m1 _cw_2 _e1 => ?_
  have _cw_2z := _cw_2.size
  have E := E.trans _cw_2
  have _z1 := _m1.lt
  replace _m1 : Blk _w_2 _b1 126 [(.int .i64 t.kind), (.int .i64 t.letter), (.int .i64 t.low), (.int .i64 t.high)] := _m1
  refine WL_step rfl rfl (r_assign rfl) ?_
  refine WL_nil ?_
  refine thn_nrm (_hK_1 _ _ ?_)
  clear _hK_1
  refine W_seq fun _K_3 _hK_3 => ?_
  refine W_seq fun _K_4 _hK_4 => ?_
  refine W_region ?_
  refine WL_step rfl rfl (r_fieldAddr fa126_0 rfl) ?_
  refine WL_step rfl rfl (r_loadAt _m1.at_ agg3 rfl rfl) ?_
  refine WL_nil ?_
  refine thn_nrm (_hK_4 _ _ ?_)
  clear _hK_4
  refine W_block ?_
  refine W_seq fun _K_5 _hK_5 => ?_
  refine W_region ?_
  refine WL_step rfl rfl (r_eql rfl rfl) ?_
  refine WL_step rfl rfl (r_assign rfl) ?_
  refine WL_nil ?_
  refine thn_nrm (_hK_5 _ _ ?_)
  clear _hK_5
  refine W_cond rfl (fun _h5 => ?_) (fun _h5 => ?_)
  · have _kb_6 := _h5
    have _h5 := bt_d _h5
    refine W_seq fun _K_7 _hK_7 => ?_
    refine W_region ?_
    refine WL_step rfl rfl (r_assign rfl) ?_
    refine WL_nil ?_
    refine thn_nrm (_hK_7 _ _ ?_)
    clear _hK_7
    refine W_ret (inB_ret (thn_ret ?_))
    clear _hK_3
    exact ret_intro [_] ⟨rfl, trivial⟩ ⟨congrArg bst (by unfold tokS; rw [if_pos _h5]), E⟩
  · have _kb_6 := _h5
    have _h5 := bf_d _h5
    refine W_seq fun _K_8 _hK_8 => ?_
    refine W_region ?_
    refine WL_step rfl rfl (r_eql rfl rfl) ?_
    refine WL_step rfl rfl (r_assign rfl) ?_
    refine WL_nil ?_
    refine thn_nrm (_hK_8 _ _ ?_)
    clear _hK_8
    refine W_cond rfl (fun _h7 => ?_) (fun _h7 => ?_)
    · have _kb_9 := _h7
      have _h7 := bt_d _h7
      refine W_seq fun _K_10 _hK_10 => ?_
      refine W_region ?_
      refine WL_step rfl rfl (r_assign rfl) ?_
      refine WL_nil ?_
      refine thn_nrm (_hK_10 _ _ ?_)
      clear _hK_10
      refine W_ret (inB_ret (thn_ret ?_))
      clear _hK_3
      exact ret_intro [_] ⟨rfl, trivial⟩ ⟨congrArg bst (by unfold tokS; rw [if_neg _h5, if_pos _h7]), E⟩
    · have _kb_9 := _h7
      have _h7 := bf_d _h7
      refine W_seq fun _K_11 _hK_11 => ?_
      refine W_region ?_
      refine WL_step rfl rfl (r_eql rfl rfl) ?_
      refine WL_step rfl rfl (r_assign rfl) ?_
      refine WL_nil ?_
      refine thn_nrm (_hK_11 _ _ ?_)
      clear _hK_11
      refine W_cond rfl (fun _h9 => ?_) (fun _h9 => ?_)
      · have _kb_12 := _h9
        have _h9 := bt_d _h9
        refine W_seq fun _K_13 _hK_13 => ?_
        refine W_region ?_
        refine WL_step rfl rfl (r_fieldAddr fa126_1 rfl) ?_
        refine WL_step rfl rfl (r_loadAt _m1.at_ agg3 rfl rfl) ?_
        refine WL_s rfl rfl ?_
        refine Step.call (r_call (xs := [.tmp 12]) fk225 rfl) (c_spec_FormatLetter _ ) fun _v13 _w_14 _q13 => ?_
        obtain ⟨rfl, _cw_14⟩ := _q13
        have _cw_14z := _cw_14.size
        have E := E.trans _cw_14
        refine WL_step rfl rfl (r_assign rfl) ?_
        refine WL_nil ?_
        refine thn_nrm (_hK_13 _ _ ?_)
        clear _hK_13
        refine W_ret (inB_ret (thn_ret ?_))
        clear _hK_3
        exact ret_intro [_] ⟨rfl, trivial⟩ ⟨congrArg bst (by unfold tokS; rw [if_neg _h5, if_neg _h7, if_pos _h9]), E⟩
      · have _kb_12 := _h9
        have _h9 := bf_d _h9
        refine W_seq fun _K_15 _hK_15 => ?_
        refine W_region ?_
        refine WL_step rfl rfl (r_eql rfl rfl) ?_
        refine WL_step rfl rfl (r_assign rfl) ?_
        refine WL_nil ?_
        refine thn_nrm (_hK_15 _ _ ?_)
        clear _hK_15
        refine W_cond rfl (fun _h14 => ?_) (fun _h14 => ?_)
        · have _kb_16 := _h14
          have _h14 := bt_d _h14
          refine W_seq fun _K_17 _hK_17 => ?_
          refine W_region ?_
          refine WL_step rfl rfl (r_assign rfl) ?_
          refine WL_nil ?_
          refine thn_nrm (_hK_17 _ _ ?_)
          clear _hK_17
          refine W_ret (inB_ret (thn_ret ?_))
          clear _hK_3
          exact ret_intro [_] ⟨rfl, trivial⟩ ⟨congrArg bst (by unfold tokS; rw [if_neg _h5, if_neg _h7, if_neg _h9, if_pos _h14]), E⟩
        · have _kb_16 := _h14
          have _h14 := bf_d _h14
          refine W_seq fun _K_18 _hK_18 => ?_
          refine W_region ?_
          refine WL_step rfl rfl (r_eql rfl rfl) ?_
          refine WL_step rfl rfl (r_assign rfl) ?_
          refine WL_nil ?_
          refine thn_nrm (_hK_18 _ _ ?_)
          clear _hK_18
          refine W_cond rfl (fun _h16 => ?_) (fun _h16 => ?_)
          · have _kb_19 := _h16
            have _h16 := bt_d _h16
            refine W_seq fun _K_20 _hK_20 => ?_
            refine W_region ?_
            refine WL_step rfl rfl (r_assign rfl) ?_
            refine WL_nil ?_
            refine thn_nrm (_hK_20 _ _ ?_)
            clear _hK_20
            refine W_ret (inB_ret (thn_ret ?_))
            clear _hK_3
            exact ret_intro [_] ⟨rfl, trivial⟩ ⟨congrArg bst (by unfold tokS; rw [if_neg _h5, if_neg _h7, if_neg _h9, if_neg _h14, if_pos _h16]), E⟩
          · have _kb_19 := _h16
            have _h16 := bf_d _h16
            refine W_seq fun _K_21 _hK_21 => ?_
            refine W_region ?_
            refine WL_step rfl rfl (r_eql rfl rfl) ?_
            refine WL_step rfl rfl (r_assign rfl) ?_
            refine WL_nil ?_
            refine thn_nrm (_hK_21 _ _ ?_)
            clear _hK_21
            refine W_cond rfl (fun _h18 => ?_) (fun _h18 => ?_)
            · have _kb_22 := _h18
              have _h18 := bt_d _h18
              refine W_seq fun _K_23 _hK_23 => ?_
              refine W_region ?_
              refine WL_step rfl rfl (r_assign rfl) ?_
              refine WL_nil ?_
              refine thn_nrm (_hK_23 _ _ ?_)
              clear _hK_23
              refine W_ret (inB_ret (thn_ret ?_))
              clear _hK_3
              exact ret_intro [_] ⟨rfl, trivial⟩ ⟨congrArg bst (by unfold tokS; rw [if_neg _h5, if_neg _h7, if_neg _h9, if_neg _h14, if_neg _h16, if_pos _h18]), E⟩
            · have _kb_22 := _h18
              have _h18 := bf_d _h18
              refine W_skip ?_
              refine inB_nrm ?_
              refine thn_nrm (_hK_3 _ _ ?_)
              clear _hK_3
              refine W_seq fun _K_24 _hK_24 => ?_
              refine W_drawC [] 11 mixed rfl fun _w_25 _cw_25 => ?_
              have _cw_25z := _cw_25.size
              have E := E.trans _cw_25
              refine DR_s 0 rfl (by kernel_rfl) rfl rfl (t_v (fun _ => (r_fieldAddr fa126_2 rfl)) ?_)
              have _f_26 := (_m1.ch0 _cw_25)
              refine DR_s 1 rfl (by kernel_rfl) rfl rfl (t_loadAt _f_26.at_ (fun i hi => absurd hi List.not_mem_nil) agg3 rfl rfl ?_)
              refine DR_s 5 rfl (by kernel_rfl) rfl rfl (t_v (fun _ => (r_fieldAddr fa126_3 rfl)) ?_)
              refine DR_s 6 rfl (by kernel_rfl) rfl rfl (t_loadAt _f_26.at_ (fun i hi => absurd hi List.not_mem_nil) agg3 rfl rfl ?_)
              refine DR_one 2 (by kernel_rfl) ?_
              refine DO_s rfl rfl rfl ?_
              refine Step.call (r_call (xs := [.tmp 21]) fk226 rfl) (c_spec_FormatInt _ (by omega)) fun _v22 _w_27 _q22 => ?_
              obtain ⟨rfl, _cw_27⟩ := _q22
              have _cw_27z := _cw_27.size
              have E := E.trans _cw_27
              have _S_28 : Ch [] _w_25 _w_27 := ((Ch.refl _ _).trans _cw_27)
              refine ⟨_S_28, ?_⟩
              refine DR_s 3 rfl (by kernel_rfl) rfl rfl (t_v (fun _ => (r_sAdd (by (simp only [List.length_append, List.length_cons, List.length_nil]; omega)) rfl rfl)) ?_)
              refine DR_s 4 rfl (by kernel_rfl) rfl rfl (t_v (fun _ => (r_sAdd (by (simp only [List.length_append, List.length_cons, List.length_nil]; omega)) rfl rfl)) ?_)
              refine DR_one 7 (by kernel_rfl) ?_
              refine DO_s rfl rfl rfl ?_
              refine Step.call (r_call (xs := [.tmp 26]) fk226 rfl) (c_spec_FormatInt _ (by omega)) fun _v27 _w_29 _q27 => ?_
              obtain ⟨rfl, _cw_29⟩ := _q27
              have _cw_29z := _cw_29.size
              have E := E.trans _cw_29
              have _S_30 : Ch [] _w_25 _w_29 := (_S_28.trans _cw_29)
              refine ⟨_S_30, ?_⟩
              refine DR_s 8 rfl (by kernel_rfl) rfl rfl (t_v (fun _ => (r_sAdd (by (simp only [List.length_append, List.length_cons, List.length_nil]; omega)) rfl rfl)) ?_)
              refine DR_s 9 rfl (by kernel_rfl) rfl rfl (t_v (fun _ => (r_sAdd (by (simp only [List.length_append, List.length_cons, List.length_nil]; omega)) rfl rfl)) ?_)
              refine DR_s 10 rfl (by kernel_rfl) rfl rfl (t_v (fun _ => (r_assign rfl)) ?_)
              refine DR_done (by kernel_rfl) ?_
              refine thn_nrm (_hK_24 _ _ ?_)
              clear _hK_24
              refine W_ret ?_
              exact ret_intro [_] ⟨rfl, trivial⟩ ⟨congrArg bst (by unfold tokS; rw [if_neg _h5, if_neg _h7, if_neg _h9, if_neg _h14, if_neg _h16, if_neg _h18]), E⟩

/-- spec.l8Read -/
theorem c_spec_l8Read {w : World} (s : List UInt8) :
    Ctr Try.prog 221 #[(bst s)] w (fun v w' => v = .agg (Token.cs (rdT s)).toArray ∧ Ch [] w w') := by
  have E := Ch.refl [] w
  refine Ctr_of_W (N := 57) (vs0 := [(bst s)]) Try.func221 rfl rfl rfl ?_
  refine W_seq fun _K_1 _hK_1 => ?_
  refine W_region ?_
  refine WL_s rfl rfl ?_
  refine s_alloc zr126 fun _b2 _w_2 _m2 _cw_2 _e2 => ?_
  have _cw_2z := _cw_2.size
  have E := E.trans _cw_2
  have _z2 := _m2.lt
  replace _m2 : Blk _w_2 _b2 126 [(.int .i64 0), (.int .i64 0), (.int .i64 0), (.int .i64 0)] := _m2
  refine WL_nil ?_
  refine thn_nrm (_hK_1 _ _ ?_)
  clear _hK_1
  refine W_seq fun _K_3 _hK_3 => ?_
  refine W_seq fun _K_4 _hK_4 => ?_
  refine W_region ?_
  refine WL_step rfl rfl (r_assign rfl) ?_
  refine WL_nil ?_
  refine thn_nrm (_hK_4 _ _ ?_)
  clear _hK_4
  refine W_block ?_
  refine W_loop (σ := Nat) (fun (k : Nat) => [(0, (bst s)), (2, (.pointer (some ⟨_b2, 0, none⟩))), (3, (.int .i64 ((k : Nat) : Int)))]) (fun (k : Nat) wx => Ch [] w wx ∧ _w_2.heap.size ≤ wx.heap.size ∧ (1 ≤ k ∧ k ≤ 7) ∧ (rdK s k = none) ∧ Blk wx _b2 126 [(.int .i64 0), (.int .i64 0), (.int .i64 0), (.int .i64 0)]) (fun (k : Nat) => 7 - k) 1 (Sub.cons rfl (Sub.cons rfl (Sub.cons rfl (Sub.nil _)))) ⟨E, (Nat.le_refl _), (by omega), rdK_zero, _m2⟩ ?_
  rintro k _wr_5 ⟨E, _zz0, _hk, hn, _F0_0⟩
  have _E0h := E
  have _E0hz := _E0h.size
  have _F0_0z := _F0_0.lt
  refine W_seq fun _K_6 _hK_6 => ?_
  refine W_seq fun _K_7 _hK_7 => ?_
  refine W_region ?_
  refine WL_step rfl rfl (r_move rfl) ?_
  refine WL_step rfl rfl (r_leq rfl rfl) ?_
  refine WL_nil ?_
  refine thn_nrm (_hK_7 _ _ ?_)
  clear _hK_7
  refine W_cond rfl (fun _h7 => ?_) (fun _h7 => ?_)
  · have _kb_8 := _h7
    have _h7 := bt_d _h7
    refine W_skip ?_
    refine thn_nrm (_hK_6 _ _ ?_)
    clear _hK_6
    refine W_seq fun _K_9 _hK_9 => ?_
    refine W_block ?_
    refine W_seq fun _K_10 _hK_10 => ?_
    refine W_region ?_
    refine WL_step rfl rfl (r_move rfl) ?_
    refine WL_step rfl rfl (r_neq rfl rfl) ?_
    refine WL_step rfl rfl (r_move rfl) ?_
    refine WL_split (d := 12) rfl (fun _h12 => ?_) (fun _h12 => ?_)
    · have _kb_11 := _h12
      have _h12 := bf_d (bt_n _h12)
      refine WL_step rfl rfl (r_move rfl) ?_
      refine WL_step rfl rfl (r_build (parts := [(0, .tmp 13)]) (cells := [(.int .i64 ((k : Nat) : Int)), (.int .i64 0), (.int .i64 0), (.int .i64 0)]) zr126 pl126 rfl rfl) ?_
      refine WL_s rfl rfl ?_
      refine Step.call (r_call (xs := [.tmp 14]) fk223 rfl) (c_spec_l8Token ⟨((k : Nat) : Int), 0, 0, 0⟩ (by first | omega | (dsimp only; omega) | simp) (by first | omega | (dsimp only; omega) | simp)) fun _v15 _w_12 _q15 => ?_
      obtain ⟨rfl, _cw_12⟩ := _q15
      have _cw_12z := _cw_12.size
      have E := E.trans _cw_12
      refine WL_step rfl rfl (r_move rfl) ?_
      refine WL_step rfl rfl (r_sEql rfl rfl) ?_
      refine WL_step rfl rfl (r_pickT rfl rfl) ?_
      refine WL_nil ?_
      refine thn_nrm (_hK_10 _ _ ?_)
      clear _hK_10
      refine W_cond rfl (fun _h18 => ?_) (fun _h18 => ?_)
      · have _kb_13 := _h18
        have _h18 := bt_d _h18
        refine W_seq fun _K_14 _hK_14 => ?_
        refine W_region ?_
        refine WL_step rfl rfl (r_move rfl) ?_
        refine WL_step rfl rfl (r_build (parts := [(0, .tmp 19)]) (cells := [(.int .i64 ((k : Nat) : Int)), (.int .i64 0), (.int .i64 0), (.int .i64 0)]) zr126 pl126 rfl rfl) ?_
        refine WL_s rfl rfl ?_
        have _f_15 := (_F0_0.ch0 _cw_12)
        refine s_storeA (off := 0) 4 _f_15 sz126 rfl (us := [(.int .i64 ((k : Nat) : Int)), (.int .i64 0), (.int .i64 0), (.int .i64 0)]) rfl rfl rfl rfl fun _w_16 _m_17 _cw_16 => ?_
        have _cw_16z := _cw_16.size
        have E := E.step _cw_16 (fun i hi => .inl (by have _h1 := List.mem_singleton.1 hi; omega))
        replace _m_17 : Blk _w_16 _b2 126 [(.int .i64 ((k : Nat) : Int)), (.int .i64 0), (.int .i64 0), (.int .i64 0)] := _m_17
        refine WL_nil ?_
        refine thn_nrm (_hK_14 _ _ ?_)
        clear _hK_14
        refine W_ret (inB_ret (thn_ret (thn_ret (inB_ret (thn_ret ?_)))))
        clear _hK_3 _hK_9
        exact ret_intro [_] (resOf_loadA _m_17 rfl agg126 sz126 trivial) ⟨(by have key : ∀ z : Token, z = rdT s → Value.agg (Token.cs z).toArray = Value.agg (Token.cs (rdT s)).toArray := (fun z h => by rw [h]); first | exact key _ (rdT_k hn (by omega) (by omega) (by omega) _h18) | exact key _ (rdT_l (rdK_end hn _h7 (by omega)) _h26) | exact key _ (rdT_r (rdK_end hn _h7 (by omega)) _h26 ⟨by omega, _h37, _h42, _h46⟩) | exact key _ (rdT_0 (rdK_end hn _h7 (by omega)) _h26 (fun c => by first | exact _h46 c.2.2.2 | exact _h42 c.2.2.1 | exact _h37 c.2.1 | omega))), E⟩
      · have _kb_13 := _h18
        have _h18 := bf_d _h18
        refine W_skip ?_
        refine inB_nrm ?_
        refine thn_nrm (_hK_9 _ _ ?_)
        clear _hK_9
        refine W_region ?_
        refine WL_step rfl rfl (r_move rfl) ?_
        refine WL_step rfl rfl (r_add (by omega) rfl rfl) ?_
        refine WL_step rfl rfl (r_assign rfl) ?_
        refine WL_nil ?_
        have _f_18 := (_F0_0.ch0 _cw_12)
        exact thn_nrm (Exists.intro (k + 1) ⟨⟨E, (by omega), (by omega), (rdK_n hn (by first | exact .inr _h18 | (left; omega))), _f_18⟩, Sub.cons rfl (Sub.cons rfl (Sub.cons rfl (Sub.nil _))), (by first | omega | (dsimp only; omega))⟩)
    · have _kb_11 := _h12
      have _h12 := bt_d (bf_n _h12)
      refine WL_skip rfl rfl ?_
      refine WL_skip rfl rfl ?_
      refine WL_skip rfl rfl ?_
      refine WL_skip rfl rfl ?_
      refine WL_skip rfl rfl ?_
      refine WL_step rfl rfl (r_pickF rfl rfl) ?_
      refine WL_nil ?_
      refine thn_nrm (_hK_10 _ _ ?_)
      clear _hK_10
      refine W_condF rfl ?_
      refine W_skip ?_
      refine inB_nrm ?_
      refine thn_nrm (_hK_9 _ _ ?_)
      clear _hK_9
      refine W_region ?_
      refine WL_step rfl rfl (r_move rfl) ?_
      refine WL_step rfl rfl (r_add (by omega) rfl rfl) ?_
      refine WL_step rfl rfl (r_assign rfl) ?_
      refine WL_nil ?_
      exact thn_nrm (Exists.intro (k + 1) ⟨⟨E, (by omega), (by omega), (rdK_n hn (by first | exact .inr _h18 | (left; omega))), _F0_0⟩, Sub.cons rfl (Sub.cons rfl (Sub.cons rfl (Sub.nil _))), (by first | omega | (dsimp only; omega))⟩)
  · have _kb_8 := _h7
    have _h7 := bf_d _h7
    refine W_exit (thn_exit (thn_exit (inB_hit ?_)))
    refine thn_nrm (_hK_3 _ _ ?_)
    clear _hK_3
    refine W_seq fun _K_19 _hK_19 => ?_
    refine W_region ?_
    refine WL_step rfl rfl (r_move rfl) ?_
    refine WL_s rfl rfl ?_
    refine Step.call (r_call (xs := [.tmp 22]) fk224 rfl) (c_spec_ParseLetter s ) fun _v23 _w_20 _q23 => ?_
    obtain ⟨rfl, _cw_20⟩ := _q23
    have _cw_20z := _cw_20.size
    have E := E.trans _cw_20
    refine WL_step rfl rfl (r_move rfl) ?_
    refine WL_step rfl rfl (r_extract rfl rfl) ?_
    refine WL_step rfl rfl (r_extract rfl rfl) ?_
    refine WL_step rfl rfl (r_assign rfl) ?_
    refine WL_step rfl rfl (r_assign rfl) ?_
    refine WL_nil ?_
    refine thn_nrm (_hK_19 _ _ ?_)
    clear _hK_19
    refine W_seq fun _K_21 _hK_21 => ?_
    refine W_seq fun _K_22 _hK_22 => ?_
    refine W_region ?_
    refine WL_step rfl rfl (r_move rfl) ?_
    refine WL_nil ?_
    refine thn_nrm (_hK_22 _ _ ?_)
    clear _hK_22
    refine W_cond rfl (fun _h26 => ?_) (fun _h26 => ?_)
    · have _kb_23 := _h26
      refine W_seq fun _K_24 _hK_24 => ?_
      refine W_region ?_
      refine WL_step rfl rfl (r_move rfl) ?_
      refine WL_step rfl rfl (r_build (parts := [(0, .const (Go.Value.int Go.IntKind.i64 3)), (1, .tmp 27)]) (cells := [(.int .i64 3), (.int .i64 ((plR s).1)), (.int .i64 0), (.int .i64 0)]) zr126 pl126 rfl rfl) ?_
      refine WL_s rfl rfl ?_
      have _f_25 := (_F0_0.ch0 _cw_20)
      refine s_storeA (off := 0) 4 _f_25 sz126 rfl (us := [(.int .i64 3), (.int .i64 ((plR s).1)), (.int .i64 0), (.int .i64 0)]) rfl rfl rfl rfl fun _w_26 _m_27 _cw_26 => ?_
      have _cw_26z := _cw_26.size
      have E := E.step _cw_26 (fun i hi => .inl (by have _h1 := List.mem_singleton.1 hi; omega))
      replace _m_27 : Blk _w_26 _b2 126 [(.int .i64 3), (.int .i64 ((plR s).1)), (.int .i64 0), (.int .i64 0)] := _m_27
      refine WL_nil ?_
      refine thn_nrm (_hK_24 _ _ ?_)
      clear _hK_24
      refine W_ret (thn_ret ?_)
      clear _hK_6 _hK_21
      exact ret_intro [_] (resOf_loadA _m_27 rfl agg126 sz126 trivial) ⟨(by have key : ∀ z : Token, z = rdT s → Value.agg (Token.cs z).toArray = Value.agg (Token.cs (rdT s)).toArray := (fun z h => by rw [h]); first | exact key _ (rdT_k hn (by omega) (by omega) (by omega) _h18) | exact key _ (rdT_l (rdK_end hn _h7 (by omega)) _h26) | exact key _ (rdT_r (rdK_end hn _h7 (by omega)) _h26 ⟨by omega, _h37, _h42, _h46⟩) | exact key _ (rdT_0 (rdK_end hn _h7 (by omega)) _h26 (fun c => by first | exact _h46 c.2.2.2 | exact _h42 c.2.2.1 | exact _h37 c.2.1 | omega))), E⟩
    · have _kb_23 := _h26
      refine W_skip ?_
      refine thn_nrm (_hK_21 _ _ ?_)
      clear _hK_21
      refine W_seq fun _K_28 _hK_28 => ?_
      refine W_seq fun _K_29 _hK_29 => ?_
      refine W_region ?_
      refine WL_step rfl rfl (r_move rfl) ?_
      refine WL_step rfl rfl (r_lenB un9 rfl) ?_
      refine WL_step rfl rfl (r_eql rfl rfl) ?_
      refine WL_step rfl rfl (r_move rfl) ?_
      refine WL_split (d := 32) rfl (fun _h32 => ?_) (fun _h32 => ?_)
      · have _kb_30 := _h32
        have _h32 := bt_d _h32
        refine WL_step rfl rfl (r_move rfl) ?_
        refine WL_step rfl rfl (r_sIndex (by omega) un9 rfl rfl) ?_
        refine WL_step rfl rfl (r_eql rfl rfl) ?_
        refine WL_step rfl rfl (r_pickT rfl rfl) ?_
        refine WL_step rfl rfl (r_move rfl) ?_
        refine WL_split (d := 37) rfl (fun _h37 => ?_) (fun _h37 => ?_)
        · have _kb_31 := _h37
          have _h37 := bt_d _h37
          refine WL_step rfl rfl (r_move rfl) ?_
          refine WL_step rfl rfl (r_sIndex (by omega) un9 rfl rfl) ?_
          refine WL_step rfl rfl (r_eql rfl rfl) ?_
          refine WL_step rfl rfl (r_pickT rfl rfl) ?_
          refine WL_step rfl rfl (r_move rfl) ?_
          refine WL_split (d := 42) rfl (fun _h42 => ?_) (fun _h42 => ?_)
          · have _kb_32 := _h42
            have _h42 := bt_d _h42
            refine WL_step rfl rfl (r_move rfl) ?_
            refine WL_step rfl rfl (r_sIndex (by omega) un9 rfl rfl) ?_
            refine WL_step rfl rfl (r_eql rfl rfl) ?_
            refine WL_step rfl rfl (r_pickT rfl rfl) ?_
            refine WL_nil ?_
            refine thn_nrm (_hK_29 _ _ ?_)
            clear _hK_29
            refine W_cond rfl (fun _h46 => ?_) (fun _h46 => ?_)
            · have _kb_33 := _h46
              have _h46 := bt_d _h46
              refine W_seq fun _K_34 _hK_34 => ?_
              refine W_drawC [_b2] 10 mixed rfl fun _w_35 _cw_35 => ?_
              have _cw_35z := _cw_35.size
              have E := E.trans _cw_35
              refine DR_s 0 rfl (by kernel_rfl) rfl rfl (t_v (fun _ => (r_move rfl)) ?_)
              refine DR_s 1 rfl (by kernel_rfl) rfl rfl (t_v (fun _ => (r_sIndex (by omega) un9 rfl rfl)) ?_)
              refine DR_s 2 rfl (by kernel_rfl) rfl rfl (t_v (fun _ => (r_convert64 (bat_cv _ _) (by rw [un5]; rfl) un3 rfl)) ?_)
              refine DR_s 3 rfl (by kernel_rfl) rfl rfl (t_v (fun _ => (r_sub (by have _h8 := bat_rng s (Int.toNat 1); omega) rfl rfl)) ?_)
              refine DR_s 4 rfl (by kernel_rfl) rfl rfl (t_v (fun _ => (r_move rfl)) ?_)
              refine DR_s 5 rfl (by kernel_rfl) rfl rfl (t_v (fun _ => (r_sIndex (by omega) un9 rfl rfl)) ?_)
              refine DR_s 6 rfl (by kernel_rfl) rfl rfl (t_v (fun _ => (r_convert64 (bat_cv _ _) (by rw [un5]; rfl) un3 rfl)) ?_)
              refine DR_s 7 rfl (by kernel_rfl) rfl rfl (t_v (fun _ => (r_sub (by have _h8 := bat_rng s (Int.toNat 3); omega) rfl rfl)) ?_)
              refine DR_s 8 rfl (by kernel_rfl) rfl rfl (t_v (fun _ => (r_build (parts := [(0, .const (Go.Value.int Go.IntKind.i64 7)), (2, .tmp 50), (3, .tmp 54)]) (cells := [(.int .i64 7), (.int .i64 0), (.int .i64 ((bat s 1) - 48)), (.int .i64 ((bat s 3) - 48))]) zr126 pl126 rfl rfl)) ?_)
              refine DR_one 9 (by kernel_rfl) ?_
              refine DO_s rfl rfl rfl ?_
              have _f_36 := ((_F0_0.ch0 _cw_20).ch0 _cw_35)
              refine s_storeA (off := 0) 4 _f_36 sz126 rfl (us := [(.int .i64 7), (.int .i64 0), (.int .i64 ((bat s 1) - 48)), (.int .i64 ((bat s 3) - 48))]) rfl rfl rfl rfl fun _w_37 _m_38 _cw_37 => ?_
              have _cw_37z := _cw_37.size
              have E := E.step _cw_37 (fun i hi => .inl (by have _h1 := List.mem_singleton.1 hi; omega))
              replace _m_38 : Blk _w_37 _b2 126 [(.int .i64 7), (.int .i64 0), (.int .i64 ((bat s 1) - 48)), (.int .i64 ((bat s 3) - 48))] := _m_38
              have _S_39 : Ch [_b2] _w_35 _w_37 := ((Ch.refl _ _).step _cw_37 (fun i hm => by have _h0 := List.mem_singleton.1 hm; exact .inr (by rw [_h0]; exact (List.mem_singleton.2 rfl))))
              refine ⟨_S_39, ?_⟩
              refine DR_done (by kernel_rfl) ?_
              refine thn_nrm (_hK_34 _ _ ?_)
              clear _hK_34
              refine W_ret (thn_ret ?_)
              clear _hK_6 _hK_28
              exact ret_intro [_] (resOf_loadA _m_38 rfl agg126 sz126 trivial) ⟨(by have key : ∀ z : Token, z = rdT s → Value.agg (Token.cs z).toArray = Value.agg (Token.cs (rdT s)).toArray := (fun z h => by rw [h]); first | exact key _ (rdT_k hn (by omega) (by omega) (by omega) _h18) | exact key _ (rdT_l (rdK_end hn _h7 (by omega)) _h26) | exact key _ (rdT_r (rdK_end hn _h7 (by omega)) _h26 ⟨by omega, _h37, _h42, _h46⟩) | exact key _ (rdT_0 (rdK_end hn _h7 (by omega)) _h26 (fun c => by first | exact _h46 c.2.2.2 | exact _h42 c.2.2.1 | exact _h37 c.2.1 | omega))), E⟩
            · have _kb_33 := _h46
              have _h46 := bf_d _h46
              refine W_skip ?_
              refine thn_nrm (_hK_28 _ _ ?_)
              clear _hK_28
              refine W_seq fun _K_40 _hK_40 => ?_
              refine W_region ?_
              refine WL_step rfl rfl (r_build (parts := []) (cells := [(.int .i64 0), (.int .i64 0), (.int .i64 0), (.int .i64 0)]) zr126 pl126 rfl rfl) ?_
              refine WL_s rfl rfl ?_
              have _f_41 := (_F0_0.ch0 _cw_20)
              refine s_storeA (off := 0) 4 _f_41 sz126 rfl (us := [(.int .i64 0), (.int .i64 0), (.int .i64 0), (.int .i64 0)]) rfl rfl rfl rfl fun _w_42 _m_43 _cw_42 => ?_
              have _cw_42z := _cw_42.size
              have E := E.step _cw_42 (fun i hi => .inl (by have _h1 := List.mem_singleton.1 hi; omega))
              replace _m_43 : Blk _w_42 _b2 126 [(.int .i64 0), (.int .i64 0), (.int .i64 0), (.int .i64 0)] := _m_43
              refine WL_nil ?_
              refine thn_nrm (_hK_40 _ _ ?_)
              clear _hK_40
              refine W_ret ?_
              clear _hK_6
              exact ret_intro [_] (resOf_loadA _m_43 rfl agg126 sz126 trivial) ⟨(by have key : ∀ z : Token, z = rdT s → Value.agg (Token.cs z).toArray = Value.agg (Token.cs (rdT s)).toArray := (fun z h => by rw [h]); first | exact key _ (rdT_k hn (by omega) (by omega) (by omega) _h18) | exact key _ (rdT_l (rdK_end hn _h7 (by omega)) _h26) | exact key _ (rdT_r (rdK_end hn _h7 (by omega)) _h26 ⟨by omega, _h37, _h42, _h46⟩) | exact key _ (rdT_0 (rdK_end hn _h7 (by omega)) _h26 (fun c => by first | exact _h46 c.2.2.2 | exact _h42 c.2.2.1 | exact _h37 c.2.1 | omega))), E⟩
          · have _kb_32 := _h42
            have _h42 := bf_d _h42
            refine WL_skip rfl rfl ?_
            refine WL_skip rfl rfl ?_
            refine WL_skip rfl rfl ?_
            refine WL_step rfl rfl (r_pickF rfl rfl) ?_
            refine WL_nil ?_
            refine thn_nrm (_hK_29 _ _ ?_)
            clear _hK_29
            refine W_condF rfl ?_
            refine W_skip ?_
            refine thn_nrm (_hK_28 _ _ ?_)
            clear _hK_28
            refine W_seq fun _K_44 _hK_44 => ?_
            refine W_region ?_
            refine WL_step rfl rfl (r_build (parts := []) (cells := [(.int .i64 0), (.int .i64 0), (.int .i64 0), (.int .i64 0)]) zr126 pl126 rfl rfl) ?_
            refine WL_s rfl rfl ?_
            have _f_45 := (_F0_0.ch0 _cw_20)
            refine s_storeA (off := 0) 4 _f_45 sz126 rfl (us := [(.int .i64 0), (.int .i64 0), (.int .i64 0), (.int .i64 0)]) rfl rfl rfl rfl fun _w_46 _m_47 _cw_46 => ?_
            have _cw_46z := _cw_46.size
            have E := E.step _cw_46 (fun i hi => .inl (by have _h1 := List.mem_singleton.1 hi; omega))
            replace _m_47 : Blk _w_46 _b2 126 [(.int .i64 0), (.int .i64 0), (.int .i64 0), (.int .i64 0)] := _m_47
            refine WL_nil ?_
            refine thn_nrm (_hK_44 _ _ ?_)
            clear _hK_44
            refine W_ret ?_
            clear _hK_6
            exact ret_intro [_] (resOf_loadA _m_47 rfl agg126 sz126 trivial) ⟨(by have key : ∀ z : Token, z = rdT s → Value.agg (Token.cs z).toArray = Value.agg (Token.cs (rdT s)).toArray := (fun z h => by rw [h]); first | exact key _ (rdT_k hn (by omega) (by omega) (by omega) _h18) | exact key _ (rdT_l (rdK_end hn _h7 (by omega)) _h26) | exact key _ (rdT_r (rdK_end hn _h7 (by omega)) _h26 ⟨by omega, _h37, _h42, _h46⟩) | exact key _ (rdT_0 (rdK_end hn _h7 (by omega)) _h26 (fun c => by first | exact _h46 c.2.2.2 | exact _h42 c.2.2.1 | exact _h37 c.2.1 | omega))), E⟩
        · have _kb_31 := _h37
          have _h37 := bf_d _h37
          refine WL_skip rfl rfl ?_
          refine WL_skip rfl rfl ?_
          refine WL_skip rfl rfl ?_
          refine WL_step rfl rfl (r_pickF rfl rfl) ?_
          refine WL_step rfl rfl (r_move rfl) ?_
          refine WL_skip rfl rfl ?_
          refine WL_skip rfl rfl ?_
          refine WL_skip rfl rfl ?_
          refine WL_step rfl rfl (r_pickF rfl rfl) ?_
          refine WL_nil ?_
          refine thn_nrm (_hK_29 _ _ ?_)
          clear _hK_29
          refine W_condF rfl ?_
          refine W_skip ?_
          refine thn_nrm (_hK_28 _ _ ?_)
          clear _hK_28
          refine W_seq fun _K_48 _hK_48 => ?_
          refine W_region ?_
          refine WL_step rfl rfl (r_build (parts := []) (cells := [(.int .i64 0), (.int .i64 0), (.int .i64 0), (.int .i64 0)]) zr126 pl126 rfl rfl) ?_
          refine WL_s rfl rfl ?_
          have _f_49 := (_F0_0.ch0 _cw_20)
          refine s_storeA (off := 0) 4 _f_49 sz126 rfl (us := [(.int .i64 0), (.int .i64 0), (.int .i64 0), (.int .i64 0)]) rfl rfl rfl rfl fun _w_50 _m_51 _cw_50 => ?_
          have _cw_50z := _cw_50.size
          have E := E.step _cw_50 (fun i hi => .inl (by have _h1 := List.mem_singleton.1 hi; omega))
          replace _m_51 : Blk _w_50 _b2 126 [(.int .i64 0), (.int .i64 0), (.int .i64 0), (.int .i64 0)] := _m_51
          refine WL_nil ?_
          refine thn_nrm (_hK_48 _ _ ?_)
          clear _hK_48
          refine W_ret ?_
          clear _hK_6
          exact ret_intro [_] (resOf_loadA _m_51 rfl agg126 sz126 trivial) ⟨(by have key : ∀ z : Token, z = rdT s → Value.agg (Token.cs z).toArray = Value.agg (Token.cs (rdT s)).toArray := (fun z h => by rw [h]); first | exact key _ (rdT_k hn (by omega) (by omega) (by omega) _h18) | exact key _ (rdT_l (rdK_end hn _h7 (by omega)) _h26) | exact key _ (rdT_r (rdK_end hn _h7 (by omega)) _h26 ⟨by omega, _h37, _h42, _h46⟩) | exact key _ (rdT_0 (rdK_end hn _h7 (by omega)) _h26 (fun c => by first | exact _h46 c.2.2.2 | exact _h42 c.2.2.1 | exact _h37 c.2.1 | omega))), E⟩
      · have _kb_30 := _h32
        have _h32 := bf_d _h32
        refine WL_skip rfl rfl ?_
        refine WL_skip rfl rfl ?_
        refine WL_skip rfl rfl ?_
        refine WL_step rfl rfl (r_pickF rfl rfl) ?_
        refine WL_step rfl rfl (r_move rfl) ?_
        refine WL_skip rfl rfl ?_
        refine WL_skip rfl rfl ?_
        refine WL_skip rfl rfl ?_
        refine WL_step rfl rfl (r_pickF rfl rfl) ?_
        refine WL_step rfl rfl (r_move rfl) ?_
        refine WL_skip rfl rfl ?_
        refine WL_skip rfl rfl ?_
        refine WL_skip rfl rfl ?_
        refine WL_step rfl rfl (r_pickF rfl rfl) ?_
        refine WL_nil ?_
        refine thn_nrm (_hK_29 _ _ ?_)
        clear _hK_29
        refine W_condF rfl ?_
        refine W_skip ?_
        refine thn_nrm (_hK_28 _ _ ?_)
        clear _hK_28
        refine W_seq fun _K_52 _hK_52 => ?_
        refine W_region ?_
        refine WL_step rfl rfl (r_build (parts := []) (cells := [(.int .i64 0), (.int .i64 0), (.int .i64 0), (.int .i64 0)]) zr126 pl126 rfl rfl) ?_
        refine WL_s rfl rfl ?_
        have _f_53 := (_F0_0.ch0 _cw_20)
        refine s_storeA (off := 0) 4 _f_53 sz126 rfl (us := [(.int .i64 0), (.int .i64 0), (.int .i64 0), (.int .i64 0)]) rfl rfl rfl rfl fun _w_54 _m_55 _cw_54 => ?_
        have _cw_54z := _cw_54.size
        have E := E.step _cw_54 (fun i hi => .inl (by have _h1 := List.mem_singleton.1 hi; omega))
        replace _m_55 : Blk _w_54 _b2 126 [(.int .i64 0), (.int .i64 0), (.int .i64 0), (.int .i64 0)] := _m_55
        refine WL_nil ?_
        refine thn_nrm (_hK_52 _ _ ?_)
        clear _hK_52
        refine W_ret ?_
        clear _hK_6
        exact ret_intro [_] (resOf_loadA _m_55 rfl agg126 sz126 trivial) ⟨(by have key : ∀ z : Token, z = rdT s → Value.agg (Token.cs z).toArray = Value.agg (Token.cs (rdT s)).toArray := (fun z h => by rw [h]); first | exact key _ (rdT_k hn (by omega) (by omega) (by omega) _h18) | exact key _ (rdT_l (rdK_end hn _h7 (by omega)) _h26) | exact key _ (rdT_r (rdK_end hn _h7 (by omega)) _h26 ⟨by omega, _h37, _h42, _h46⟩) | exact key _ (rdT_0 (rdK_end hn _h7 (by omega)) _h26 (fun c => by first | exact _h46 c.2.2.2 | exact _h42 c.2.2.1 | exact _h37 c.2.1 | omega))), E⟩

/-- spec.ParseExpr -/
theorem c_spec_ParseExpr {w : World} (s : List UInt8) (hb : s.length ≤ 4194304) :
    Ctr Try.prog 215 #[(bst s)] w (fun v w' => ∃ (u0x0 : Value), v = .tuple #[.agg #[u0x0], .bool ((parS s).2)] ∧ Ol Token.cs 126 4 w' u0x0 ((parS s).1) ∧ Lo w.heap.size u0x0 ∧ Ch [] w w') := by
  have E := Ch.refl [] w
  have cl9 := cutR_len s 32 []
  refine Ctr_of_W (N := 35) (vs0 := [(bst s)]) Try.func215 rfl rfl rfl ?_
  refine W_seq fun _K_1 _hK_1 => ?_
  refine W_region ?_
  refine WL_s rfl rfl ?_
  refine s_alloc zr67 fun _b2 _w_2 _m2 _cw_2 _e2 => ?_
  have _cw_2z := _cw_2.size
  have E := E.trans _cw_2
  have _z2 := _m2.lt
  replace _m2 : Blk _w_2 _b2 67 [(.slice none 0 0)] := _m2
  refine WL_step rfl rfl (r_assign rfl) ?_
  refine WL_nil ?_
  refine thn_nrm (_hK_1 _ _ ?_)
  clear _hK_1
  refine W_seq fun _K_3 _hK_3 => ?_
  refine W_region ?_
  refine WL_step rfl rfl (r_build (parts := []) (cells := [(.slice none 0 0)]) zr67 pl67 rfl rfl) ?_
  refine WL_s rfl rfl ?_
  refine s_alloc zr67 fun _b4 _w_4 _m4 _cw_4 _e4 => ?_
  have _cw_4z := _cw_4.size
  have E := E.trans _cw_4
  have _z4 := _m4.lt
  replace _m4 : Blk _w_4 _b4 67 [(.slice none 0 0)] := _m4
  refine WL_s rfl rfl ?_
  refine s_storeA (off := 0) 1 _m4 sz67 rfl (us := [(.slice none 0 0)]) rfl rfl rfl rfl fun _w_5 _m_6 _cw_5 => ?_
  have _cw_5z := _cw_5.size
  have E := E.step _cw_5 (fun i hi => .inl (by have _h1 := List.mem_singleton.1 hi; omega))
  replace _m_6 : Blk _w_5 _b4 67 [(.slice none 0 0)] := _m_6
  refine WL_nil ?_
  refine thn_nrm (_hK_3 _ _ ?_)
  clear _hK_3
  refine W_seq fun _K_7 _hK_7 => ?_
  refine W_region ?_
  refine WL_step rfl rfl (r_move rfl) ?_
  refine WL_s rfl rfl ?_
  refine Step.call (r_call (xs := [.tmp 8, .const (Go.Value.int Go.IntKind.u8 32)]) fk220 rfl) (c_spec_l2Cut s _ (by omega)) fun _v9 _w_8 _q9 => ?_
  obtain ⟨_q9, _lo9, _cw_8⟩ := _q9
  have _cw_8z := _cw_8.size
  have E := E.trans _cw_8
  obtain ⟨_Av9, _Cv9, _ev9⟩ := _q9.val
  subst _ev9
  have _lv9 := _q9.len
  have _hiv9 := _q9.lt
  have lsr9 := Ol.lsR _q9 (lo := _w_5.heap.size) (hi := _w_8.heap.size) _lo9 _hiv9
  refine WL_step rfl rfl (r_assign rfl) ?_
  refine WL_nil ?_
  refine thn_nrm (_hK_7 _ _ ?_)
  clear _hK_7
  refine W_seq fun _K_9 _hK_9 => ?_
  refine W_seq fun _K_10 _hK_10 => ?_
  refine W_region ?_
  refine WL_step rfl rfl (r_assign rfl) ?_
  refine WL_nil ?_
  refine thn_nrm (_hK_10 _ _ ?_)
  clear _hK_10
  refine W_block ?_
  have _oi_11 : Ol Token.cs 126 4 _w_8 (.slice none 0 0) (((cutR s 32 []).take 0).map rdT) := by
    have hx := (Ol.nil (cs := Token.cs) (e := 126) (k := 4) _w_8)
    simpa using hx
  have _f_12 := (_m_6.ch0 _cw_8)
  have _f_13 := (((_m2.ch0 _cw_4).ch _cw_5 (fun hm => by have _h1 := List.mem_singleton.1 hm; omega)).ch0 _cw_8)
  refine W_loop (σ := Nat × Value) (fun ⟨i, tv⟩ => [(2, (.pointer (some ⟨_b2, 0, none⟩))), (3, (.bool false)), (4, (.pointer (some ⟨_b4, 0, none⟩))), (5, (.slice _Av9 (cutR s 32 []).length _Cv9)), (6, (.int .i64 ((i : Nat) : Int)))]) (fun ⟨i, tv⟩ wx => Ch [] w wx ∧ _w_8.heap.size ≤ wx.heap.size ∧ (i ≤ (cutR s 32 []).length ∧ i ≤ 25) ∧ Blk wx _b2 67 [(.slice none 0 0)] ∧ Ls scs 1 wx _w_5.heap.size _w_8.heap.size (.slice _Av9 (cutR s 32 []).length _Cv9) (cutR s 32 []) ∧ Ol Token.cs 126 4 wx tv (((cutR s 32 []).take i).map rdT) ∧ Lo _w_8.heap.size tv ∧ Blk wx _b4 67 [tv] ∧ (_b4 ∉ bl tv)) (fun ⟨i, tv⟩ => (cutR s 32 []).length - i) (0, (.slice none 0 0)) (Sub.cons rfl (Sub.cons rfl (Sub.cons rfl (Sub.cons rfl (Sub.cons rfl (Sub.nil _)))))) ⟨E, (Nat.le_refl _), (by omega), _f_13, lsr9, _oi_11, (Lo.nil _), _f_12, (fun hm => by cases hm)⟩ ?_
  rintro ⟨i, tv⟩ _wr_14 ⟨E, _zz0, hi, _F0_0, _F0_1, _o0_4, _lo0_4, _m0_4, _nb0_4⟩
  have _E0h := E
  have _E0hz := _E0h.size
  have _F0_0z := _F0_0.lt
  obtain ⟨Atv, Ctv, etv⟩ := _o0_4.val
  subst etv
  have ltv := _o0_4.len
  have _hitv := _o0_4.lt
  refine W_seq fun _K_15 _hK_15 => ?_
  refine W_seq fun _K_16 _hK_16 => ?_
  refine W_region ?_
  refine WL_step rfl rfl (r_move rfl) ?_
  refine WL_step rfl rfl (r_move rfl) ?_
  refine WL_step rfl rfl (r_len (by rw [el224]; rfl) rfl) ?_
  refine WL_step rfl rfl (r_lss rfl rfl) ?_
  refine WL_step rfl rfl (r_move rfl) ?_
  refine WL_split (d := 14) rfl (fun _h14 => ?_) (fun _h14 => ?_)
  · have _kb_17 := _h14
    have _h14 := bt_d _h14
    refine WL_step rfl rfl (r_move rfl) ?_
    refine WL_step rfl rfl (r_leq rfl rfl) ?_
    refine WL_step rfl rfl (r_pickT rfl rfl) ?_
    refine WL_nil ?_
    refine thn_nrm (_hK_16 _ _ ?_)
    clear _hK_16
    refine W_cond rfl (fun _h17 => ?_) (fun _h17 => ?_)
    · have _kb_18 := _h17
      have _h17 := bt_d _h17
      refine W_skip ?_
      refine thn_nrm (_hK_15 _ _ ?_)
      clear _hK_15
      refine W_seq fun _K_19 _hK_19 => ?_
      refine W_block ?_
      refine W_drawC ((bl (.slice Atv (((cutR s 32 []).take i).map rdT).length Ctv)) ++ [_b4]) 11 mixed rfl fun _w_20 _cw_20 => ?_
      have _cw_20z := _cw_20.size
      have E := E.trans _cw_20
      refine DR_s 0 rfl (by kernel_rfl) rfl rfl (t_v (fun _ => (r_fieldAddr fa67_0 rfl)) ?_)
      refine DR_s 2 rfl (by kernel_rfl) rfl rfl (t_v (fun _ => (r_move rfl)) ?_)
      refine DR_s 3 rfl (by kernel_rfl) rfl rfl (t_v (fun _ => (r_move rfl)) ?_)
      have _f_21 := (_F0_1.ch0 _cw_20)
      refine DR_s 4 rfl (by kernel_rfl) rfl rfl (t_index _f_21 scs_len el224 sz9 rfl rfl rfl (by omega) fun _p24 _y24 _hy24 _a24 => ?_)
      refine DR_s 5 rfl (by kernel_rfl) rfl rfl (t_loadAt0 _a24 (fun i hm => by rcases List.mem_append.1 hm with hm | hm; (have _h1 := _lo0_4 _ hm; have _h2 := _hitv _ hm; omega); (have _h1 := List.mem_singleton.1 hm; omega)) agg9 rfl rfl ?_)
      refine DR_two 1 6 (by kernel_rfl) ?_ ?_
      · refine DO_s rfl rfl rfl ?_
        have _f_22 := (_m0_4.ch0 _cw_20)
        refine s_v (r_loadAt _f_22.at_ agg65 rfl rfl) ?_
        refine ⟨(Ch.refl _ _), ?_⟩
        refine DR_one 6 (by kernel_rfl) ?_
        refine DO_s rfl rfl rfl ?_
        refine Step.call (r_call (xs := [.tmp 25]) fk221 rfl) (c_spec_l8Read _y24 ) fun _v26 _w_23 _q26 => ?_
        obtain ⟨rfl, _cw_23⟩ := _q26
        have _cw_23z := _cw_23.size
        have E := E.trans _cw_23
        have _S_24 : Ch ((bl (.slice Atv (((cutR s 32 []).take i).map rdT).length Ctv)) ++ [_b4]) _w_20 _w_23 := ((Ch.refl _ _).trans _cw_23.of_nil)
        refine ⟨_S_24, ?_⟩
        refine DR_one 7 (by kernel_rfl) ?_
        refine DO_s rfl rfl rfl ?_
        refine s_buildSlice (cs := Token.cs) (parts := [(0, .tmp 26)]) (⟨0, 0, 0, 0⟩ : Token) [(rdT _y24)] el65 sz126 zr126 Token.len (by decide) rfl rfl rfl (by decide) (by decide) rfl fun _v27 _w_25 _q27 _lo27 _cw_25 => ?_
        have _cw_25z := _cw_25.size
        have E := E.trans _cw_25
        obtain ⟨_Av27, _Cv27, _ev27⟩ := _q27.val
        subst _ev27
        have _lv27 := _q27.len
        have _hiv27 := _q27.lt
        have _S_26 : Ch ((bl (.slice Atv (((cutR s 32 []).take i).map rdT).length Ctv)) ++ [_b4]) _w_20 _w_25 := (_S_24.trans _cw_25.of_nil)
        refine ⟨_S_26, ?_⟩
        refine DR_one 8 (by kernel_rfl) ?_
        refine DO_s rfl rfl rfl ?_
        have _f_28 := (((_o0_4.ch0 _cw_20).ch0 _cw_23).ch0 _cw_25)
        refine s_append (cs := Token.cs) el65 sz126 by126 zr126 rfl (by decide) Token.one _f_28 _q27.ls rfl rfl (by first | omega | (simp only [List.length_append, List.length_nil, List.length_cons, List.length_replicate, List.length_set, List.length_reverse, List.length_map] at *; omega) | (simp at *; omega)) (by first | omega | (simp only [List.length_append, List.length_nil, List.length_cons, List.length_replicate, List.length_set, List.length_reverse, List.length_map] at *; omega) | (simp at *; omega)) _lo0_4 (by omega) fun _v28 _w_27 _q28 _lo28 _ap28 _cw_27 => ?_
        have _cw_27z := _cw_27.size
        have E := E.step _cw_27 (fun i hi => .inl (by have _h1 := _lo0_4 _ hi; omega))
        obtain ⟨_Av28, _Cv28, _ev28⟩ := _q28.val
        subst _ev28
        have _lv28 := _q28.len
        have _hiv28 := _q28.lt
        have _S_29 : Ch ((bl (.slice Atv (((cutR s 32 []).take i).map rdT).length Ctv)) ++ [_b4]) _w_20 _w_27 := (_S_26.step _cw_27 (fun i hm => by exact .inr (List.mem_append_left _ hm)))
        refine ⟨_S_29, ?_⟩
        refine DR_s 9 rfl (by kernel_rfl) rfl rfl (t_v (fun _ => (r_fieldAddr fa67_0 rfl)) ?_)
        refine DR_one 10 (by kernel_rfl) ?_
        refine DO_s rfl rfl rfl ?_
        have _f_30 := (((_f_22.ch0 _cw_23).ch0 _cw_25).ch _cw_27 (fun hm => by exact _nb0_4 (by first | exact hm | exact _h0 ▸ hm)))
        refine s_store1 (off := 0) _f_30 sz65 rfl rfl rfl rfl fun _w_31 _m_32 _cw_31 => ?_
        have _cw_31z := _cw_31.size
        have E := E.step _cw_31 (fun i hi => .inl (by have _h1 := List.mem_singleton.1 hi; omega))
        replace _m_32 : Blk _w_31 _b4 67 [(.slice _Av28 ((((cutR s 32 []).take i).map rdT ++ [(rdT _y24)])).length _Cv28)] := _m_32
        have _S_33 : Ch ((bl (.slice Atv (((cutR s 32 []).take i).map rdT).length Ctv)) ++ [_b4]) _w_20 _w_31 := (_S_29.step _cw_31 (fun i hm => by have _h0 := List.mem_singleton.1 hm; exact .inr (by rw [_h0]; exact (List.mem_append_right _ (List.mem_singleton.2 rfl)))))
        refine ⟨_S_33, ?_⟩
        refine DR_done (by kernel_rfl) ?_
        refine inB_nrm ?_
        refine thn_nrm (_hK_19 _ _ ?_)
        clear _hK_19
        refine W_region ?_
        refine WL_step rfl rfl (r_move rfl) ?_
        refine WL_step rfl rfl (r_add (by omega) rfl rfl) ?_
        refine WL_step rfl rfl (r_assign rfl) ?_
        refine WL_nil ?_
        have _f_35 := (_q28.ch _cw_31 (fun g hg hm => by have _h0 := List.mem_singleton.1 hm; rcases _ap28 with ea | ea; (rw [ea] at hg; exact _nb0_4 (by first | exact hg | exact _h0 ▸ hg)); (rw [ea] at hg; have _z1 := List.mem_singleton.1 hg; omega)))
        have _on_34 : Ol Token.cs 126 4 _w_31 (.slice _Av28 ((((cutR s 32 []).take i).map rdT ++ [(rdT _y24)])).length _Cv28) (((cutR s 32 []).take (i + 1)).map rdT) := by
          have hx := _f_35
          exact hx.eq (map_take_step _hy24)
        have _f_36 := (((((_F0_0.ch0 _cw_20).ch0 _cw_23).ch0 _cw_25).ch _cw_27 (fun hm => by have _h1 := _lo0_4 _ hm; have _h2 := _hitv _ hm; omega)).ch _cw_31 (fun hm => by have _h1 := List.mem_singleton.1 hm; omega))
        have _f_37 := ((((_f_21.ch0 _cw_23).ch0 _cw_25).ch _cw_27 (fun i hi => by have _h1 := _lo0_4 _ hi; omega)).ch _cw_31 (fun i hi => by have _h1 := List.mem_singleton.1 hi; omega))
        exact thn_nrm (Exists.intro ((i + 1), (.slice _Av28 ((((cutR s 32 []).take i).map rdT ++ [(rdT _y24)])).length _Cv28)) ⟨⟨E, (by omega), (by omega), _f_36, _f_37, _on_34, (Lo.down _lo28 (by omega)), _m_32, (fun hm => by rcases _ap28 with ea | ea; (rw [ea] at hm; exact _nb0_4 (by first | exact hm | exact _h0 ▸ hm)); (rw [ea] at hm; have _z1 := List.mem_singleton.1 hm; omega))⟩, Sub.cons rfl (Sub.cons rfl (Sub.cons rfl (Sub.cons rfl (Sub.cons rfl (Sub.nil _))))), (by first | omega | (dsimp only; omega))⟩)
      · refine DO_s rfl rfl rfl ?_
        refine Step.call (r_call (xs := [.tmp 25]) fk221 rfl) (c_spec_l8Read _y24 ) fun _v26 _w_38 _q26 => ?_
        obtain ⟨rfl, _cw_38⟩ := _q26
        have _cw_38z := _cw_38.size
        have E := E.trans _cw_38
        have _S_39 : Ch ((bl (.slice Atv (((cutR s 32 []).take i).map rdT).length Ctv)) ++ [_b4]) _w_20 _w_38 := ((Ch.refl _ _).trans _cw_38.of_nil)
        refine ⟨_S_39, ?_⟩
        refine DR_two 1 7 (by kernel_rfl) ?_ ?_
        · refine DO_s rfl rfl rfl ?_
          have _f_40 := ((_m0_4.ch0 _cw_20).ch0 _cw_38)
          refine s_v (r_loadAt _f_40.at_ agg65 rfl rfl) ?_
          refine ⟨_S_39, ?_⟩
          refine DR_one 7 (by kernel_rfl) ?_
          refine DO_s rfl rfl rfl ?_
          refine s_buildSlice (cs := Token.cs) (parts := [(0, .tmp 26)]) (⟨0, 0, 0, 0⟩ : Token) [(rdT _y24)] el65 sz126 zr126 Token.len (by decide) rfl rfl rfl (by decide) (by decide) rfl fun _v27 _w_41 _q27 _lo27 _cw_41 => ?_
          have _cw_41z := _cw_41.size
          have E := E.trans _cw_41
          obtain ⟨_Av27, _Cv27, _ev27⟩ := _q27.val
          subst _ev27
          have _lv27 := _q27.len
          have _hiv27 := _q27.lt
          have _S_42 : Ch ((bl (.slice Atv (((cutR s 32 []).take i).map rdT).length Ctv)) ++ [_b4]) _w_20 _w_41 := (_S_39.trans _cw_41.of_nil)
          refine ⟨_S_42, ?_⟩
          refine DR_one 8 (by kernel_rfl) ?_
          refine DO_s rfl rfl rfl ?_
          have _f_44 := (((_o0_4.ch0 _cw_20).ch0 _cw_38).ch0 _cw_41)
          refine s_append (cs := Token.cs) el65 sz126 by126 zr126 rfl (by decide) Token.one _f_44 _q27.ls rfl rfl (by first | omega | (simp only [List.length_append, List.length_nil, List.length_cons, List.length_replicate, List.length_set, List.length_reverse, List.length_map] at *; omega) | (simp at *; omega)) (by first | omega | (simp only [List.length_append, List.length_nil, List.length_cons, List.length_replicate, List.length_set, List.length_reverse, List.length_map] at *; omega) | (simp at *; omega)) _lo0_4 (by omega) fun _v28 _w_43 _q28 _lo28 _ap28 _cw_43 => ?_
          have _cw_43z := _cw_43.size
          have E := E.step _cw_43 (fun i hi => .inl (by have _h1 := _lo0_4 _ hi; omega))
          obtain ⟨_Av28, _Cv28, _ev28⟩ := _q28.val
          subst _ev28
          have _lv28 := _q28.len
          have _hiv28 := _q28.lt
          have _S_45 : Ch ((bl (.slice Atv (((cutR s 32 []).take i).map rdT).length Ctv)) ++ [_b4]) _w_20 _w_43 := (_S_42.step _cw_43 (fun i hm => by exact .inr (List.mem_append_left _ hm)))
          refine ⟨_S_45, ?_⟩
          refine DR_s 9 rfl (by kernel_rfl) rfl rfl (t_v (fun _ => (r_fieldAddr fa67_0 rfl)) ?_)
          refine DR_one 10 (by kernel_rfl) ?_
          refine DO_s rfl rfl rfl ?_
          have _f_46 := ((_f_40.ch0 _cw_41).ch _cw_43 (fun hm => by exact _nb0_4 (by first | exact hm | exact _h0 ▸ hm)))
          refine s_store1 (off := 0) _f_46 sz65 rfl rfl rfl rfl fun _w_47 _m_48 _cw_47 => ?_
          have _cw_47z := _cw_47.size
          have E := E.step _cw_47 (fun i hi => .inl (by have _h1 := List.mem_singleton.1 hi; omega))
          replace _m_48 : Blk _w_47 _b4 67 [(.slice _Av28 ((((cutR s 32 []).take i).map rdT ++ [(rdT _y24)])).length _Cv28)] := _m_48
          have _S_49 : Ch ((bl (.slice Atv (((cutR s 32 []).take i).map rdT).length Ctv)) ++ [_b4]) _w_20 _w_47 := (_S_45.step _cw_47 (fun i hm => by have _h0 := List.mem_singleton.1 hm; exact .inr (by rw [_h0]; exact (List.mem_append_right _ (List.mem_singleton.2 rfl)))))
          refine ⟨_S_49, ?_⟩
          refine DR_done (by kernel_rfl) ?_
          refine inB_nrm ?_
          refine thn_nrm (_hK_19 _ _ ?_)
          clear _hK_19
          refine W_region ?_
          refine WL_step rfl rfl (r_move rfl) ?_
          refine WL_step rfl rfl (r_add (by omega) rfl rfl) ?_
          refine WL_step rfl rfl (r_assign rfl) ?_
          refine WL_nil ?_
          have _f_51 := (_q28.ch _cw_47 (fun g hg hm => by have _h0 := List.mem_singleton.1 hm; rcases _ap28 with ea | ea; (rw [ea] at hg; exact _nb0_4 (by first | exact hg | exact _h0 ▸ hg)); (rw [ea] at hg; have _z1 := List.mem_singleton.1 hg; omega)))
          have _on_50 : Ol Token.cs 126 4 _w_47 (.slice _Av28 ((((cutR s 32 []).take i).map rdT ++ [(rdT _y24)])).length _Cv28) (((cutR s 32 []).take (i + 1)).map rdT) := by
            have hx := _f_51
            exact hx.eq (map_take_step _hy24)
          have _f_52 := (((((_F0_0.ch0 _cw_20).ch0 _cw_38).ch0 _cw_41).ch _cw_43 (fun hm => by have _h1 := _lo0_4 _ hm; have _h2 := _hitv _ hm; omega)).ch _cw_47 (fun hm => by have _h1 := List.mem_singleton.1 hm; omega))
          have _f_53 := ((((_f_21.ch0 _cw_38).ch0 _cw_41).ch _cw_43 (fun i hi => by have _h1 := _lo0_4 _ hi; omega)).ch _cw_47 (fun i hi => by have _h1 := List.mem_singleton.1 hi; omega))
          exact thn_nrm (Exists.intro ((i + 1), (.slice _Av28 ((((cutR s 32 []).take i).map rdT ++ [(rdT _y24)])).length _Cv28)) ⟨⟨E, (by omega), (by omega), _f_52, _f_53, _on_50, (Lo.down _lo28 (by omega)), _m_48, (fun hm => by rcases _ap28 with ea | ea; (rw [ea] at hm; exact _nb0_4 (by first | exact hm | exact _h0 ▸ hm)); (rw [ea] at hm; have _z1 := List.mem_singleton.1 hm; omega))⟩, Sub.cons rfl (Sub.cons rfl (Sub.cons rfl (Sub.cons rfl (Sub.cons rfl (Sub.nil _))))), (by first | omega | (dsimp only; omega))⟩)
        · refine DO_s rfl rfl rfl ?_
          refine s_buildSlice (cs := Token.cs) (parts := [(0, .tmp 26)]) (⟨0, 0, 0, 0⟩ : Token) [(rdT _y24)] el65 sz126 zr126 Token.len (by decide) rfl rfl rfl (by decide) (by decide) rfl fun _v27 _w_54 _q27 _lo27 _cw_54 => ?_
          have _cw_54z := _cw_54.size
          have E := E.trans _cw_54
          obtain ⟨_Av27, _Cv27, _ev27⟩ := _q27.val
          subst _ev27
          have _lv27 := _q27.len
          have _hiv27 := _q27.lt
          have _S_55 : Ch ((bl (.slice Atv (((cutR s 32 []).take i).map rdT).length Ctv)) ++ [_b4]) _w_20 _w_54 := (_S_39.trans _cw_54.of_nil)
          refine ⟨_S_55, ?_⟩
          refine DR_one 1 (by kernel_rfl) ?_
          refine DO_s rfl rfl rfl ?_
          have _f_56 := (((_m0_4.ch0 _cw_20).ch0 _cw_38).ch0 _cw_54)
          refine s_v (r_loadAt _f_56.at_ agg65 rfl rfl) ?_
          refine ⟨_S_55, ?_⟩
          refine DR_one 8 (by kernel_rfl) ?_
          refine DO_s rfl rfl rfl ?_
          have _f_58 := (((_o0_4.ch0 _cw_20).ch0 _cw_38).ch0 _cw_54)
          refine s_append (cs := Token.cs) el65 sz126 by126 zr126 rfl (by decide) Token.one _f_58 _q27.ls rfl rfl (by first | omega | (simp only [List.length_append, List.length_nil, List.length_cons, List.length_replicate, List.length_set, List.length_reverse, List.length_map] at *; omega) | (simp at *; omega)) (by first | omega | (simp only [List.length_append, List.length_nil, List.length_cons, List.length_replicate, List.length_set, List.length_reverse, List.length_map] at *; omega) | (simp at *; omega)) _lo0_4 (by omega) fun _v28 _w_57 _q28 _lo28 _ap28 _cw_57 => ?_
          have _cw_57z := _cw_57.size
          have E := E.step _cw_57 (fun i hi => .inl (by have _h1 := _lo0_4 _ hi; omega))
          obtain ⟨_Av28, _Cv28, _ev28⟩ := _q28.val
          subst _ev28
          have _lv28 := _q28.len
          have _hiv28 := _q28.lt
          have _S_59 : Ch ((bl (.slice Atv (((cutR s 32 []).take i).map rdT).length Ctv)) ++ [_b4]) _w_20 _w_57 := (_S_55.step _cw_57 (fun i hm => by exact .inr (List.mem_append_left _ hm)))
          refine ⟨_S_59, ?_⟩
          refine DR_s 9 rfl (by kernel_rfl) rfl rfl (t_v (fun _ => (r_fieldAddr fa67_0 rfl)) ?_)
          refine DR_one 10 (by kernel_rfl) ?_
          refine DO_s rfl rfl rfl ?_
          have _f_60 := (_f_56.ch _cw_57 (fun hm => by exact _nb0_4 (by first | exact hm | exact _h0 ▸ hm)))
          refine s_store1 (off := 0) _f_60 sz65 rfl rfl rfl rfl fun _w_61 _m_62 _cw_61 => ?_
          have _cw_61z := _cw_61.size
          have E := E.step _cw_61 (fun i hi => .inl (by have _h1 := List.mem_singleton.1 hi; omega))
          replace _m_62 : Blk _w_61 _b4 67 [(.slice _Av28 ((((cutR s 32 []).take i).map rdT ++ [(rdT _y24)])).length _Cv28)] := _m_62
          have _S_63 : Ch ((bl (.slice Atv (((cutR s 32 []).take i).map rdT).length Ctv)) ++ [_b4]) _w_20 _w_61 := (_S_59.step _cw_61 (fun i hm => by have _h0 := List.mem_singleton.1 hm; exact .inr (by rw [_h0]; exact (List.mem_append_right _ (List.mem_singleton.2 rfl)))))
          refine ⟨_S_63, ?_⟩
          refine DR_done (by kernel_rfl) ?_
          refine inB_nrm ?_
          refine thn_nrm (_hK_19 _ _ ?_)
          clear _hK_19
          refine W_region ?_
          refine WL_step rfl rfl (r_move rfl) ?_
          refine WL_step rfl rfl (r_add (by omega) rfl rfl) ?_
          refine WL_step rfl rfl (r_assign rfl) ?_
          refine WL_nil ?_
          have _f_65 := (_q28.ch _cw_61 (fun g hg hm => by have _h0 := List.mem_singleton.1 hm; rcases _ap28 with ea | ea; (rw [ea] at hg; exact _nb0_4 (by first | exact hg | exact _h0 ▸ hg)); (rw [ea] at hg; have _z1 := List.mem_singleton.1 hg; omega)))
          have _on_64 : Ol Token.cs 126 4 _w_61 (.slice _Av28 ((((cutR s 32 []).take i).map rdT ++ [(rdT _y24)])).length _Cv28) (((cutR s 32 []).take (i + 1)).map rdT) := by
            have hx := _f_65
            exact hx.eq (map_take_step _hy24)
          have _f_66 := (((((_F0_0.ch0 _cw_20).ch0 _cw_38).ch0 _cw_54).ch _cw_57 (fun hm => by have _h1 := _lo0_4 _ hm; have _h2 := _hitv _ hm; omega)).ch _cw_61 (fun hm => by have _h1 := List.mem_singleton.1 hm; omega))
          have _f_67 := ((((_f_21.ch0 _cw_38).ch0 _cw_54).ch _cw_57 (fun i hi => by have _h1 := _lo0_4 _ hi; omega)).ch _cw_61 (fun i hi => by have _h1 := List.mem_singleton.1 hi; omega))
          exact thn_nrm (Exists.intro ((i + 1), (.slice _Av28 ((((cutR s 32 []).take i).map rdT ++ [(rdT _y24)])).length _Cv28)) ⟨⟨E, (by omega), (by omega), _f_66, _f_67, _on_64, (Lo.down _lo28 (by omega)), _m_62, (fun hm => by rcases _ap28 with ea | ea; (rw [ea] at hm; exact _nb0_4 (by first | exact hm | exact _h0 ▸ hm)); (rw [ea] at hm; have _z1 := List.mem_singleton.1 hm; omega))⟩, Sub.cons rfl (Sub.cons rfl (Sub.cons rfl (Sub.cons rfl (Sub.cons rfl (Sub.nil _))))), (by first | omega | (dsimp only; omega))⟩)
    · have _kb_18 := _h17
      have _h17 := bf_d _h17
      refine W_exit (thn_exit (thn_exit (inB_hit ?_)))
      refine thn_nrm (_hK_9 _ _ ?_)
      clear _hK_9
      refine W_seq fun _K_68 _hK_68 => ?_
      refine W_seq fun _K_69 _hK_69 => ?_
      refine W_region ?_
      refine WL_step rfl rfl (r_loadAtA0 _m0_4.at_ agg67 sz67 rfl) ?_
      refine WL_s rfl rfl ?_
      refine Step.call (r_call (xs := [.tmp 30]) fk52 rfl) (c_spec_IsValidExpr _o0_4.ls ) fun _v31 _w_70 _q31 => ?_
      obtain ⟨rfl, _cw_70⟩ := _q31
      have _cw_70z := _cw_70.size
      have E := E.trans _cw_70
      refine WL_step rfl rfl (r_not rfl) ?_
      refine WL_nil ?_
      refine thn_nrm (_hK_69 _ _ ?_)
      clear _hK_69
      refine W_cond rfl (fun _h32 => ?_) (fun _h32 => ?_)
      · have _kb_71 := _h32
        have _h32 := bt_n _h32
        refine W_seq fun _K_72 _hK_72 => ?_
        refine W_region ?_
        refine WL_step rfl rfl (r_build (parts := []) (cells := [(.slice none 0 0)]) zr67 pl67 rfl rfl) ?_
        refine WL_s rfl rfl ?_
        have _f_73 := (_F0_0.ch0 _cw_70)
        refine s_storeA (off := 0) 1 _f_73 sz67 rfl (us := [(.slice none 0 0)]) rfl rfl rfl rfl fun _w_74 _m_75 _cw_74 => ?_
        have _cw_74z := _cw_74.size
        have E := E.step _cw_74 (fun i hi => .inl (by have _h1 := List.mem_singleton.1 hi; omega))
        replace _m_75 : Blk _w_74 _b2 67 [(.slice none 0 0)] := _m_75
        refine WL_step rfl rfl (r_assign rfl) ?_
        refine WL_nil ?_
        refine thn_nrm (_hK_72 _ _ ?_)
        clear _hK_72
        refine W_ret (thn_ret ?_)
        clear _hK_15 _hK_68
        have _o_76 : Ol Token.cs 126 4 _w_74 (.slice none 0 0) ((parS s).1) := by
          have hx := (Ol.nil (cs := Token.cs) (e := 126) (k := 4) _w_74)
          first | (rw [parS_n (congrArg (List.map rdT) (take_stop (by omega) (by omega))) _h32]; exact hx) | (rw [parS_y (congrArg (List.map rdT) (take_stop (by omega) (by omega))) _h32]; exact hx)
        exact ret_intro [_, _] (resOf_loadA _m_75 rfl agg67 sz67 ⟨rfl, trivial⟩) ⟨(.slice none 0 0), (congrArg (fun zq => (Value.tuple #[.agg #[(.slice none 0 0)], .bool zq])) (by first | rw [parS_n (congrArg (List.map rdT) (take_stop (by omega) (by omega))) _h32] | rw [parS_y (congrArg (List.map rdT) (take_stop (by omega) (by omega))) _h32])), _o_76, (Lo.nil _), E⟩
      · have _kb_71 := _h32
        have _h32 := bf_n _h32
        refine W_skip ?_
        refine thn_nrm (_hK_68 _ _ ?_)
        clear _hK_68
        refine W_seq fun _K_77 _hK_77 => ?_
        refine W_region ?_
        have _f_78 := (_m0_4.ch0 _cw_70)
        refine WL_step rfl rfl (r_loadAtA0 _f_78.at_ agg67 sz67 rfl) ?_
        refine WL_s rfl rfl ?_
        have _f_79 := (_F0_0.ch0 _cw_70)
        refine s_storeA (off := 0) 1 _f_79 sz67 rfl (us := [(.slice Atv (((cutR s 32 []).take i).map rdT).length Ctv)]) rfl rfl rfl rfl fun _w_80 _m_81 _cw_80 => ?_
        have _cw_80z := _cw_80.size
        have E := E.step _cw_80 (fun i hi => .inl (by have _h1 := List.mem_singleton.1 hi; omega))
        replace _m_81 : Blk _w_80 _b2 67 [(.slice Atv (((cutR s 32 []).take i).map rdT).length Ctv)] := _m_81
        refine WL_step rfl rfl (r_assign rfl) ?_
        refine WL_nil ?_
        refine thn_nrm (_hK_77 _ _ ?_)
        clear _hK_77
        refine W_ret ?_
        clear _hK_15
        have _f_82 := ((_o0_4.ch0 _cw_70).ch _cw_80 (fun g hg hm => by have _h0 := List.mem_singleton.1 hm; have _h2 := _lo0_4 _ hg; have _h3 := _hitv _ hg; omega))
        have _o_83 : Ol Token.cs 126 4 _w_80 (.slice Atv (((cutR s 32 []).take i).map rdT).length Ctv) ((parS s).1) := by
          have hx := _f_82
          first | (rw [parS_n (congrArg (List.map rdT) (take_stop (by omega) (by omega))) _h32]; exact hx) | (rw [parS_y (congrArg (List.map rdT) (take_stop (by omega) (by omega))) _h32]; exact hx)
        exact ret_intro [_, _] (resOf_loadA _m_81 rfl agg67 sz67 ⟨rfl, trivial⟩) ⟨(.slice Atv (((cutR s 32 []).take i).map rdT).length Ctv), (congrArg (fun zq => (Value.tuple #[.agg #[(.slice Atv (((cutR s 32 []).take i).map rdT).length Ctv)], .bool zq])) (by first | rw [parS_n (congrArg (List.map rdT) (take_stop (by omega) (by omega))) _h32] | rw [parS_y (congrArg (List.map rdT) (take_stop (by omega) (by omega))) _h32])), _o_83, (Lo.down _lo0_4 (by omega)), E⟩
  · have _kb_17 := _h14
    have _h14 := bf_d _h14
    refine WL_skip rfl rfl ?_
    refine WL_skip rfl rfl ?_
    refine WL_step rfl rfl (r_pickF rfl rfl) ?_
    refine WL_nil ?_
    refine thn_nrm (_hK_16 _ _ ?_)
    clear _hK_16
    refine W_condF rfl ?_
    refine W_exit (thn_exit (thn_exit (inB_hit ?_)))
    refine thn_nrm (_hK_9 _ _ ?_)
    clear _hK_9
    refine W_seq fun _K_84 _hK_84 => ?_
    refine W_seq fun _K_85 _hK_85 => ?_
    refine W_region ?_
    refine WL_step rfl rfl (r_loadAtA0 _m0_4.at_ agg67 sz67 rfl) ?_
    refine WL_s rfl rfl ?_
    refine Step.call (r_call (xs := [.tmp 30]) fk52 rfl) (c_spec_IsValidExpr _o0_4.ls ) fun _v31 _w_86 _q31 => ?_
    obtain ⟨rfl, _cw_86⟩ := _q31
    have _cw_86z := _cw_86.size
    have E := E.trans _cw_86
    refine WL_step rfl rfl (r_not rfl) ?_
    refine WL_nil ?_
    refine thn_nrm (_hK_85 _ _ ?_)
    clear _hK_85
    refine W_cond rfl (fun _h32 => ?_) (fun _h32 => ?_)
    · have _kb_87 := _h32
      have _h32 := bt_n _h32
      refine W_seq fun _K_88 _hK_88 => ?_
      refine W_region ?_
      refine WL_step rfl rfl (r_build (parts := []) (cells := [(.slice none 0 0)]) zr67 pl67 rfl rfl) ?_
      refine WL_s rfl rfl ?_
      have _f_89 := (_F0_0.ch0 _cw_86)
      refine s_storeA (off := 0) 1 _f_89 sz67 rfl (us := [(.slice none 0 0)]) rfl rfl rfl rfl fun _w_90 _m_91 _cw_90 => ?_
      have _cw_90z := _cw_90.size
      have E := E.step _cw_90 (fun i hi => .inl (by have _h1 := List.mem_singleton.1 hi; omega))
      replace _m_91 : Blk _w_90 _b2 67 [(.slice none 0 0)] := _m_91
      refine WL_step rfl rfl (r_assign rfl) ?_
      refine WL_nil ?_
      refine thn_nrm (_hK_88 _ _ ?_)
      clear _hK_88
      refine W_ret (thn_ret ?_)
      clear _hK_15 _hK_84
      have _o_92 : Ol Token.cs 126 4 _w_90 (.slice none 0 0) ((parS s).1) := by
        have hx := (Ol.nil (cs := Token.cs) (e := 126) (k := 4) _w_90)
        first | (rw [parS_n (congrArg (List.map rdT) (take_stop (by omega) (by omega))) _h32]; exact hx) | (rw [parS_y (congrArg (List.map rdT) (take_stop (by omega) (by omega))) _h32]; exact hx)
      exact ret_intro [_, _] (resOf_loadA _m_91 rfl agg67 sz67 ⟨rfl, trivial⟩) ⟨(.slice none 0 0), (congrArg (fun zq => (Value.tuple #[.agg #[(.slice none 0 0)], .bool zq])) (by first | rw [parS_n (congrArg (List.map rdT) (take_stop (by omega) (by omega))) _h32] | rw [parS_y (congrArg (List.map rdT) (take_stop (by omega) (by omega))) _h32])), _o_92, (Lo.nil _), E⟩
    · have _kb_87 := _h32
      have _h32 := bf_n _h32
      refine W_skip ?_
      refine thn_nrm (_hK_84 _ _ ?_)
      clear _hK_84
      refine W_seq fun _K_93 _hK_93 => ?_
      refine W_region ?_
      have _f_94 := (_m0_4.ch0 _cw_86)
      refine WL_step rfl rfl (r_loadAtA0 _f_94.at_ agg67 sz67 rfl) ?_
      refine WL_s rfl rfl ?_
      have _f_95 := (_F0_0.ch0 _cw_86)
      refine s_storeA (off := 0) 1 _f_95 sz67 rfl (us := [(.slice Atv (((cutR s 32 []).take i).map rdT).length Ctv)]) rfl rfl rfl rfl fun _w_96 _m_97 _cw_96 => ?_
      have _cw_96z := _cw_96.size
      have E := E.step _cw_96 (fun i hi => .inl (by have _h1 := List.mem_singleton.1 hi; omega))
      replace _m_97 : Blk _w_96 _b2 67 [(.slice Atv (((cutR s 32 []).take i).map rdT).length Ctv)] := _m_97
      refine WL_step rfl rfl (r_assign rfl) ?_
      refine WL_nil ?_
      refine thn_nrm (_hK_93 _ _ ?_)
      clear _hK_93
      refine W_ret ?_
      clear _hK_15
      have _f_98 := ((_o0_4.ch0 _cw_86).ch _cw_96 (fun g hg hm => by have _h0 := List.mem_singleton.1 hm; have _h2 := _lo0_4 _ hg; have _h3 := _hitv _ hg; omega))
      have _o_99 : Ol Token.cs 126 4 _w_96 (.slice Atv (((cutR s 32 []).take i).map rdT).length Ctv) ((parS s).1) := by
        have hx := _f_98
        first | (rw [parS_n (congrArg (List.map rdT) (take_stop (by omega) (by omega))) _h32]; exact hx) | (rw [parS_y (congrArg (List.map rdT) (take_stop (by omega) (by omega))) _h32]; exact hx)
      exact ret_intro [_, _] (resOf_loadA _m_97 rfl agg67 sz67 ⟨rfl, trivial⟩) ⟨(.slice Atv (((cutR s 32 []).take i).map rdT).length Ctv), (congrArg (fun zq => (Value.tuple #[.agg #[(.slice Atv (((cutR s 32 []).take i).map rdT).length Ctv)], .bool zq])) (by first | rw [parS_n (congrArg (List.map rdT) (take_stop (by omega) (by omega))) _h32] | rw [parS_y (congrArg (List.map rdT) (take_stop (by omega) (by omega))) _h32])), _o_99, (Lo.down _lo0_4 (by omega)), E⟩

/-- spec.l1Pick -/
theorem c_spec_l1Pick {w : World} {b_c : Nat} (_h_c : Cu w b_c) {e_list : Nat} {_v_list : Value} {list : List (List UInt8)} (_h_list : Ol scs e_list 1 w _v_list list) (hl : 0 < list.length ∧ list.length ≤ 4096) (K9 : Nat) (_hk1 : b_c < K9) (_hk3 : Lo K9 _v_list) :
    Ctr Try.prog 216 #[(.pointer (some ⟨b_c, 0, none⟩)), _v_list] w (fun v w' => ∃ (xq0 : List UInt8) , v = .string (bys xq0) ∧ (xq0 ∈ list) ∧ Cu w' b_c ∧ Ch [b_c] w w') := by
  have _zb_c := _h_c.lt
  obtain ⟨_A_list, _C_list, _e1_list⟩ := _h_list.val
  subst _e1_list
  have _l_list := _h_list.len
  have _lt_list := _h_list.lt
  have E := Ch.refl [b_c] w
  refine Ctr_of_W (N := 12) (vs0 := [(.pointer (some ⟨b_c, 0, none⟩)), (.slice _A_list list.length _C_list)]) Try.func216 rfl rfl rfl ?_
  refine W_seq fun _K_1 _hK_1 => ?_
  refine W_region ?_
  refine WL_step rfl rfl (r_assign rfl) ?_
  refine WL_nil ?_
  refine thn_nrm (_hK_1 _ _ ?_)
  clear _hK_1
  refine W_seq fun _K_2 _hK_2 => ?_
  refine W_region ?_
  refine WL_step rfl rfl (r_move rfl) ?_
  refine WL_step rfl rfl (r_move rfl) ?_
  refine WL_step rfl rfl (r_move rfl) ?_
  refine WL_step rfl rfl (r_len (by rw [el224]; rfl) rfl) ?_
  refine WL_s rfl rfl ?_
  refine Step.call (r_call (xs := [.tmp 6, .tmp 8]) fk76 rfl) (c_spec_l1Below _h_c _ (by omega)) fun _v9 _w_3 _q9 => ?_
  obtain ⟨x9q0, rfl, pt9_0, cu9, _cw_3⟩ := _q9
  have _cw_3z := _cw_3.size
  have E := E.trans _cw_3
  refine WL_s rfl rfl ?_
  have _f_4 := (_h_list.ch _cw_3 (fun g hg hm => by have _h0 := List.mem_singleton.1 hm; have _h2 := _hk3 _ hg; have _h3 := _lt_list _ hg; omega))
  refine (s_index (j := x9q0.toNat) _f_4.ls scs_len el224 sz9 rfl rfl (by omega) (by omega) fun _p10 _y10 _hy10 _a10 => ?_)
  refine WL_step rfl rfl (r_loadAt0 _a10 agg9 rfl rfl) ?_
  refine WL_step rfl rfl (r_assign rfl) ?_
  refine WL_nil ?_
  refine thn_nrm (_hK_2 _ _ ?_)
  clear _hK_2
  refine W_ret ?_
  exact ret_intro [_] ⟨rfl, trivial⟩ ⟨_y10, (congrArg (fun zq => (Value.string (bys zq))) (by first | rfl | simp_all)), (mem_of_get _hy10), cu9, E⟩

/-- spec.l8Known -/
theorem c_spec_l8Known {w : World} {b_c : Nat} (_h_c : Cu w b_c) :
    Ctr Try.prog 201 #[(.pointer (some ⟨b_c, 0, none⟩))] w (fun v w' => ∃ (xq0 : List Token) (ud0x0 : Value), v = .agg #[ud0x0] ∧ Ol Token.cs 126 4 w' ud0x0 (xq0) ∧ Lo w.heap.size ud0x0 ∧ (1 ≤ xq0.length ∧ xq0.length ≤ 24) ∧ Cu w' b_c ∧ Ch [b_c] w w') := by
  have _zb_c := _h_c.lt
  have E := Ch.refl [b_c] w
  refine Ctr_of_W (N := 13) (vs0 := [(.pointer (some ⟨b_c, 0, none⟩))]) Try.func201 rfl rfl rfl ?_
  refine W_seq fun _K_1 _hK_1 => ?_
  refine W_region ?_
  refine WL_s rfl rfl ?_
  refine s_alloc zr67 fun _b2 _w_2 _m2 _cw_2 _e2 => ?_
  have _cw_2z := _cw_2.size
  have E := E.trans _cw_2.of_nil
  have _z2 := _m2.lt
  replace _m2 : Blk _w_2 _b2 67 [(.slice none 0 0)] := _m2
  refine WL_nil ?_
  refine thn_nrm (_hK_1 _ _ ?_)
  clear _hK_1
  refine W_seq fun _K_3 _hK_3 => ?_
  refine W_region ?_
  refine WL_step rfl rfl (r_move rfl) ?_
  refine WL_s rfl rfl ?_
  refine s_buildSlice (cs := scs) (parts := [(0, .const (Go.Value.string { data := #[97] })), (1, .const (Go.Value.string { data := #[97, 32, 98, 32, 46] })), (2, .const (Go.Value.string { data := #[97, 32, 42] })), (3, .const (Go.Value.string { data := #[97, 32, 98, 32, 124, 32, 42] })), (4, .const (Go.Value.string { data := #[97, 32, 97, 45, 32, 46] })), (5, .const (Go.Value.string { data := #[97, 32, 42, 32, 98, 32, 46] })), (6, .const (Go.Value.string { data := #[97, 32, 98, 32, 42, 32, 46, 32, 99, 32, 46] })), (7, .const (Go.Value.string { data := #[97, 32, 97, 32, 124, 32, 42] })), (8, .const (Go.Value.string { data := #[97, 32, 98, 32, 46, 32, 42] })), (9, .const (Go.Value.string { data := #[48, 32, 97, 32, 46, 32, 42] })), (10, .const (Go.Value.string { data := #[97, 32, 49, 32, 46, 32, 98, 32, 46] })), (11, .const (Go.Value.string { data := #[97, 32, 123, 48, 44, 50, 125] })), (12, .const (Go.Value.string { data := #[97, 32, 98, 32, 124, 32, 123, 49, 44, 51, 125] })), (13, .const (Go.Value.string { data := #[40, 41] })), (14, .const (Go.Value.string { data := #[33] })), (15, .const (Go.Value.string { data := #[97, 45, 32, 42, 32, 97, 32, 46] })), (16, .const (Go.Value.string { data := #[97, 32, 98, 45, 32, 46, 32, 42, 32, 99, 32, 124] })), (17, .const (Go.Value.string { data := #[97, 32, 42, 32, 97, 32, 42, 32, 46] })), (18, .const (Go.Value.string { data := #[97, 32, 48, 32, 124, 32, 42, 32, 98, 32, 46] })), (19, .const (Go.Value.string { data := #[97, 32, 97, 32, 46, 32, 42] })), (20, .const (Go.Value.string { data := #[97, 32, 98, 32, 46, 32, 98, 32, 97, 32, 46, 32, 124, 32, 42] }))]) ([] : List UInt8) [[97], [97, 32, 98, 32, 46], [97, 32, 42], [97, 32, 98, 32, 124, 32, 42], [97, 32, 97, 45, 32, 46], [97, 32, 42, 32, 98, 32, 46], [97, 32, 98, 32, 42, 32, 46, 32, 99, 32, 46], [97, 32, 97, 32, 124, 32, 42], [97, 32, 98, 32, 46, 32, 42], [48, 32, 97, 32, 46, 32, 42], [97, 32, 49, 32, 46, 32, 98, 32, 46], [97, 32, 123, 48, 44, 50, 125], [97, 32, 98, 32, 124, 32, 123, 49, 44, 51, 125], [40, 41], [33], [97, 45, 32, 42, 32, 97, 32, 46], [97, 32, 98, 45, 32, 46, 32, 42, 32, 99, 32, 124], [97, 32, 42, 32, 97, 32, 42, 32, 46], [97, 32, 48, 32, 124, 32, 42, 32, 98, 32, 46], [97, 32, 97, 32, 46, 32, 42], [97, 32, 98, 32, 46, 32, 98, 32, 97, 32, 46, 32, 124, 32, 42]] el224 sz9 zr9 scs_len (by decide) rfl rfl rfl (by decide) (by decide) rfl fun _v7 _w_4 _q7 _lo7 _cw_4 => ?_
  have _cw_4z := _cw_4.size
  have E := E.trans _cw_4.of_nil
  obtain ⟨_Av7, _Cv7, _ev7⟩ := _q7.val
  subst _ev7
  have _lv7 := _q7.len
  have _hiv7 := _q7.lt
  refine WL_s rfl rfl ?_
  have _f_5 := ((_h_c.ch0 _cw_2).ch0 _cw_4)
  refine Step.call (r_call (xs := [.tmp 6, .tmp 7]) fk216 rfl) (c_spec_l1Pick _f_5 _q7 (by decide) _w_2.heap.size (by omega) _lo7) fun _v8 _w_6 _q8 => ?_
  obtain ⟨x8q0, rfl, pt8_0, cu8, _cw_6⟩ := _q8
  have _cw_6z := _cw_6.size
  have E := E.trans _cw_6
  refine WL_s rfl rfl ?_
  refine Step.call (r_call (xs := [.tmp 8]) fk215 rfl) (c_spec_ParseExpr x8q0 (by have _h9 := known_len _ pt8_0; omega)) fun _v9 _w_7 _q9 => ?_
  obtain ⟨u9_0x0, rfl, _q_u9_0x0, _lo_u9_0x0, _cw_7⟩ := _q9
  have _cw_7z := _cw_7.size
  have E := E.trans _cw_7.of_nil
  obtain ⟨Au9_0x0, Cu9_0x0, eu9_0x0⟩ := _q_u9_0x0.val
  subst eu9_0x0
  have lu9_0x0 := _q_u9_0x0.len
  have _hiu9_0x0 := _q_u9_0x0.lt
  refine WL_step rfl rfl (r_move rfl) ?_
  refine WL_step rfl rfl (r_extract rfl rfl) ?_
  refine WL_step rfl rfl (r_extract rfl rfl) ?_
  refine WL_s rfl rfl ?_
  refine s_alloc zr67 fun _b3 _w_8 _m3 _cw_8 _e3 => ?_
  have _cw_8z := _cw_8.size
  have E := E.trans _cw_8.of_nil
  have _z3 := _m3.lt
  replace _m3 : Blk _w_8 _b3 67 [(.slice none 0 0)] := _m3
  refine WL_s rfl rfl ?_
  refine s_storeA (off := 0) 1 _m3 sz67 rfl (us := [(.slice Au9_0x0 ((parS x8q0).1).length Cu9_0x0)]) rfl rfl rfl rfl fun _w_9 _m_10 _cw_9 => ?_
  have _cw_9z := _cw_9.size
  have E := E.step _cw_9 (fun i hi => .inl (by have _h1 := List.mem_singleton.1 hi; omega))
  replace _m_10 : Blk _w_9 _b3 67 [(.slice Au9_0x0 ((parS x8q0).1).length Cu9_0x0)] := _m_10
  refine WL_step rfl rfl (r_assign rfl) ?_
  refine WL_nil ?_
  refine thn_nrm (_hK_3 _ _ ?_)
  clear _hK_3
  refine W_seq fun _K_11 _hK_11 => ?_
  refine W_region ?_
  refine WL_step rfl rfl (r_loadAtA0 _m_10.at_ agg67 sz67 rfl) ?_
  refine WL_s rfl rfl ?_
  have _f_12 := (((((_m2.ch0 _cw_4).ch _cw_6 (fun hm => by have _h1 := List.mem_singleton.1 hm; omega)).ch0 _cw_7).ch0 _cw_8).ch _cw_9 (fun hm => by have _h1 := List.mem_singleton.1 hm; omega))
  refine s_storeA (off := 0) 1 _f_12 sz67 rfl (us := [(.slice Au9_0x0 ((parS x8q0).1).length Cu9_0x0)]) rfl rfl rfl rfl fun _w_13 _m_14 _cw_13 => ?_
  have _cw_13z := _cw_13.size
  have E := E.step _cw_13 (fun i hi => .inl (by have _h1 := List.mem_singleton.1 hi; omega))
  replace _m_14 : Blk _w_13 _b2 67 [(.slice Au9_0x0 ((parS x8q0).1).length Cu9_0x0)] := _m_14
  refine WL_nil ?_
  refine thn_nrm (_hK_11 _ _ ?_)
  clear _hK_11
  refine W_ret ?_
  have _f_15 := (((_q_u9_0x0.ch0 _cw_8).ch _cw_9 (fun g hg hm => by have _h0 := List.mem_singleton.1 hm; have _h2 := _lo_u9_0x0 _ hg; have _h3 := _hiu9_0x0 _ hg; omega)).ch _cw_13 (fun g hg hm => by have _h0 := List.mem_singleton.1 hm; have _h2 := _lo_u9_0x0 _ hg; have _h3 := _hiu9_0x0 _ hg; omega))
  have _o_16 : Ol Token.cs 126 4 _w_13 (.slice Au9_0x0 ((parS x8q0).1).length Cu9_0x0) ((parS x8q0).1) := by
    have hx := _f_15
    first | exact hx | simpa using hx
  have _f_17 := ((((cu8.ch0 _cw_7).ch0 _cw_8).ch _cw_9 (fun i hm => by have _h1 := List.mem_singleton.1 hm; omega)).ch _cw_13 (fun i hm => by have _h1 := List.mem_singleton.1 hm; omega))
  exact ret_intro [_] (resOf_loadA _m_14 rfl agg67 sz67 trivial) ⟨((parS x8q0).1), (.slice Au9_0x0 ((parS x8q0).1).length Cu9_0x0), rfl, _o_16, (Lo.down _lo_u9_0x0 (by omega)), (known_ok _ pt8_0), _f_17, E⟩

/-- spec.LetterExpr -/
theorem c_spec_LetterExpr {w : World} (l : Int) :
    Ctr Try.prog 217 #[(.int .i64 l)] w (fun v w' => ∃ u, v = .agg #[u] ∧ Ol Token.cs 126 4 w' u ([(⟨3, l, 0, 0⟩ : Token)]) ∧ Lo w.heap.size u ∧ Ch [] w w') := by
  have E := Ch.refl [] w
  refine Ctr_of_W (N := 7) (vs0 := [(.int .i64 l)]) Try.func217 rfl rfl rfl ?_
  refine W_seq fun _K_1 _hK_1 => ?_
  refine W_region ?_
  refine WL_s rfl rfl ?_
  refine s_alloc zr67 fun _b2 _w_2 _m2 _cw_2 _e2 => ?_
  have _cw_2z := _cw_2.size
  have E := E.trans _cw_2
  have _z2 := _m2.lt
  replace _m2 : Blk _w_2 _b2 67 [(.slice none 0 0)] := _m2
  refine WL_nil ?_
  refine thn_nrm (_hK_1 _ _ ?_)
  clear _hK_1
  refine W_seq fun _K_3 _hK_3 => ?_
  refine W_region ?_
  refine WL_step rfl rfl (r_move rfl) ?_
  refine WL_step rfl rfl (r_build (parts := [(0, .const (Go.Value.int Go.IntKind.i64 3)), (1, .tmp 3)]) (cells := [(.int .i64 3), (.int .i64 l), (.int .i64 0), (.int .i64 0)]) zr126 pl126 rfl rfl) ?_
  refine WL_s rfl rfl ?_
  refine s_buildSlice (cs := Token.cs) (parts := [(0, .tmp 4)]) (⟨0, 0, 0, 0⟩ : Token) [(⟨3, l, 0, 0⟩ : Token)] el65 sz126 zr126 Token.len (by decide) rfl rfl rfl (by decide) (by decide) rfl fun _v5 _w_4 _q5 _lo5 _cw_4 => ?_
  have _cw_4z := _cw_4.size
  have E := E.trans _cw_4
  obtain ⟨_Av5, _Cv5, _ev5⟩ := _q5.val
  subst _ev5
  have _lv5 := _q5.len
  have _hiv5 := _q5.lt
  refine WL_step rfl rfl (r_build (parts := [(0, .tmp 5)]) (cells := [(.slice _Av5 ([(⟨3, l, 0, 0⟩ : Token)]).length _Cv5)]) zr67 pl67 rfl rfl) ?_
  refine WL_s rfl rfl ?_
  have _f_5 := (_m2.ch0 _cw_4)
  refine s_storeA (off := 0) 1 _f_5 sz67 rfl (us := [(.slice _Av5 ([(⟨3, l, 0, 0⟩ : Token)]).length _Cv5)]) rfl rfl rfl rfl fun _w_6 _m_7 _cw_6 => ?_
  have _cw_6z := _cw_6.size
  have E := E.step _cw_6 (fun i hi => .inl (by have _h1 := List.mem_singleton.1 hi; omega))
  replace _m_7 : Blk _w_6 _b2 67 [(.slice _Av5 ([(⟨3, l, 0, 0⟩ : Token)]).length _Cv5)] := _m_7
  refine WL_nil ?_
  refine thn_nrm (_hK_3 _ _ ?_)
  clear _hK_3
  refine W_ret ?_
  have _f_9 := (_q5.ch _cw_6 (fun g hg hm => by have _h0 := List.mem_singleton.1 hm; have _h2 := _lo5 _ hg; have _h3 := _hiv5 _ hg; omega))
  have _o_8 : Ol Token.cs 126 4 _w_6 (.slice _Av5 ([(⟨3, l, 0, 0⟩ : Token)]).length _Cv5) ([(⟨3, l, 0, 0⟩ : Token)]) := by
    have hx := _f_9
    first | exact hx | simpa using hx
  exact ret_intro [_] (resOf_loadA _m_7 rfl agg67 sz67 trivial) ⟨_, rfl, _o_8, Lo.down _lo5 (by omega), E⟩

/-- spec.l1PickInt -/
theorem c_spec_l1PickInt {w : World} {b_c : Nat} (_h_c : Cu w b_c) {e_list : Nat} {_v_list : Value} {list : List Int} (_h_list : Ol ics e_list 1 w _v_list list) (hl : 0 < list.length ∧ list.length ≤ 4096) (K9 : Nat) (_hk1 : b_c < K9) (_hk3 : Lo K9 _v_list) :
    Ctr Try.prog 147 #[(.pointer (some ⟨b_c, 0, none⟩)), _v_list] w (fun v w' => ∃ (xq0 : Int) , v = .int .i64 xq0 ∧ (xq0 ∈ list) ∧ Cu w' b_c ∧ Ch [b_c] w w') := by
  have _zb_c := _h_c.lt
  obtain ⟨_A_list, _C_list, _e1_list⟩ := _h_list.val
  subst _e1_list
  have _l_list := _h_list.len
  have _lt_list := _h_list.lt
  have E := Ch.refl [b_c] w
  refine Ctr_of_W (N := 12) (vs0 := [(.pointer (some ⟨b_c, 0, none⟩)), (.slice _A_list list.length _C_list)]) Try.func147 rfl rfl rfl ?_
  refine W_seq fun _K_1 _hK_1 => ?_
  refine W_region ?_
  refine WL_step rfl rfl (r_assign rfl) ?_
  refine WL_nil ?_
  refine thn_nrm (_hK_1 _ _ ?_)
  clear _hK_1
  refine W_seq fun _K_2 _hK_2 => ?_
  refine W_region ?_
  refine WL_step rfl rfl (r_move rfl) ?_
  refine WL_step rfl rfl (r_move rfl) ?_
  refine WL_step rfl rfl (r_move rfl) ?_
  refine WL_step rfl rfl (r_len (by rw [el30]; rfl) rfl) ?_
  refine WL_s rfl rfl ?_
  refine Step.call (r_call (xs := [.tmp 6, .tmp 8]) fk76 rfl) (c_spec_l1Below _h_c _ (by omega)) fun _v9 _w_3 _q9 => ?_
  obtain ⟨x9q0, rfl, pt9_0, cu9, _cw_3⟩ := _q9
  have _cw_3z := _cw_3.size
  have E := E.trans _cw_3
  refine WL_s rfl rfl ?_
  have _f_4 := (_h_list.ch _cw_3 (fun g hg hm => by have _h0 := List.mem_singleton.1 hm; have _h2 := _hk3 _ hg; have _h3 := _lt_list _ hg; omega))
  refine (s_index (j := x9q0.toNat) _f_4.ls ics_len el30 sz3 rfl rfl (by omega) (by omega) fun _p10 _y10 _hy10 _a10 => ?_)
  refine WL_step rfl rfl (r_loadAt0 _a10 agg3 rfl rfl) ?_
  refine WL_step rfl rfl (r_assign rfl) ?_
  refine WL_nil ?_
  refine thn_nrm (_hK_2 _ _ ?_)
  clear _hK_2
  refine W_ret ?_
  exact ret_intro [_] ⟨rfl, trivial⟩ ⟨_y10, (congrArg (fun zq => (Value.int .i64 zq)) (by first | rfl | simp_all)), (mem_of_get _hy10), cu9, E⟩

/-- spec.l8Copy -/
theorem c_spec_l8Copy {w : World} {LL_l _B_l : Nat} {_v_l : Value} {l : List Token} (_h_l : Ls Token.cs 4 w LL_l _B_l _v_l l) (hb : l.length ≤ 4194304) :
    Ctr Try.prog 119 #[_v_l] w (fun v w' => ∃ u, v = .agg #[u] ∧ Ol Token.cs 126 4 w' u (l) ∧ Lo w.heap.size u ∧ Ch [] w w') := by
  obtain ⟨_A_l, _C_l, _e1_l⟩ := _h_l.val
  subst _e1_l
  have _l_l := _h_l.len
  have _h_l := _h_l.here (by decide)
  have E := Ch.refl [] w
  refine Ctr_of_W (N := 7) (vs0 := [(.slice _A_l l.length _C_l)]) Try.func119 rfl rfl rfl ?_
  refine W_seq fun _K_1 _hK_1 => ?_
  refine W_region ?_
  refine WL_s rfl rfl ?_
  refine s_alloc zr67 fun _b2 _w_2 _m2 _cw_2 _e2 => ?_
  have _cw_2z := _cw_2.size
  have E := E.trans _cw_2
  have _z2 := _m2.lt
  replace _m2 : Blk _w_2 _b2 67 [(.slice none 0 0)] := _m2
  refine WL_nil ?_
  refine thn_nrm (_hK_1 _ _ ?_)
  clear _hK_1
  refine W_seq fun _K_3 _hK_3 => ?_
  refine W_region ?_
  refine WL_s rfl rfl ?_
  refine s_buildSlice0 (k := 4) Token.cs el65 sz126 fun _v3 _w_4 _q3 _lo3 _cw_4 => ?_
  have _cw_4z := _cw_4.size
  have E := E.trans _cw_4
  obtain ⟨_Av3, _Cv3, _ev3⟩ := _q3.val
  subst _ev3
  have _lv3 := _q3.len
  have _hiv3 := _q3.lt
  refine WL_step rfl rfl (r_move rfl) ?_
  refine WL_s rfl rfl ?_
  have _f_6 := ((_h_l.ch0 _cw_2).ch0 _cw_4)
  refine s_append (cs := Token.cs) el65 sz126 by126 zr126 rfl (by decide) Token.one _q3 _f_6 rfl rfl (by first | omega | (simp only [List.length_append, List.length_nil, List.length_cons, List.length_replicate, List.length_set, List.length_reverse, List.length_map] at *; omega) | (simp at *; omega)) (by first | omega | (simp only [List.length_append, List.length_nil, List.length_cons, List.length_replicate, List.length_set, List.length_reverse, List.length_map] at *; omega) | (simp at *; omega)) _lo3 (by omega) fun _v5 _w_5 _q5 _lo5 _ap5 _cw_5 => ?_
  have _cw_5z := _cw_5.size
  have E := E.step _cw_5 (fun i hi => .inl (by have _h1 := _lo3 _ hi; omega))
  replace _q5 : Ol Token.cs 126 4 _w_5 _v5 l := _q5
  obtain ⟨_Av5, _Cv5, _ev5⟩ := _q5.val
  subst _ev5
  have _lv5 := _q5.len
  have _hiv5 := _q5.lt
  refine WL_step rfl rfl (r_build (parts := [(0, .tmp 5)]) (cells := [(.slice _Av5 (l).length _Cv5)]) zr67 pl67 rfl rfl) ?_
  refine WL_s rfl rfl ?_
  have _f_7 := ((_m2.ch0 _cw_4).ch _cw_5 (fun hm => by have _h1 := _lo3 _ hm; have _h2 := _hiv3 _ hm; omega))
  refine s_storeA (off := 0) 1 _f_7 sz67 rfl (us := [(.slice _Av5 (l).length _Cv5)]) rfl rfl rfl rfl fun _w_8 _m_9 _cw_8 => ?_
  have _cw_8z := _cw_8.size
  have E := E.step _cw_8 (fun i hi => .inl (by have _h1 := List.mem_singleton.1 hi; omega))
  replace _m_9 : Blk _w_8 _b2 67 [(.slice _Av5 (l).length _Cv5)] := _m_9
  refine WL_nil ?_
  refine thn_nrm (_hK_3 _ _ ?_)
  clear _hK_3
  refine W_ret ?_
  have _f_11 := (_q5.ch _cw_8 (fun g hg hm => by have _h0 := List.mem_singleton.1 hm; rcases _ap5 with ea | ea; (rw [ea] at hg; have _h2 := _lo3 _ hg; have _h3 := _hiv3 _ hg; omega); (rw [ea] at hg; have _z1 := List.mem_singleton.1 hg; omega)))
  have _o_10 : Ol Token.cs 126 4 _w_8 (.slice _Av5 (l).length _Cv5) (l) := by
    have hx := _f_11
    first | exact hx | simpa using hx
  exact ret_intro [_] (resOf_loadA _m_9 rfl agg67 sz67 trivial) ⟨_, rfl, _o_10, Lo.down _lo5 (by omega), E⟩

/-- spec.l8Join -/
theorem c_spec_l8Join {w : World} {LL_a _B_a : Nat} {_v_a : Value} {a : List Token} (_h_a : Ls Token.cs 4 w LL_a _B_a _v_a a) {LL_b _B_b : Nat} {_v_b : Value} {b : List Token} (_h_b : Ls Token.cs 4 w LL_b _B_b _v_b b) (t : Token) (hb : a.length + b.length ≤ 4194304) :
    Ctr Try.prog 120 #[(.agg #[_v_a]), (.agg #[_v_b]), (.agg #[(.int .i64 t.kind), (.int .i64 t.letter), (.int .i64 t.low), (.int .i64 t.high)])] w (fun v w' => ∃ u, v = .agg #[u] ∧ Ol Token.cs 126 4 w' u (a ++ b ++ [t]) ∧ Lo w.heap.size u ∧ Ch [] w w') := by
  obtain ⟨_A_a, _C_a, _e1_a⟩ := _h_a.val
  subst _e1_a
  have _l_a := _h_a.len
  have _h_a := _h_a.here (by decide)
  obtain ⟨_A_b, _C_b, _e1_b⟩ := _h_b.val
  subst _e1_b
  have _l_b := _h_b.len
  have _h_b := _h_b.here (by decide)
  have E := Ch.refl [] w
  refine Ctr_of_W (N := 24) (vs0 := [(.agg #[(.slice _A_a a.length _C_a)]), (.agg #[(.slice _A_b b.length _C_b)]), (.agg #[(.int .i64 t.kind), (.int .i64 t.letter), (.int .i64 t.low), (.int .i64 t.high)])]) Try.func120 rfl rfl rfl ?_
  refine W_seq fun _K_1 _hK_1 => ?_
  refine W_region ?_
  refine WL_s rfl rfl ?_
  refine s_box rfl fun _b3 _w_2 _m3 _cw_2 _e3 => ?_
  have _cw_2z := _cw_2.size
  have E := E.trans _cw_2
  have _z3 := _m3.lt
  replace _m3 : Blk _w_2 _b3 67 [(.slice _A_a a.length _C_a)] := _m3
  refine WL_s rfl rfl ?_
  refine s_box rfl fun _b4 _w_3 _m4 _cw_3 _e4 => ?_
  have _cw_3z := _cw_3.size
  have E := E.trans _cw_3
  have _z4 := _m4.lt
  replace _m4 : Blk _w_3 _b4 67 [(.slice _A_b b.length _C_b)] := _m4
  refine WL_s rfl rfl ?_
  refine s_box rfl fun _b5 _w_4 _m5 _cw_4 _e5 => ?_
  have _cw_4z := _cw_4.size
  have E := E.trans _cw_4
  have _z5 := _m5.lt
  replace _m5 : Blk _w_4 _b5 126 [(.int .i64 t.kind), (.int .i64 t.letter), (.int .i64 t.low), (.int .i64 t.high)] := _m5
  refine WL_s rfl rfl ?_
  refine s_alloc zr67 fun _b6 _w_5 _m6 _cw_5 _e6 => ?_
  have _cw_5z := _cw_5.size
  have E := E.trans _cw_5
  have _z6 := _m6.lt
  replace _m6 : Blk _w_5 _b6 67 [(.slice none 0 0)] := _m6
  refine WL_nil ?_
  refine thn_nrm (_hK_1 _ _ ?_)
  clear _hK_1
  refine W_seq fun _K_6 _hK_6 => ?_
  refine W_region ?_
  refine WL_step rfl rfl (r_fieldAddr fa67_0 rfl) ?_
  have _f_7 := (((_m3.ch0 _cw_3).ch0 _cw_4).ch0 _cw_5)
  refine WL_step rfl rfl (r_loadAt _f_7.at_ agg65 rfl rfl) ?_
  refine WL_s rfl rfl ?_
  have _f_8 := ((((_h_a.ch0 _cw_2).ch0 _cw_3).ch0 _cw_4).ch0 _cw_5)
  refine Step.call (r_call (xs := [.tmp 9]) fk119 rfl) (c_spec_l8Copy _f_8 (by omega)) fun _v10 _w_9 _q10 => ?_
  obtain ⟨_u10, rfl, _q10, _lo10, _cw_9⟩ := _q10
  have _cw_9z := _cw_9.size
  have E := E.trans _cw_9
  obtain ⟨_Au10, _Cu10, _eu10⟩ := _q10.val
  subst _eu10
  have _lu10 := _q10.len
  have _hiu10 := _q10.lt
  refine WL_s rfl rfl ?_
  refine s_alloc zr67 fun _b7 _w_10 _m7 _cw_10 _e7 => ?_
  have _cw_10z := _cw_10.size
  have E := E.trans _cw_10
  have _z7 := _m7.lt
  replace _m7 : Blk _w_10 _b7 67 [(.slice none 0 0)] := _m7
  refine WL_s rfl rfl ?_
  refine s_storeA (off := 0) 1 _m7 sz67 rfl (us := [(.slice _Au10 (a).length _Cu10)]) rfl rfl rfl rfl fun _w_11 _m_12 _cw_11 => ?_
  have _cw_11z := _cw_11.size
  have E := E.step _cw_11 (fun i hi => .inl (by have _h1 := List.mem_singleton.1 hi; omega))
  replace _m_12 : Blk _w_11 _b7 67 [(.slice _Au10 (a).length _Cu10)] := _m_12
  refine WL_nil ?_
  refine thn_nrm (_hK_6 _ _ ?_)
  clear _hK_6
  refine W_seq fun _K_13 _hK_13 => ?_
  refine W_region ?_
  refine WL_step rfl rfl (r_fieldAddr fa67_0 rfl) ?_
  refine WL_step rfl rfl (r_loadAt _m_12.at_ agg65 rfl rfl) ?_
  refine WL_step rfl rfl (r_fieldAddr fa67_0 rfl) ?_
  have _f_14 := (((((_m4.ch0 _cw_4).ch0 _cw_5).ch0 _cw_9).ch0 _cw_10).ch _cw_11 (fun hm => by have _h1 := List.mem_singleton.1 hm; omega))
  refine WL_step rfl rfl (r_loadAt _f_14.at_ agg65 rfl rfl) ?_
  refine WL_s rfl rfl ?_
  have _f_16 := ((_q10.ch0 _cw_10).ch _cw_11 (fun g hg hm => by have _h0 := List.mem_singleton.1 hm; have _h2 := _lo10 _ hg; have _h3 := _hiu10 _ hg; omega))
  have _f_17 := (((((((_h_b.ch0 _cw_2).ch0 _cw_3).ch0 _cw_4).ch0 _cw_5).ch0 _cw_9).ch0 _cw_10).ch _cw_11 (fun i hi => by have _h1 := List.mem_singleton.1 hi; omega))
  refine s_append (cs := Token.cs) el65 sz126 by126 zr126 rfl (by decide) Token.one _f_16 _f_17 rfl rfl (by first | omega | (simp only [List.length_append, List.length_nil, List.length_cons, List.length_replicate, List.length_set, List.length_reverse, List.length_map] at *; omega) | (simp at *; omega)) (by first | omega | (simp only [List.length_append, List.length_nil, List.length_cons, List.length_replicate, List.length_set, List.length_reverse, List.length_map] at *; omega) | (simp at *; omega)) _lo10 (by omega) fun _v15 _w_15 _q15 _lo15 _ap15 _cw_15 => ?_
  have _cw_15z := _cw_15.size
  have E := E.step _cw_15 (fun i hi => .inl (by have _h1 := _lo10 _ hi; omega))
  obtain ⟨_Av15, _Cv15, _ev15⟩ := _q15.val
  subst _ev15
  have _lv15 := _q15.len
  have _hiv15 := _q15.lt
  refine WL_step rfl rfl (r_fieldAddr fa67_0 rfl) ?_
  refine WL_s rfl rfl ?_
  have _f_18 := (_m_12.ch _cw_15 (fun hm => by have _h1 := _lo10 _ hm; have _h2 := _hiu10 _ hm; omega))
  refine s_store1 (off := 0) _f_18 sz65 rfl rfl rfl rfl fun _w_19 _m_20 _cw_19 => ?_
  have _cw_19z := _cw_19.size
  have E := E.step _cw_19 (fun i hi => .inl (by have _h1 := List.mem_singleton.1 hi; omega))
  replace _m_20 : Blk _w_19 _b7 67 [(.slice _Av15 ((a ++ b)).length _Cv15)] := _m_20
  refine WL_nil ?_
  refine thn_nrm (_hK_13 _ _ ?_)
  clear _hK_13
  refine W_seq fun _K_21 _hK_21 => ?_
  refine W_region ?_
  refine WL_step rfl rfl (r_fieldAddr fa67_0 rfl) ?_
  refine WL_step rfl rfl (r_loadAt _m_20.at_ agg65 rfl rfl) ?_
  have _f_22 := ((((((_m5.ch0 _cw_5).ch0 _cw_9).ch0 _cw_10).ch _cw_11 (fun hm => by have _h1 := List.mem_singleton.1 hm; omega)).ch _cw_15 (fun hm => by have _h1 := _lo10 _ hm; have _h2 := _hiu10 _ hm; omega)).ch _cw_19 (fun hm => by have _h1 := List.mem_singleton.1 hm; omega))
  refine WL_step rfl rfl (r_loadAtA0 _f_22.at_ agg126 sz126 rfl) ?_
  refine WL_s rfl rfl ?_
  refine s_buildSlice (cs := Token.cs) (parts := [(0, .tmp 19)]) (⟨0, 0, 0, 0⟩ : Token) [t] el65 sz126 zr126 Token.len (by decide) rfl rfl rfl (by decide) (by decide) rfl fun _v20 _w_23 _q20 _lo20 _cw_23 => ?_
  have _cw_23z := _cw_23.size
  have E := E.trans _cw_23
  obtain ⟨_Av20, _Cv20, _ev20⟩ := _q20.val
  subst _ev20
  have _lv20 := _q20.len
  have _hiv20 := _q20.lt
  refine WL_s rfl rfl ?_
  have _f_25 := ((_q15.ch _cw_19 (fun g hg hm => by have _h0 := List.mem_singleton.1 hm; rcases _ap15 with ea | ea; (rw [ea] at hg; have _h2 := _lo10 _ hg; have _h3 := _hiu10 _ hg; omega); (rw [ea] at hg; have _z1 := List.mem_singleton.1 hg; omega))).ch0 _cw_23)
  refine s_append (cs := Token.cs) el65 sz126 by126 zr126 rfl (by decide) Token.one _f_25 _q20.ls rfl rfl (by first | omega | (simp only [List.length_append, List.length_nil, List.length_cons, List.length_replicate, List.length_set, List.length_reverse, List.length_map] at *; omega) | (simp at *; omega)) (by first | omega | (simp only [List.length_append, List.length_nil, List.length_cons, List.length_replicate, List.length_set, List.length_reverse, List.length_map] at *; omega) | (simp at *; omega)) _lo15 (by omega) fun _v21 _w_24 _q21 _lo21 _ap21 _cw_24 => ?_
  have _cw_24z := _cw_24.size
  have E := E.step _cw_24 (fun i hi => .inl (by have _h1 := _lo15 _ hi; omega))
  obtain ⟨_Av21, _Cv21, _ev21⟩ := _q21.val
  subst _ev21
  have _lv21 := _q21.len
  have _hiv21 := _q21.lt
  refine WL_step rfl rfl (r_fieldAddr fa67_0 rfl) ?_
  refine WL_s rfl rfl ?_
  have _f_26 := ((_m_20.ch0 _cw_23).ch _cw_24 (fun hm => by rcases _ap15 with ea | ea; (rw [ea] at hm; have _h1 := _lo10 _ hm; have _h2 := _hiu10 _ hm; omega); (rw [ea] at hm; have _z1 := List.mem_singleton.1 hm; omega)))
  refine s_store1 (off := 0) _f_26 sz65 rfl rfl rfl rfl fun _w_27 _m_28 _cw_27 => ?_
  have _cw_27z := _cw_27.size
  have E := E.step _cw_27 (fun i hi => .inl (by have _h1 := List.mem_singleton.1 hi; omega))
  replace _m_28 : Blk _w_27 _b7 67 [(.slice _Av21 (((a ++ b) ++ [t])).length _Cv21)] := _m_28
  refine WL_nil ?_
  refine thn_nrm (_hK_21 _ _ ?_)
  clear _hK_21
  refine W_seq fun _K_29 _hK_29 => ?_
  refine W_region ?_
  refine WL_step rfl rfl (r_loadAtA0 _m_28.at_ agg67 sz67 rfl) ?_
  refine WL_s rfl rfl ?_
  have _f_30 := ((((((((_m6.ch0 _cw_9).ch0 _cw_10).ch _cw_11 (fun hm => by have _h1 := List.mem_singleton.1 hm; omega)).ch _cw_15 (fun hm => by have _h1 := _lo10 _ hm; have _h2 := _hiu10 _ hm; omega)).ch _cw_19 (fun hm => by have _h1 := List.mem_singleton.1 hm; omega)).ch0 _cw_23).ch _cw_24 (fun hm => by rcases _ap15 with ea | ea; (rw [ea] at hm; have _h1 := _lo10 _ hm; have _h2 := _hiu10 _ hm; omega); (rw [ea] at hm; have _z1 := List.mem_singleton.1 hm; omega))).ch _cw_27 (fun hm => by have _h1 := List.mem_singleton.1 hm; omega))
  refine s_storeA (off := 0) 1 _f_30 sz67 rfl (us := [(.slice _Av21 (((a ++ b) ++ [t])).length _Cv21)]) rfl rfl rfl rfl fun _w_31 _m_32 _cw_31 => ?_
  have _cw_31z := _cw_31.size
  have E := E.step _cw_31 (fun i hi => .inl (by have _h1 := List.mem_singleton.1 hi; omega))
  replace _m_32 : Blk _w_31 _b6 67 [(.slice _Av21 (((a ++ b) ++ [t])).length _Cv21)] := _m_32
  refine WL_nil ?_
  refine thn_nrm (_hK_29 _ _ ?_)
  clear _hK_29
  refine W_ret ?_
  have _f_34 := ((_q21.ch _cw_27 (fun g hg hm => by have _h0 := List.mem_singleton.1 hm; rcases _ap21 with ea | ea; (rw [ea] at hg; rcases _ap15 with ea | ea; (rw [ea] at hg; have _h2 := _lo10 _ hg; have _h3 := _hiu10 _ hg; omega); (rw [ea] at hg; have _z1 := List.mem_singleton.1 hg; omega)); (rw [ea] at hg; have _z1 := List.mem_singleton.1 hg; omega))).ch _cw_31 (fun g hg hm => by have _h0 := List.mem_singleton.1 hm; rcases _ap21 with ea | ea; (rw [ea] at hg; rcases _ap15 with ea | ea; (rw [ea] at hg; have _h2 := _lo10 _ hg; have _h3 := _hiu10 _ hg; omega); (rw [ea] at hg; have _z1 := List.mem_singleton.1 hg; omega)); (rw [ea] at hg; have _z1 := List.mem_singleton.1 hg; omega)))
  have _o_33 : Ol Token.cs 126 4 _w_31 (.slice _Av21 (((a ++ b) ++ [t])).length _Cv21) (a ++ b ++ [t]) := by
    have hx := _f_34
    first | exact hx | simpa using hx
  exact ret_intro [_] (resOf_loadA _m_32 rfl agg67 sz67 trivial) ⟨_, rfl, _o_33, Lo.down _lo21 (by omega), E⟩

/-- spec.l8Leaf -/
theorem c_spec_l8Leaf {w : World} (kind : Int) :
    Ctr Try.prog 118 #[(.int .i64 kind)] w (fun v w' => ∃ u, v = .agg #[u] ∧ Ol Token.cs 126 4 w' u ([(⟨kind, 0, 0, 0⟩ : Token)]) ∧ Lo w.heap.size u ∧ Ch [] w w') := by
  have E := Ch.refl [] w
  refine Ctr_of_W (N := 7) (vs0 := [(.int .i64 kind)]) Try.func118 rfl rfl rfl ?_
  refine W_seq fun _K_1 _hK_1 => ?_
  refine W_region ?_
  refine WL_s rfl rfl ?_
  refine s_alloc zr67 fun _b2 _w_2 _m2 _cw_2 _e2 => ?_
  have _cw_2z := _cw_2.size
  have E := E.trans _cw_2
  have _z2 := _m2.lt
  replace _m2 : Blk _w_2 _b2 67 [(.slice none 0 0)] := _m2
  refine WL_nil ?_
  refine thn_nrm (_hK_1 _ _ ?_)
  clear _hK_1
  refine W_seq fun _K_3 _hK_3 => ?_
  refine W_region ?_
  refine WL_step rfl rfl (r_move rfl) ?_
  refine WL_step rfl rfl (r_build (parts := [(0, .tmp 3)]) (cells := [(.int .i64 kind), (.int .i64 0), (.int .i64 0), (.int .i64 0)]) zr126 pl126 rfl rfl) ?_
  refine WL_s rfl rfl ?_
  refine s_buildSlice (cs := Token.cs) (parts := [(0, .tmp 4)]) (⟨0, 0, 0, 0⟩ : Token) [(⟨kind, 0, 0, 0⟩ : Token)] el65 sz126 zr126 Token.len (by decide) rfl rfl rfl (by decide) (by decide) rfl fun _v5 _w_4 _q5 _lo5 _cw_4 => ?_
  have _cw_4z := _cw_4.size
  have E := E.trans _cw_4
  obtain ⟨_Av5, _Cv5, _ev5⟩ := _q5.val
  subst _ev5
  have _lv5 := _q5.len
  have _hiv5 := _q5.lt
  refine WL_step rfl rfl (r_build (parts := [(0, .tmp 5)]) (cells := [(.slice _Av5 ([(⟨kind, 0, 0, 0⟩ : Token)]).length _Cv5)]) zr67 pl67 rfl rfl) ?_
  refine WL_s rfl rfl ?_
  have _f_5 := (_m2.ch0 _cw_4)
  refine s_storeA (off := 0) 1 _f_5 sz67 rfl (us := [(.slice _Av5 ([(⟨kind, 0, 0, 0⟩ : Token)]).length _Cv5)]) rfl rfl rfl rfl fun _w_6 _m_7 _cw_6 => ?_
  have _cw_6z := _cw_6.size
  have E := E.step _cw_6 (fun i hi => .inl (by have _h1 := List.mem_singleton.1 hi; omega))
  replace _m_7 : Blk _w_6 _b2 67 [(.slice _Av5 ([(⟨kind, 0, 0, 0⟩ : Token)]).length _Cv5)] := _m_7
  refine WL_nil ?_
  refine thn_nrm (_hK_3 _ _ ?_)
  clear _hK_3
  refine W_ret ?_
  have _f_9 := (_q5.ch _cw_6 (fun g hg hm => by have _h0 := List.mem_singleton.1 hm; have _h2 := _lo5 _ hg; have _h3 := _hiv5 _ hg; omega))
  have _o_8 : Ol Token.cs 126 4 _w_6 (.slice _Av5 ([(⟨kind, 0, 0, 0⟩ : Token)]).length _Cv5) ([(⟨kind, 0, 0, 0⟩ : Token)]) := by
    have hx := _f_9
    first | exact hx | simpa using hx
  exact ret_intro [_] (resOf_loadA _m_7 rfl agg67 sz67 trivial) ⟨_, rfl, _o_8, Lo.down _lo5 (by omega), E⟩

end Go.Proofs.Ytholldndjafnpaa
