/- Walks of functions that FnExactSubtractPairs reaches: what each returns, and that it leaves the memory that was there alone. -/
import Derived.Test.YtnboedkdnnlgnaaKF
import Derived.Test.YtnboedkdnnlgnaaKG
import Derived.Test.YtnboedkdnnlgnaaKH
import Derived.Test.YtnboedkdnnlgnaaKI
import Derived.Test.YtnboedkdnnlgnaaKJ
import Derived.Test.YtnboedkdnnlgnaaKM
import Derived.Test.YtnboedkdnnlgnaaKN
import Derived.Test.YtnboedkdnnlgnaaKO
import Derived.Test.YtnboedkdnnlgnaaKP
import Derived.Test.YtnboedkdnnlgnaaKQ
import Derived.Test.YtnboedkdnnlgnaaKR
import Derived.Test.YtnboedkdnnlgnaaKS
import Derived.Test.YtnboedkdnnlgnaaKT
import Derived.Test.YtnboedkdnnlgnaaKU
import Derived.Test.YtnboedkdnnlgnaaKV
import Derived.Test.YtnboedkdnnlgnaaKX
import Derived.Test.YtnboedkdnnlgnaaKY
import Derived.Test.YtnboedkdnnlgnaaKZ
import Derived.Test.YtnboedkdnnlgnaaJA
import Derived.Test.YtnboedkdnnlgnaaJB
import Derived.Test.YtnboedkdnnlgnaaJC
import Derived.Test.YtnboedkdnnlgnaaJD
import Derived.Test.YtnboedkdnnlgnaaJE
import Derived.Test.YtnboedkdnnlgnaaJF
import Derived.Test.YtnboedkdnnlgnaaJG
import Derived.Test.YtnboedkdnnlgnaaJH
import Derived.Test.YtnboedkdnnlgnaaJI
import Derived.Test.YtnboedkdnnlgnaaJK
import Derived.Test.YtnboedkdnnlgnaaJM
import Derived.Test.YtnboedkdnnlgnaaJN
import Derived.Test.YtnboedkdnnlgnaaJO
import Derived.Test.YtnboedkdnnlgnaaJP
import Derived.Test.YtnboedkdnnlgnaaJQ
import Derived.Test.YtnboedkdnnlgnaaJR
import Derived.Test.YtnboedkdnnlgnaaJS
import Derived.Test.YtnboedkdnnlgnaaJT
import Derived.Test.YtnboedkdnnlgnaaJU
import Derived.Test.YtnboedkdnnlgnaaWExactMergePairs
import Derived.Test.YtnboedkdnnlgnaaProg
namespace Go.Proofs.Ytnboedkdnnlgnaa
open Go.KLib Go.Shelf
set_option maxRecDepth 20000
set_option linter.unusedVariables false
set_option linter.unusedSimpArgs false
namespace TExactSubtractPairs
theorem agg106 : aggB Try.prog 106 = some true := by kernel_rfl
theorem agg37 : aggB Try.prog 37 = some false := by kernel_rfl
theorem el37 : elB Try.prog 37 = some 106 := by kernel_rfl
theorem fk124 : fnB Try.prog 124 = true := by kernel_rfl
theorem fk125 : fnB Try.prog 125 = true := by kernel_rfl
theorem fk16 : fnB Try.prog 16 = true := by kernel_rfl
theorem fk18 : fnB Try.prog 18 = true := by kernel_rfl
theorem fk20 : fnB Try.prog 20 = true := by kernel_rfl
theorem fk21 : fnB Try.prog 21 = true := by kernel_rfl
theorem fk22 : fnB Try.prog 22 = true := by kernel_rfl
theorem fk23 : fnB Try.prog 23 = true := by kernel_rfl
theorem fk24 : fnB Try.prog 24 = true := by kernel_rfl
theorem fk64 : fnB Try.prog 64 = true := by kernel_rfl
theorem fk66 : fnB Try.prog 66 = true := by kernel_rfl
theorem fk68 : fnB Try.prog 68 = true := by kernel_rfl
theorem fk69 : fnB Try.prog 69 = true := by kernel_rfl
theorem fk70 : fnB Try.prog 70 = true := by kernel_rfl
theorem fk71 : fnB Try.prog 71 = true := by kernel_rfl
theorem ist106 : intStructB Try.prog 106 2 = true := by kernel_rfl
theorem mixed : Try.prog.follows .mixedOrders = true := by kernel_rfl
theorem sz106 : sizeB Try.prog 106 = some 2 := by kernel_rfl
theorem zr106 : zeroB Try.prog 106 = some (.agg #[.int .i64 0, .int .i64 0]) := by kernel_rfl
end TExactSubtractPairs
open TExactSubtractPairs

/-- slices.Index[[]impl.Pair,impl.Pair] -/
theorem c_slices_Index_impl_Pair_impl_Pair {w : World} {LL_s _B_s : Nat} {_v_s : Value} {s : List Pair} (_h_s : Ls Pair.cs 2 w LL_s _B_s _v_s s) (x : Pair) :
    Ctr Try.prog 125 #[_v_s, (.agg #[(.int .i64 x.f), (.int .i64 x.t)])] w (fun v w' => v = .int .i64 (ixP (fun y => decide (x = y)) s) ∧ Ch [] w w') := by
  obtain ⟨_A_s, _C_s, _e1_s⟩ := _h_s.val
  subst _e1_s
  have _l_s := _h_s.len
  have _h_s := _h_s.here (by decide)
  have E := Ch.refl [] w
  refine Ctr_of_W (N := 19) (vs0 := [(.slice _A_s s.length _C_s), (.agg #[(.int .i64 x.f), (.int .i64 x.t)])]) Try.func125 rfl rfl rfl ?_
  refine W_seq fun _K_1 _hK_1 => ?_
  refine W_region ?_
  refine WL_s rfl rfl ?_
  refine s_box rfl fun _b3 _w_2 _m3 _cw_2 _e3 => ?_
  have _cw_2z := _cw_2.size
  have E := E.trans _cw_2
  have _z3 := _m3.lt
  replace _m3 : Blk _w_2 _b3 106 [(.int .i64 x.f), (.int .i64 x.t)] := _m3
  refine WL_step rfl rfl (r_assign rfl) ?_
  refine WL_nil ?_
  refine thn_nrm (_hK_1 _ _ ?_)
  clear _hK_1
  refine W_seq fun _K_3 _hK_3 => ?_
  refine W_seq fun _K_4 _hK_4 => ?_
  refine W_region ?_
  refine WL_step rfl rfl (r_move rfl) ?_
  refine WL_step rfl rfl (r_len (by rw [el37]; rfl) rfl) ?_
  refine WL_step rfl rfl (r_move rfl) ?_
  refine WL_nil ?_
  refine thn_nrm (_hK_4 _ _ ?_)
  clear _hK_4
  refine W_block ?_
  refine W_loop (σ := Nat) (fun (k : Nat) => [(0, (.slice _A_s s.length _C_s)), (3, (.pointer (some ⟨_b3, 0, none⟩))), (7, (.int .i64 ((s.length : Nat) : Int))), (8, (.int .i64 ((k : Nat) : Int)))]) (fun (k : Nat) wx => Ch [] w wx ∧ _w_2.heap.size ≤ wx.heap.size ∧ (k ≤ s.length) ∧ ((s.take k).any (fun y => decide (x = y)) = false) ∧ Blk wx _b3 106 [(.int .i64 x.f), (.int .i64 x.t)]) (fun (k : Nat) => s.length - k) 0 (Sub.cons rfl (Sub.cons rfl (Sub.cons rfl (Sub.cons rfl (Sub.nil _))))) ⟨E, (Nat.le_refl _), (by omega), (by simp), _m3⟩ ?_
  rintro k _wr_5 ⟨E, _zz0, _hk, _ht, _F0_1⟩
  have _E0h := E
  have _E0hz := _E0h.size
  have _F0_1z := _F0_1.lt
  refine W_seq fun _K_6 _hK_6 => ?_
  refine W_region ?_
  refine WL_step rfl rfl (r_lss rfl rfl) ?_
  refine WL_nil ?_
  refine thn_nrm (_hK_6 _ _ ?_)
  clear _hK_6
  refine W_seq fun _K_7 _hK_7 => ?_
  refine W_cond rfl (fun _h9 => ?_) (fun _h9 => ?_)
  · have _kb_8 := _h9
    have _h9 := bt_d _h9
    refine W_skip ?_
    refine thn_nrm (_hK_7 _ _ ?_)
    clear _hK_7
    refine W_seq fun _K_9 _hK_9 => ?_
    refine W_block ?_
    refine W_seq fun _K_10 _hK_10 => ?_
    refine W_region ?_
    refine WL_step rfl rfl (r_move rfl) ?_
    refine WL_step rfl rfl (r_assign rfl) ?_
    refine WL_nil ?_
    refine thn_nrm (_hK_10 _ _ ?_)
    clear _hK_10
    refine W_seq fun _K_11 _hK_11 => ?_
    refine W_drawC [] 6 mixed rfl fun _w_12 _cw_12 => ?_
    have _cw_12z := _cw_12.size
    have E := E.trans _cw_12
    have _f_13 := (_F0_1.ch0 _cw_12)
    refine DR_s 0 rfl (by kernel_rfl) rfl rfl (t_loadAtA0 _f_13.at_ (fun i hi => absurd hi List.not_mem_nil) agg106 sz106 rfl ?_)
    refine DR_s 1 rfl (by kernel_rfl) rfl rfl (t_v (fun _ => (r_move rfl)) ?_)
    refine DR_s 2 rfl (by kernel_rfl) rfl rfl (t_v (fun _ => (r_move rfl)) ?_)
    have _f_14 := ((_h_s.ch0 _E0h).ch0 _cw_12)
    refine DR_s 3 rfl (by kernel_rfl) rfl rfl (t_index _f_14 Pair.len el37 sz106 rfl rfl rfl (by omega) fun _p14 _y14 _hy14 _a14 => ?_)
    refine DR_s 4 rfl (by kernel_rfl) rfl rfl (t_loadAtA0 _a14 (fun i hi => absurd hi List.not_mem_nil) agg106 sz106 rfl ?_)
    refine DR_s 5 rfl (by kernel_rfl) rfl rfl (t_v (fun _ => (r_eqlI [x.f, x.t] [_y14.f, _y14.t] ist106 rfl rfl rfl)) ?_)
    refine DR_done (by kernel_rfl) ?_
    refine thn_nrm (_hK_11 _ _ ?_)
    clear _hK_11
    refine W_cond rfl (fun _h16 => ?_) (fun _h16 => ?_)
    · have _kb_15 := _h16
      have _h16 := bt_d _h16
      refine W_seq fun _K_16 _hK_16 => ?_
      refine W_region ?_
      refine WL_step rfl rfl (r_move rfl) ?_
      refine WL_step rfl rfl (r_assign rfl) ?_
      refine WL_nil ?_
      refine thn_nrm (_hK_16 _ _ ?_)
      clear _hK_16
      refine W_ret (inB_ret (thn_ret (thn_ret (inB_ret (thn_ret ?_)))))
      clear _hK_3 _hK_9
      exact ret_intro [_] ⟨rfl, trivial⟩ ⟨congrArg (Value.int .i64) (by first | exact ixP_y _ht _hy14 (decide_eq_true (Pair.inj _h16)) | exact ixP_n _ht (by omega)), E⟩
    · have _kb_15 := _h16
      have _h16 := bf_d _h16
      refine W_skip ?_
      refine inB_nrm ?_
      refine thn_nrm (_hK_9 _ _ ?_)
      clear _hK_9
      refine W_region ?_
      refine WL_step rfl rfl (r_add (by omega) rfl rfl) ?_
      refine WL_step rfl rfl (r_move rfl) ?_
      refine WL_nil ?_
      exact thn_nrm (Exists.intro (k + 1) ⟨⟨E, (by omega), (by omega), (ixP_step _ht _hy14 (decide_eq_false (fun e => _h16 (by rw [e])))), _f_13⟩, Sub.cons rfl (Sub.cons rfl (Sub.cons rfl (Sub.cons rfl (Sub.nil _)))), (by first | omega | (dsimp only; omega))⟩)
  · have _kb_8 := _h9
    have _h9 := bf_d _h9
    refine W_exit (thn_exit (thn_exit (inB_hit ?_)))
    refine thn_nrm (_hK_3 _ _ ?_)
    clear _hK_3
    refine W_seq fun _K_17 _hK_17 => ?_
    refine W_region ?_
    refine WL_step rfl rfl (r_assign rfl) ?_
    refine WL_nil ?_
    refine thn_nrm (_hK_17 _ _ ?_)
    clear _hK_17
    refine W_ret ?_
    clear _hK_7
    exact ret_intro [_] ⟨rfl, trivial⟩ ⟨congrArg (Value.int .i64) (by first | exact ixP_y _ht _hy14 (decide_eq_true (Pair.inj _h16)) | exact ixP_n _ht (by omega)), E⟩

/-- slices.Contains[[]impl.Pair,impl.Pair] -/
theorem c_slices_Contains_impl_Pair_impl_Pair {w : World} {LL_s _B_s : Nat} {_v_s : Value} {s : List Pair} (_h_s : Ls Pair.cs 2 w LL_s _B_s _v_s s) (x : Pair) :
    Ctr Try.prog 71 #[_v_s, (.agg #[(.int .i64 x.f), (.int .i64 x.t)])] w (fun v w' => v = .bool (decide (x ∈ s)) ∧ Ch [] w w') := by
  obtain ⟨_A_s, _C_s, _e1_s⟩ := _h_s.val
  subst _e1_s
  have _l_s := _h_s.len
  have _h_s := _h_s.here (by decide)
  have E := Ch.refl [] w
  refine Ctr_of_W (N := 9) (vs0 := [(.slice _A_s s.length _C_s), (.agg #[(.int .i64 x.f), (.int .i64 x.t)])]) Try.func71 rfl rfl rfl ?_
  refine W_seq fun _K_1 _hK_1 => ?_
  refine W_region ?_
  refine WL_s rfl rfl ?_
  refine s_box rfl fun _b3 _w_2 _m3 _cw_2 _e3 => ?_
  have _cw_2z := _cw_2.size
  have E := E.trans _cw_2
  have _z3 := _m3.lt
  replace _m3 : Blk _w_2 _b3 106 [(.int .i64 x.f), (.int .i64 x.t)] := _m3
  refine WL_step rfl rfl (r_assign rfl) ?_
  refine WL_nil ?_
  refine thn_nrm (_hK_1 _ _ ?_)
  clear _hK_1
  refine W_seq fun _K_3 _hK_3 => ?_
  refine W_region ?_
  refine WL_step rfl rfl (r_move rfl) ?_
  refine WL_step rfl rfl (r_loadAtA0 _m3.at_ agg106 sz106 rfl) ?_
  refine WL_s rfl rfl ?_
  have _f_4 := (_h_s.ch0 _cw_2)
  refine Step.call (r_call (xs := [.tmp 5, .tmp 6]) fk125 rfl) (c_slices_Index_impl_Pair_impl_Pair _f_4 x ) fun _v7 _w_5 _q7 => ?_
  obtain ⟨rfl, _cw_5⟩ := _q7
  have _cw_5z := _cw_5.size
  have E := E.trans _cw_5
  refine WL_step rfl rfl (r_geq rfl rfl) ?_
  refine WL_step rfl rfl (r_assign rfl) ?_
  refine WL_nil ?_
  refine thn_nrm (_hK_3 _ _ ?_)
  clear _hK_3
  refine W_ret ?_
  exact ret_intro [_] ⟨rfl, trivial⟩ ⟨congrArg Value.bool ixP_mem, E⟩

/-- impl.SubtractPairs$1 -/
theorem c_impl_SubtractPairs_1 {w : World} (p : Pair) {LL_b _B_b : Nat} {_v_b : Value} {b : List Pair} (_h_b : Ls Pair.cs 2 w LL_b _B_b _v_b b) {b_b t_b : Nat} (_hb_b : Blk w b_b t_b [_v_b]) :
    Ctr Try.prog 70 #[(.agg #[(.int .i64 p.f), (.int .i64 p.t)]), (.pointer (some ⟨b_b, 0, none⟩))] w (fun v w' => v = .bool (decide (p ∈ b)) ∧ Ch [] w w') := by
  obtain ⟨_A_b, _C_b, _e1_b⟩ := _h_b.val
  subst _e1_b
  have _l_b := _h_b.len
  have _h_b := _h_b.here (by decide)
  have _zb_b := _hb_b.lt
  have E := Ch.refl [] w
  refine Ctr_of_W (N := 7) (vs0 := [(.agg #[(.int .i64 p.f), (.int .i64 p.t)]), (.pointer (some ⟨b_b, 0, none⟩))]) Try.func70 rfl rfl rfl ?_
  refine W_seq fun _K_1 _hK_1 => ?_
  refine W_region ?_
  refine WL_s rfl rfl ?_
  refine s_box rfl fun _b2 _w_2 _m2 _cw_2 _e2 => ?_
  have _cw_2z := _cw_2.size
  have E := E.trans _cw_2
  have _z2 := _m2.lt
  replace _m2 : Blk _w_2 _b2 106 [(.int .i64 p.f), (.int .i64 p.t)] := _m2
  refine WL_step rfl rfl (r_assign rfl) ?_
  refine WL_nil ?_
  refine thn_nrm (_hK_1 _ _ ?_)
  clear _hK_1
  refine W_seq fun _K_3 _hK_3 => ?_
  refine W_region ?_
  have _f_4 := (_hb_b.ch0 _cw_2)
  refine WL_step rfl rfl (r_loadAt0 _f_4.at_ agg37 rfl rfl) ?_
  refine WL_step rfl rfl (r_loadAtA0 _m2.at_ agg106 sz106 rfl) ?_
  refine WL_s rfl rfl ?_
  have _f_5 := (_h_b.ch0 _cw_2)
  refine Step.call (r_call (xs := [.tmp 4, .tmp 5]) fk71 rfl) (c_slices_Contains_impl_Pair_impl_Pair _f_5 p ) fun _v6 _w_6 _q6 => ?_
  obtain ⟨rfl, _cw_6⟩ := _q6
  have _cw_6z := _cw_6.size
  have E := E.trans _cw_6
  refine WL_step rfl rfl (r_assign rfl) ?_
  refine WL_nil ?_
  refine thn_nrm (_hK_3 _ _ ?_)
  clear _hK_3
  refine W_ret ?_
  exact ret_intro [_] ⟨rfl, trivial⟩ ⟨congrArg Value.bool rfl, E⟩

/-- slices.IndexFunc[[]impl.Pair,impl.Pair] -/
theorem c_slices_IndexFunc_impl_Pair_impl_Pair {w : World} {LL_s _B_s : Nat} {_v_s : Value} {s : List Pair} (_h_s : Ls Pair.cs 2 w LL_s _B_s _v_s s) {LL_fc0 _B_fc0 : Nat} {_v_fc0 : Value} {fc0 : List Pair} (_h_fc0 : Ls Pair.cs 2 w LL_fc0 _B_fc0 _v_fc0 fc0) {b_fc0 t_fc0 : Nat} (_hb_fc0 : Blk w b_fc0 t_fc0 [_v_fc0]) :
    Ctr Try.prog 124 #[_v_s, (.func (.func 70) #[] #[(.pointer (some ⟨b_fc0, 0, none⟩))])] w (fun v w' => v = .int .i64 (ixP (fun y => decide (y ∈ fc0)) s) ∧ Ch [] w w') := by
  obtain ⟨_A_s, _C_s, _e1_s⟩ := _h_s.val
  subst _e1_s
  have _l_s := _h_s.len
  have _h_s := _h_s.here (by decide)
  obtain ⟨_A_fc0, _C_fc0, _e1_fc0⟩ := _h_fc0.val
  subst _e1_fc0
  have _l_fc0 := _h_fc0.len
  have _h_fc0 := _h_fc0.here (by decide)
  have _zb_fc0 := _hb_fc0.lt
  have E := Ch.refl [] w
  refine Ctr_of_W (N := 19) (vs0 := [(.slice _A_s s.length _C_s), (.func (.func 70) #[] #[(.pointer (some ⟨b_fc0, 0, none⟩))])]) Try.func124 rfl rfl rfl ?_
  refine W_seq fun _K_1 _hK_1 => ?_
  refine W_region ?_
  refine WL_step rfl rfl (r_assign rfl) ?_
  refine WL_nil ?_
  refine thn_nrm (_hK_1 _ _ ?_)
  clear _hK_1
  refine W_seq fun _K_2 _hK_2 => ?_
  refine W_seq fun _K_3 _hK_3 => ?_
  refine W_region ?_
  refine WL_step rfl rfl (r_move rfl) ?_
  refine WL_step rfl rfl (r_len (by rw [el37]; rfl) rfl) ?_
  refine WL_step rfl rfl (r_move rfl) ?_
  refine WL_nil ?_
  refine thn_nrm (_hK_3 _ _ ?_)
  clear _hK_3
  refine W_block ?_
  refine W_loop (σ := Nat) (fun (k : Nat) => [(0, (.slice _A_s s.length _C_s)), (1, (.func (.func 70) #[] #[(.pointer (some ⟨b_fc0, 0, none⟩))])), (7, (.int .i64 ((s.length : Nat) : Int))), (8, (.int .i64 ((k : Nat) : Int)))]) (fun (k : Nat) wx => Ch [] w wx ∧ w.heap.size ≤ wx.heap.size ∧ (k ≤ s.length) ∧ ((s.take k).any (fun y => decide (y ∈ fc0)) = false)) (fun (k : Nat) => s.length - k) 0 (Sub.cons rfl (Sub.cons rfl (Sub.cons rfl (Sub.cons rfl (Sub.nil _))))) ⟨E, (Nat.le_refl _), (by omega), (by simp)⟩ ?_
  rintro k _wr_4 ⟨E, _zz0, _hk, _ht⟩
  have _E0h := E
  have _E0hz := _E0h.size
  refine W_seq fun _K_5 _hK_5 => ?_
  refine W_region ?_
  refine WL_step rfl rfl (r_lss rfl rfl) ?_
  refine WL_nil ?_
  refine thn_nrm (_hK_5 _ _ ?_)
  clear _hK_5
  refine W_seq fun _K_6 _hK_6 => ?_
  refine W_cond rfl (fun _h9 => ?_) (fun _h9 => ?_)
  · have _kb_7 := _h9
    have _h9 := bt_d _h9
    refine W_skip ?_
    refine thn_nrm (_hK_6 _ _ ?_)
    clear _hK_6
    refine W_seq fun _K_8 _hK_8 => ?_
    refine W_block ?_
    refine W_seq fun _K_9 _hK_9 => ?_
    refine W_region ?_
    refine WL_step rfl rfl (r_move rfl) ?_
    refine WL_step rfl rfl (r_assign rfl) ?_
    refine WL_nil ?_
    refine thn_nrm (_hK_9 _ _ ?_)
    clear _hK_9
    refine W_seq fun _K_10 _hK_10 => ?_
    refine W_region ?_
    refine WL_step rfl rfl (r_move rfl) ?_
    refine WL_step rfl rfl (r_move rfl) ?_
    refine WL_step rfl rfl (r_move rfl) ?_
    refine WL_s rfl rfl ?_
    have _f_11 := (_h_s.ch0 _E0h)
    refine (s_index _f_11 Pair.len el37 sz106 rfl rfl rfl (by omega) fun _p14 _y14 _hy14 _a14 => ?_)
    refine WL_step rfl rfl (r_loadAtA0 _a14 agg106 sz106 rfl) ?_
    refine WL_s rfl rfl ?_
    have _f_12 := (_h_fc0.ch0 _E0h)
    have _f_13 := (_hb_fc0.ch0 _E0h)
    refine Step.call (r_callV (xs := [.tmp 15]) (as' := [(.agg #[(.int .i64 _y14.f), (.int .i64 _y14.t)]), (.pointer (some ⟨b_fc0, 0, none⟩))]) fk70 rfl rfl rfl) (c_impl_SubtractPairs_1 _y14 _f_12 _f_13 ) fun _v16 _w_14 _q16 => ?_
    obtain ⟨rfl, _cw_14⟩ := _q16
    have _cw_14z := _cw_14.size
    have E := E.trans _cw_14
    refine WL_nil ?_
    refine thn_nrm (_hK_10 _ _ ?_)
    clear _hK_10
    refine W_cond rfl (fun _h16 => ?_) (fun _h16 => ?_)
    · have _kb_15 := _h16
      have _h16 := bt_d _h16
      refine W_seq fun _K_16 _hK_16 => ?_
      refine W_region ?_
      refine WL_step rfl rfl (r_move rfl) ?_
      refine WL_step rfl rfl (r_assign rfl) ?_
      refine WL_nil ?_
      refine thn_nrm (_hK_16 _ _ ?_)
      clear _hK_16
      refine W_ret (inB_ret (thn_ret (thn_ret (inB_ret (thn_ret ?_)))))
      clear _hK_2 _hK_8
      exact ret_intro [_] ⟨rfl, trivial⟩ ⟨congrArg (Value.int .i64) (by first | exact ixP_y _ht _hy14 (decide_eq_true _h16) | exact ixP_n _ht (by omega)), E⟩
    · have _kb_15 := _h16
      have _h16 := bf_d _h16
      refine W_skip ?_
      refine inB_nrm ?_
      refine thn_nrm (_hK_8 _ _ ?_)
      clear _hK_8
      refine W_region ?_
      refine WL_step rfl rfl (r_add (by omega) rfl rfl) ?_
      refine WL_step rfl rfl (r_move rfl) ?_
      refine WL_nil ?_
      exact thn_nrm (Exists.intro (k + 1) ⟨⟨E, (by omega), (by omega), (ixP_step _ht _hy14 (decide_eq_false _h16))⟩, Sub.cons rfl (Sub.cons rfl (Sub.cons rfl (Sub.cons rfl (Sub.nil _)))), (by first | omega | (dsimp only; omega))⟩)
  · have _kb_7 := _h9
    have _h9 := bf_d _h9
    refine W_exit (thn_exit (thn_exit (inB_hit ?_)))
    refine thn_nrm (_hK_2 _ _ ?_)
    clear _hK_2
    refine W_seq fun _K_17 _hK_17 => ?_
    refine W_region ?_
    refine WL_step rfl rfl (r_assign rfl) ?_
    refine WL_nil ?_
    refine thn_nrm (_hK_17 _ _ ?_)
    clear _hK_17
    refine W_ret ?_
    clear _hK_6
    exact ret_intro [_] ⟨rfl, trivial⟩ ⟨congrArg (Value.int .i64) (by first | exact ixP_y _ht _hy14 (decide_eq_true _h16) | exact ixP_n _ht (by omega)), E⟩

/-- slices.DeleteFunc[[]impl.Pair,impl.Pair] -/
theorem c_slices_DeleteFunc_impl_Pair_impl_Pair {w : World} {e_s : Nat} {_v_s : Value} {s : List Pair} (_h_s : Ol Pair.cs e_s 2 w _v_s s) {LL_delc0 _B_delc0 : Nat} {_v_delc0 : Value} {delc0 : List Pair} (_h_delc0 : Ls Pair.cs 2 w LL_delc0 _B_delc0 _v_delc0 delc0) {b_delc0 t_delc0 : Nat} (_hb_delc0 : Blk w b_delc0 t_delc0 [_v_delc0]) (hb : s.length ≤ 4194304) (K9 : Nat) (_hk1 : _B_delc0 ≤ K9) (_hk2 : b_delc0 < K9) (_hk3 : Lo K9 _v_s) (_hk4 : K9 ≤ w.heap.size) :
    Ctr Try.prog 69 #[_v_s, (.func (.func 70) #[] #[(.pointer (some ⟨b_delc0, 0, none⟩))])] w (fun v w' => Ol Pair.cs e_s 2 w' v (s.filter (fun y => !decide (y ∈ delc0))) ∧ bl v = bl _v_s ∧ Ch (bl _v_s) w w') := by
  obtain ⟨_A_s, _C_s, _e1_s⟩ := _h_s.val
  subst _e1_s
  have _l_s := _h_s.len
  have _lt_s := _h_s.lt
  obtain ⟨_A_delc0, _C_delc0, _e1_delc0⟩ := _h_delc0.val
  subst _e1_delc0
  have _l_delc0 := _h_delc0.len
  have _zb_delc0 := _hb_delc0.lt
  have E := Ch.refl (bl (.slice _A_s s.length _C_s)) w
  refine Ctr_of_W (N := 42) (vs0 := [(.slice _A_s s.length _C_s), (.func (.func 70) #[] #[(.pointer (some ⟨b_delc0, 0, none⟩))])]) Try.func69 rfl rfl rfl ?_
  refine W_seq fun _K_1 _hK_1 => ?_
  refine W_region ?_
  refine WL_step rfl rfl (r_assign rfl) ?_
  refine WL_nil ?_
  refine thn_nrm (_hK_1 _ _ ?_)
  clear _hK_1
  refine W_seq fun _K_2 _hK_2 => ?_
  refine W_region ?_
  refine WL_step rfl rfl (r_move rfl) ?_
  refine WL_step rfl rfl (r_move rfl) ?_
  refine WL_s rfl rfl ?_
  refine Step.call (r_call (xs := [.tmp 8, .tmp 9]) fk124 rfl) (c_slices_IndexFunc_impl_Pair_impl_Pair _h_s.ls _h_delc0 _hb_delc0 ) fun _v10 _w_3 _q10 => ?_
  obtain ⟨rfl, _cw_3⟩ := _q10
  have _cw_3z := _cw_3.size
  have E := E.trans _cw_3.of_nil
  refine WL_step rfl rfl (r_assign rfl) ?_
  refine WL_nil ?_
  refine thn_nrm (_hK_2 _ _ ?_)
  clear _hK_2
  refine W_seq fun _K_4 _hK_4 => ?_
  refine W_seq fun _K_5 _hK_5 => ?_
  refine W_region ?_
  refine WL_step rfl rfl (r_move rfl) ?_
  refine WL_step rfl rfl (r_eql rfl rfl) ?_
  refine WL_nil ?_
  refine thn_nrm (_hK_5 _ _ ?_)
  clear _hK_5
  refine W_cond rfl (fun _h12 => ?_) (fun _h12 => ?_)
  · have _kb_6 := _h12
    have _h12 := bt_d _h12
    refine W_seq fun _K_7 _hK_7 => ?_
    refine W_region ?_
    refine WL_step rfl rfl (r_move rfl) ?_
    refine WL_step rfl rfl (r_assign rfl) ?_
    refine WL_nil ?_
    refine thn_nrm (_hK_7 _ _ ?_)
    clear _hK_7
    refine W_ret (thn_ret ?_)
    clear _hK_4
    have _f_9 := (_h_s.ch0 _cw_3)
    have _o_8 : Ol Pair.cs e_s 2 _w_3 (.slice _A_s s.length _C_s) (s.filter (fun y => !decide (y ∈ delc0))) := by
      have hx := _f_9
      first | exact hx.eq (ixP_none _h12).symm | (exact hx.eq (dfi_end hD (by have _z9 := hD.len; omega)))
    exact ret_intro [_] ⟨rfl, trivial⟩ ⟨_o_8, rfl, E⟩
  · have _kb_6 := _h12
    have _h12 := bf_d _h12
    obtain ⟨k0, _hk0, hD0⟩ := dfi_0 _h12
    rw [_hk0]
    have kl0 := hD0.jl
    refine W_skip ?_
    refine thn_nrm (_hK_4 _ _ ?_)
    clear _hK_4
    refine W_seq fun _K_10 _hK_10 => ?_
    refine W_seq fun _K_11 _hK_11 => ?_
    refine W_region ?_
    refine WL_step rfl rfl (r_move rfl) ?_
    refine WL_step rfl rfl (r_add (by omega) rfl rfl) ?_
    refine WL_step rfl rfl (r_assign rfl) ?_
    refine WL_nil ?_
    refine thn_nrm (_hK_11 _ _ ?_)
    clear _hK_11
    refine W_block ?_
    have _f_12 := (_h_s.ch0 _cw_3)
    have _oi_13 : Ol Pair.cs e_s 2 _w_3 (.slice _A_s s.length _C_s) (s) := by
      have hx := _f_12
      exact hx
    refine W_loop (σ := Nat × Nat × List Pair) (fun ⟨j, i, L⟩ => [(0, (.slice _A_s s.length _C_s)), (1, (.func (.func 70) #[] #[(.pointer (some ⟨b_delc0, 0, none⟩))])), (4, (.slice none 0 0)), (5, (.int .i64 ((i : Nat) : Int))), (6, (.int .i64 ((j : Nat) : Int)))]) (fun ⟨j, i, L⟩ wx => Ch (bl (.slice _A_s s.length _C_s)) w wx ∧ _w_3.heap.size ≤ wx.heap.size ∧ (DfI (fun y => decide (y ∈ delc0)) s L i j) ∧ Ol Pair.cs e_s 2 wx (.slice _A_s s.length _C_s) L) (fun ⟨j, i, L⟩ => s.length - j) ((k0 + 1), k0, s) (Sub.cons rfl (Sub.cons rfl (Sub.cons rfl (Sub.cons rfl (Sub.cons rfl (Sub.nil _)))))) ⟨E, (Nat.le_refl _), hD0, _oi_13⟩ ?_
    rintro ⟨j, i, L⟩ _wr_14 ⟨E, _zz0, hD, _o0_0⟩
    have _E0h := E
    have _E0hz := _E0h.size
    have il9 := hD.len
    have jl9 := hD.jl
    have ij9 := hD.ij
    refine W_seq fun _K_15 _hK_15 => ?_
    refine W_seq fun _K_16 _hK_16 => ?_
    refine W_region ?_
    refine WL_step rfl rfl (r_move rfl) ?_
    refine WL_step rfl rfl (r_move rfl) ?_
    refine WL_step rfl rfl (r_len (by rw [el37]; rfl) rfl) ?_
    refine WL_step rfl rfl (r_lss rfl rfl) ?_
    refine WL_nil ?_
    refine thn_nrm (_hK_16 _ _ ?_)
    clear _hK_16
    refine W_cond rfl (fun _h19 => ?_) (fun _h19 => ?_)
    · have _kb_17 := _h19
      have _h19 := bt_d _h19
      refine W_skip ?_
      refine thn_nrm (_hK_15 _ _ ?_)
      clear _hK_15
      refine W_seq fun _K_18 _hK_18 => ?_
      refine W_block ?_
      refine W_seq fun _K_19 _hK_19 => ?_
      refine W_region ?_
      refine WL_step rfl rfl (r_move rfl) ?_
      refine WL_step rfl rfl (r_move rfl) ?_
      refine WL_s rfl rfl ?_
      refine (s_index _o0_0.ls Pair.len el37 sz106 rfl rfl rfl (by omega) fun _p24 _y24 _hy24 _a24 => ?_)
      refine WL_step rfl rfl (r_loadAtA0 _a24 agg106 sz106 rfl) ?_
      refine WL_s rfl rfl ?_
      refine s_alloc zr106 fun _b7 _w_20 _m7 _cw_20 _e7 => ?_
      have _cw_20z := _cw_20.size
      have E := E.trans _cw_20.of_nil
      have _z7 := _m7.lt
      replace _m7 : Blk _w_20 _b7 106 [(.int .i64 0), (.int .i64 0)] := _m7
      refine WL_s rfl rfl ?_
      refine s_storeA (off := 0) 2 _m7 sz106 rfl (us := [(.int .i64 _y24.f), (.int .i64 _y24.t)]) rfl rfl rfl rfl fun _w_21 _m_22 _cw_21 => ?_
      have _cw_21z := _cw_21.size
      have E := E.step _cw_21 (fun i hi => .inl (by have _h1 := List.mem_singleton.1 hi; omega))
      replace _m_22 : Blk _w_21 _b7 106 [(.int .i64 _y24.f), (.int .i64 _y24.t)] := _m_22
      refine WL_nil ?_
      refine thn_nrm (_hK_19 _ _ ?_)
      clear _hK_19
      refine W_seq fun _K_23 _hK_23 => ?_
      refine W_region ?_
      refine WL_step rfl rfl (r_move rfl) ?_
      refine WL_step rfl rfl (r_loadAtA0 _m_22.at_ agg106 sz106 rfl) ?_
      refine WL_s rfl rfl ?_
      have _f_24 := (((_h_delc0.ch _E0h (fun i hi => by have _h1 := _hk3 _ hi; omega)).ch0 _cw_20).ch _cw_21 (fun i hi => by have _h1 := List.mem_singleton.1 hi; omega))
      have _f_25 := (((_hb_delc0.ch _E0h (fun hm => by have _h1 := _hk3 _ hm; have _h2 := _lt_s _ hm; omega)).ch0 _cw_20).ch _cw_21 (fun hm => by have _h1 := List.mem_singleton.1 hm; omega))
      refine Step.call (r_callV (xs := [.tmp 27]) (as' := [(.agg #[(.int .i64 _y24.f), (.int .i64 _y24.t)]), (.pointer (some ⟨b_delc0, 0, none⟩))]) fk70 rfl rfl rfl) (c_impl_SubtractPairs_1 _y24 _f_24 _f_25 ) fun _v28 _w_26 _q28 => ?_
      obtain ⟨rfl, _cw_26⟩ := _q28
      have _cw_26z := _cw_26.size
      have E := E.trans _cw_26.of_nil
      refine WL_step rfl rfl (r_not rfl) ?_
      refine WL_nil ?_
      refine thn_nrm (_hK_23 _ _ ?_)
      clear _hK_23
      refine W_cond rfl (fun _h29 => ?_) (fun _h29 => ?_)
      · have _kb_27 := _h29
        have _h29 := bf_d (bt_n _h29)
        refine W_seq fun _K_28 _hK_28 => ?_
        refine W_region ?_
        refine WL_step rfl rfl (r_move rfl) ?_
        refine WL_step rfl rfl (r_move rfl) ?_
        have _f_29 := (_m_22.ch0 _cw_26)
        refine WL_step rfl rfl (r_loadAtA0 _f_29.at_ agg106 sz106 rfl) ?_
        refine WL_s rfl rfl ?_
        have _f_30 := (((_o0_0.ch0 _cw_20).ch _cw_21 (fun g hg hm => by have _h0 := List.mem_singleton.1 hm; have _h2 := _hk3 _ hg; have _h3 := _lt_s _ hg; omega)).ch0 _cw_26)
        refine s_indexO (j := i) _f_30 el37 sz106 rfl rfl rfl (by have _z9 := hD.len; have _z8 := hD.jl; have _z7 := hD.ij; omega) fun _g33 _o33 _cp33 _q33 => ?_
        refine WL_s rfl rfl ?_
        refine s_storeO (j := i) _y24 _f_30 _q33 Pair.len sz106 rfl rfl rfl rfl (by have _z9 := hD.len; have _z8 := hD.jl; have _z7 := hD.ij; omega) fun _w_31 _o_32 _cw_31 => ?_
        have _cw_31z := _cw_31.size
        have E := E.trans _cw_31
        refine WL_nil ?_
        refine thn_nrm (_hK_28 _ _ ?_)
        clear _hK_28
        refine W_region ?_
        refine WL_step rfl rfl (r_move rfl) ?_
        refine WL_step rfl rfl (r_add (by omega) rfl rfl) ?_
        refine WL_step rfl rfl (r_assign rfl) ?_
        refine WL_nil ?_
        refine inB_nrm ?_
        refine thn_nrm (_hK_18 _ _ ?_)
        clear _hK_18
        refine W_region ?_
        refine WL_step rfl rfl (r_move rfl) ?_
        refine WL_step rfl rfl (r_add (by omega) rfl rfl) ?_
        refine WL_step rfl rfl (r_assign rfl) ?_
        refine WL_nil ?_
        have _on_33 : Ol Pair.cs e_s 2 _w_31 (.slice _A_s s.length _C_s) ((L.set i _y24)) := by
          have hx := _o_32
          exact hx
        exact thn_nrm (Exists.intro ((j + 1), (i + 1), (L.set i _y24)) ⟨⟨E, (by omega), (by first | exact dfi_y hD _hy24 (decide_eq_true _h29) | exact dfi_n hD _hy24 (decide_eq_false _h29)), _on_33⟩, Sub.cons rfl (Sub.cons rfl (Sub.cons rfl (Sub.cons rfl (Sub.cons rfl (Sub.nil _))))), (by first | omega | (dsimp only; omega))⟩)
      · have _kb_27 := _h29
        have _h29 := bt_d (bf_n _h29)
        refine W_skip ?_
        refine inB_nrm ?_
        refine thn_nrm (_hK_18 _ _ ?_)
        clear _hK_18
        refine W_region ?_
        refine WL_step rfl rfl (r_move rfl) ?_
        refine WL_step rfl rfl (r_add (by omega) rfl rfl) ?_
        refine WL_step rfl rfl (r_assign rfl) ?_
        refine WL_nil ?_
        have _f_35 := (((_o0_0.ch0 _cw_20).ch _cw_21 (fun g hg hm => by have _h0 := List.mem_singleton.1 hm; have _h2 := _hk3 _ hg; have _h3 := _lt_s _ hg; omega)).ch0 _cw_26)
        have _on_34 : Ol Pair.cs e_s 2 _w_26 (.slice _A_s s.length _C_s) (L) := by
          have hx := _f_35
          exact hx
        exact thn_nrm (Exists.intro ((j + 1), i, L) ⟨⟨E, (by omega), (by first | exact dfi_y hD _hy24 (decide_eq_true _h29) | exact dfi_n hD _hy24 (decide_eq_false _h29)), _on_34⟩, Sub.cons rfl (Sub.cons rfl (Sub.cons rfl (Sub.cons rfl (Sub.cons rfl (Sub.nil _))))), (by first | omega | (dsimp only; omega))⟩)
    · have _kb_17 := _h19
      have _h19 := bf_d _h19
      refine W_exit (thn_exit (thn_exit (inB_hit ?_)))
      refine thn_nrm (_hK_10 _ _ ?_)
      clear _hK_10
      refine W_seq fun _K_36 _hK_36 => ?_
      refine W_region ?_
      refine WL_step rfl rfl (r_move rfl) ?_
      refine WL_step rfl rfl (r_move rfl) ?_
      refine WL_s rfl rfl ?_
      refine (s_cutOV (ys := (L.drop i)) i L.length _o0_0 Pair.len el37 sz106 rfl ⟨_, _, rfl, by omega⟩ rfl (by first | omega | (have _z9 := hD.len; have _z8 := hD.jl; have _z7 := hD.ij; simp <;> omega)) (by first | omega | (have _z9 := hD.len; have _z8 := hD.jl; have _z7 := hD.ij; simp <;> omega)) (cut_all _ _) fun _v38 vw38 _q38 _bb38 _ln38 => ?_)
      obtain ⟨_A38, _C38, _e38⟩ := _q38.val
      subst _e38
      have _l38 := _q38.len
      have hi38 := _q38.lt
      refine WL_s rfl rfl ?_
      refine s_clear (lo := i) (zro := (⟨0, 0⟩ : Pair)) _o0_0 vw38 Pair.len el37 sz106 zr106 rfl (Pair.one _) rfl (by first | omega | (have _z9 := hD.len; have _z8 := hD.jl; have _z7 := hD.ij; simp <;> omega)) fun _w_37 _o_38 _cw_37 => ?_
      have _cw_37z := _cw_37.size
      have E := E.trans _cw_37
      refine WL_nil ?_
      refine thn_nrm (_hK_36 _ _ ?_)
      clear _hK_36
      refine W_seq fun _K_39 _hK_39 => ?_
      refine W_region ?_
      refine WL_step rfl rfl (r_move rfl) ?_
      refine WL_step rfl rfl (r_move rfl) ?_
      refine WL_s rfl rfl ?_
      refine (s_cutO (ys := ((L.take i ++ List.replicate (L.length - i) (⟨0, 0⟩ : Pair)).take i)) 0 i _o_38 Pair.len el37 sz106 rfl rfl ⟨_, _, rfl, by omega⟩ (by first | omega | (have _z9 := hD.len; have _z8 := hD.jl; have _z7 := hD.ij; simp <;> omega)) (by first | omega | (have _z9 := hD.len; have _z8 := hD.jl; have _z7 := hD.ij; simp <;> omega)) rfl fun _v41 _q41 _bb41 _ln41 => ?_)
      obtain ⟨_A41, _C41, _e41⟩ := _q41.val
      subst _e41
      have _l41 := _q41.len
      have hi41 := _q41.lt
      refine WL_step rfl rfl (r_assign rfl) ?_
      refine WL_nil ?_
      refine thn_nrm (_hK_39 _ _ ?_)
      clear _hK_39
      refine W_ret ?_
      clear _hK_15
      have _o_40 : Ol Pair.cs e_s 2 _w_37 (.slice _A41 (((L.take i ++ List.replicate (L.length - i) (⟨0, 0⟩ : Pair)).take i)).length _C41) (s.filter (fun y => !decide (y ∈ delc0))) := by
        have hx := _q41
        first | exact hx.eq (ixP_none _h12).symm | (exact hx.eq (dfi_end hD (by have _z9 := hD.len; omega)))
      exact ret_intro [_] ⟨rfl, trivial⟩ ⟨_o_40, _bb41, E⟩

/-- impl.SubtractPairs -/
theorem c_impl_SubtractPairs {w : World} {LL_a _B_a : Nat} {_v_a : Value} {a : List Pair} (_h_a : Ls Pair.cs 2 w LL_a _B_a _v_a a) {LL_b _B_b : Nat} {_v_b : Value} {b : List Pair} (_h_b : Ls Pair.cs 2 w LL_b _B_b _v_b b) (hb : a.length + b.length ≤ 4194304) :
    Ctr Try.prog 24 #[_v_a, _v_b] w (fun v w' => Ol Pair.cs 106 2 w' v (subR a b) ∧ Lo w.heap.size v ∧ Ch [] w w') := by
  obtain ⟨_A_a, _C_a, _e1_a⟩ := _h_a.val
  subst _e1_a
  have _l_a := _h_a.len
  have _h_a := _h_a.here (by decide)
  obtain ⟨_A_b, _C_b, _e1_b⟩ := _h_b.val
  subst _e1_b
  have _l_b := _h_b.len
  have _h_b := _h_b.here (by decide)
  have E := Ch.refl [] w
  refine Ctr_of_W (N := 9) (vs0 := [(.slice _A_a a.length _C_a), (.slice _A_b b.length _C_b)]) Try.func24 rfl rfl rfl ?_
  refine W_seq fun _K_1 _hK_1 => ?_
  refine W_region ?_
  refine WL_s rfl rfl ?_
  refine s_box rfl fun _b3 _w_2 _m3 _cw_2 _e3 => ?_
  have _cw_2z := _cw_2.size
  have E := E.trans _cw_2
  have _z3 := _m3.lt
  replace _m3 : Blk _w_2 _b3 37 [(.slice _A_b b.length _C_b)] := _m3
  refine WL_step rfl rfl (r_assign rfl) ?_
  refine WL_nil ?_
  refine thn_nrm (_hK_1 _ _ ?_)
  clear _hK_1
  refine W_seq fun _K_3 _hK_3 => ?_
  refine W_region ?_
  refine WL_step rfl rfl (r_move rfl) ?_
  refine WL_s rfl rfl ?_
  have _f_4 := (_h_a.ch0 _cw_2)
  refine Step.call (r_call (xs := [.tmp 5]) fk66 rfl) (c_impl_pairSet _f_4 (by first | omega | (simp <;> omega))) fun _v6 _w_5 _q6 => ?_
  obtain ⟨_q6, _lo6, _cw_5⟩ := _q6
  have _cw_5z := _cw_5.size
  have E := E.trans _cw_5
  obtain ⟨_Av6, _Cv6, _ev6⟩ := _q6.val
  subst _ev6
  have _lv6 := _q6.len
  have _hiv6 := _q6.lt
  refine WL_step rfl rfl (r_makeFunc (xs := []) (ys := [.tmp 3]) rfl rfl) ?_
  refine WL_s rfl rfl ?_
  have _f_6 := ((_h_b.ch0 _cw_2).ch0 _cw_5)
  have _f_7 := (_m3.ch0 _cw_5)
  refine Step.call (r_call (xs := [.tmp 6, .tmp 7]) fk69 rfl) (c_slices_DeleteFunc_impl_Pair_impl_Pair _q6 _f_6 _f_7 (by have _z9 := psLen a; omega) _w_2.heap.size (by omega) (by omega) _lo6 (by omega)) fun _v8 _w_8 _q8 => ?_
  obtain ⟨_q8, _bb8, _cw_8⟩ := _q8
  have _cw_8z := _cw_8.size
  have E := E.step _cw_8 (fun i hi => .inl (by have _h1 := _lo6 _ hi; omega))
  obtain ⟨_Av8, _Cv8, _ev8⟩ := _q8.val
  subst _ev8
  have _lv8 := _q8.len
  have _hiv8 := _q8.lt
  refine WL_step rfl rfl (r_assign rfl) ?_
  refine WL_nil ?_
  refine thn_nrm (_hK_3 _ _ ?_)
  clear _hK_3
  refine W_ret ?_
  have _o_9 : Ol Pair.cs 106 2 _w_8 (.slice _Av8 ((psP a).filter (fun y => !decide (y ∈ b))).length _Cv8) (subR a b) := by
    have hx := _q8
    exact hx.eq (sub_ps _ _)
  exact ret_intro [_] ⟨rfl, trivial⟩ ⟨_o_9, Lo.down (fun g hg => _lo6 g (_bb8 ▸ hg)) (by omega), E⟩

/-- spec.l15Has -/
theorem c_spec_l15Has {w : World} {LL_l _B_l : Nat} {_v_l : Value} {l : List Pair} (_h_l : Ls Pair.cs 2 w LL_l _B_l _v_l l) (p : Pair) :
    Ctr Try.prog 68 #[_v_l, (.agg #[(.int .i64 p.f), (.int .i64 p.t)])] w (fun v w' => v = .bool (decide (p ∈ l)) ∧ Ch [] w w') := by
  obtain ⟨_A_l, _C_l, _e1_l⟩ := _h_l.val
  subst _e1_l
  have _l_l := _h_l.len
  have _h_l := _h_l.here (by decide)
  have E := Ch.refl [] w
  refine Ctr_of_W (N := 18) (vs0 := [(.slice _A_l l.length _C_l), (.agg #[(.int .i64 p.f), (.int .i64 p.t)])]) Try.func68 rfl rfl rfl ?_
  refine W_seq fun _K_1 _hK_1 => ?_
  refine W_region ?_
  refine WL_s rfl rfl ?_
  refine s_box rfl fun _b3 _w_2 _m3 _cw_2 _e3 => ?_
  have _cw_2z := _cw_2.size
  have E := E.trans _cw_2
  have _z3 := _m3.lt
  replace _m3 : Blk _w_2 _b3 106 [(.int .i64 p.f), (.int .i64 p.t)] := _m3
  refine WL_step rfl rfl (r_assign rfl) ?_
  refine WL_nil ?_
  refine thn_nrm (_hK_1 _ _ ?_)
  clear _hK_1
  refine W_seq fun _K_3 _hK_3 => ?_
  refine W_seq fun _K_4 _hK_4 => ?_
  refine W_region ?_
  refine WL_step rfl rfl (r_assign rfl) ?_
  refine WL_nil ?_
  refine thn_nrm (_hK_4 _ _ ?_)
  clear _hK_4
  refine W_block ?_
  refine W_loop (σ := Nat) (fun (k : Nat) => [(0, (.slice _A_l l.length _C_l)), (3, (.pointer (some ⟨_b3, 0, none⟩))), (5, (.int .i64 ((k : Nat) : Int)))]) (fun (k : Nat) wx => Ch [] w wx ∧ _w_2.heap.size ≤ wx.heap.size ∧ (k ≤ l.length) ∧ (p ∉ l.take k) ∧ Blk wx _b3 106 [(.int .i64 p.f), (.int .i64 p.t)]) (fun (k : Nat) => l.length - k) 0 (Sub.cons rfl (Sub.cons rfl (Sub.cons rfl (Sub.nil _)))) ⟨E, (Nat.le_refl _), (by omega), (by simp), _m3⟩ ?_
  rintro k _wr_5 ⟨E, _zz0, _hk, _ht, _F0_1⟩
  have _E0h := E
  have _E0hz := _E0h.size
  have _F0_1z := _F0_1.lt
  refine W_seq fun _K_6 _hK_6 => ?_
  refine W_seq fun _K_7 _hK_7 => ?_
  refine W_region ?_
  refine WL_step rfl rfl (r_move rfl) ?_
  refine WL_step rfl rfl (r_move rfl) ?_
  refine WL_step rfl rfl (r_len (by rw [el37]; rfl) rfl) ?_
  refine WL_step rfl rfl (r_lss rfl rfl) ?_
  refine WL_nil ?_
  refine thn_nrm (_hK_7 _ _ ?_)
  clear _hK_7
  refine W_cond rfl (fun _h9 => ?_) (fun _h9 => ?_)
  · have _kb_8 := _h9
    have _h9 := bt_d _h9
    refine W_skip ?_
    refine thn_nrm (_hK_6 _ _ ?_)
    clear _hK_6
    refine W_seq fun _K_9 _hK_9 => ?_
    refine W_block ?_
    refine W_seq fun _K_10 _hK_10 => ?_
    refine W_drawC [] 6 mixed rfl fun _w_11 _cw_11 => ?_
    have _cw_11z := _cw_11.size
    have E := E.trans _cw_11
    refine DR_s 0 rfl (by kernel_rfl) rfl rfl (t_v (fun _ => (r_move rfl)) ?_)
    refine DR_s 1 rfl (by kernel_rfl) rfl rfl (t_v (fun _ => (r_move rfl)) ?_)
    have _f_12 := ((_h_l.ch0 _E0h).ch0 _cw_11)
    refine DR_s 2 rfl (by kernel_rfl) rfl rfl (t_index _f_12 Pair.len el37 sz106 rfl rfl rfl (by omega) fun _p14 _y14 _hy14 _a14 => ?_)
    refine DR_s 3 rfl (by kernel_rfl) rfl rfl (t_loadAtA0 _a14 (fun i hi => absurd hi List.not_mem_nil) agg106 sz106 rfl ?_)
    have _f_13 := (_F0_1.ch0 _cw_11)
    refine DR_s 4 rfl (by kernel_rfl) rfl rfl (t_loadAtA0 _f_13.at_ (fun i hi => absurd hi List.not_mem_nil) agg106 sz106 rfl ?_)
    refine DR_s 5 rfl (by kernel_rfl) rfl rfl (t_v (fun _ => (r_eqlI [_y14.f, _y14.t] [p.f, p.t] ist106 rfl rfl rfl)) ?_)
    refine DR_done (by kernel_rfl) ?_
    refine thn_nrm (_hK_10 _ _ ?_)
    clear _hK_10
    refine W_cond rfl (fun _h17 => ?_) (fun _h17 => ?_)
    · have _kb_14 := _h17
      have _h17 := bt_d _h17
      refine W_seq fun _K_15 _hK_15 => ?_
      refine W_region ?_
      refine WL_step rfl rfl (r_assign rfl) ?_
      refine WL_nil ?_
      refine thn_nrm (_hK_15 _ _ ?_)
      clear _hK_15
      refine W_ret (inB_ret (thn_ret (thn_ret (inB_ret (thn_ret ?_)))))
      clear _hK_3 _hK_9
      exact ret_intro [_] ⟨rfl, trivial⟩ ⟨congrArg Value.bool (by first | exact (decide_eq_true (Pair.inj _h17 ▸ mem_of_get _hy14)).symm | exact (decide_eq_false (nomem_end _ht (by omega))).symm), E⟩
    · have _kb_14 := _h17
      have _h17 := bf_d _h17
      refine W_skip ?_
      refine inB_nrm ?_
      refine thn_nrm (_hK_9 _ _ ?_)
      clear _hK_9
      refine W_region ?_
      refine WL_step rfl rfl (r_move rfl) ?_
      refine WL_step rfl rfl (r_add (by omega) rfl rfl) ?_
      refine WL_step rfl rfl (r_assign rfl) ?_
      refine WL_nil ?_
      exact thn_nrm (Exists.intro (k + 1) ⟨⟨E, (by omega), (by omega), (nomem_step _ht _hy14 (fun e => _h17 (by rw [e]))), _f_13⟩, Sub.cons rfl (Sub.cons rfl (Sub.cons rfl (Sub.nil _))), (by first | omega | (dsimp only; omega))⟩)
  · have _kb_8 := _h9
    have _h9 := bf_d _h9
    refine W_exit (thn_exit (thn_exit (inB_hit ?_)))
    refine thn_nrm (_hK_3 _ _ ?_)
    clear _hK_3
    refine W_seq fun _K_16 _hK_16 => ?_
    refine W_region ?_
    refine WL_step rfl rfl (r_assign rfl) ?_
    refine WL_nil ?_
    refine thn_nrm (_hK_16 _ _ ?_)
    clear _hK_16
    refine W_ret ?_
    clear _hK_6
    exact ret_intro [_] ⟨rfl, trivial⟩ ⟨congrArg Value.bool (by first | exact (decide_eq_true (Pair.inj _h17 ▸ mem_of_get _hy14)).symm | exact (decide_eq_false (nomem_end _ht (by omega))).symm), E⟩

/-- spec.SubtractPairs -/
theorem c_spec_SubtractPairs {w : World} {LL_a _B_a : Nat} {_v_a : Value} {a : List Pair} (_h_a : Ls Pair.cs 2 w LL_a _B_a _v_a a) {LL_b _B_b : Nat} {_v_b : Value} {b : List Pair} (_h_b : Ls Pair.cs 2 w LL_b _B_b _v_b b) (hb : a.length + b.length ≤ 4194304) :
    Ctr Try.prog 23 #[_v_a, _v_b] w (fun v w' => Ol Pair.cs 106 2 w' v (subR a b) ∧ Lo w.heap.size v ∧ Ch [] w w') := by
  obtain ⟨_A_a, _C_a, _e1_a⟩ := _h_a.val
  subst _e1_a
  have _l_a := _h_a.len
  have _h_a := _h_a.here (by decide)
  obtain ⟨_A_b, _C_b, _e1_b⟩ := _h_b.val
  subst _e1_b
  have _l_b := _h_b.len
  have _h_b := _h_b.here (by decide)
  have E := Ch.refl [] w
  refine Ctr_of_W (N := 28) (vs0 := [(.slice _A_a a.length _C_a), (.slice _A_b b.length _C_b)]) Try.func23 rfl rfl rfl ?_
  refine W_seq fun _K_1 _hK_1 => ?_
  refine W_region ?_
  refine WL_step rfl rfl (r_assign rfl) ?_
  refine WL_nil ?_
  refine thn_nrm (_hK_1 _ _ ?_)
  clear _hK_1
  refine W_seq fun _K_2 _hK_2 => ?_
  refine W_region ?_
  refine WL_s rfl rfl ?_
  refine s_buildSlice0 (k := 2) Pair.cs el37 sz106 fun _v7 _w_3 _q7 _lo7 _cw_3 => ?_
  have _cw_3z := _cw_3.size
  have E := E.trans _cw_3
  obtain ⟨_Av7, _Cv7, _ev7⟩ := _q7.val
  subst _ev7
  have _lv7 := _q7.len
  have _hiv7 := _q7.lt
  refine WL_step rfl rfl (r_assign rfl) ?_
  refine WL_nil ?_
  refine thn_nrm (_hK_2 _ _ ?_)
  clear _hK_2
  refine W_seq fun _K_4 _hK_4 => ?_
  refine W_seq fun _K_5 _hK_5 => ?_
  refine W_region ?_
  refine WL_step rfl rfl (r_assign rfl) ?_
  refine WL_nil ?_
  refine thn_nrm (_hK_5 _ _ ?_)
  clear _hK_5
  refine W_block ?_
  have _oi_6 : Ol Pair.cs 106 2 _w_3 (.slice _Av7 (([] : List Pair)).length _Cv7) (subR (a.take 0) b) := by
    have hx := _q7
    exact hx
  refine W_loop (σ := Nat × Value) (fun ⟨k, kv⟩ => [(0, (.slice _A_a a.length _C_a)), (1, (.slice _A_b b.length _C_b)), (4, (.slice none 0 0)), (5, kv), (6, (.int .i64 ((k : Nat) : Int)))]) (fun ⟨k, kv⟩ wx => Ch [] w wx ∧ _w_3.heap.size ≤ wx.heap.size ∧ (k ≤ a.length) ∧ Ol Pair.cs 106 2 wx kv (subR (a.take k) b) ∧ Lo w.heap.size kv) (fun ⟨k, kv⟩ => a.length - k) (0, (.slice _Av7 (([] : List Pair)).length _Cv7)) (Sub.cons rfl (Sub.cons rfl (Sub.cons rfl (Sub.cons rfl (Sub.cons rfl (Sub.nil _)))))) ⟨E, (Nat.le_refl _), (by omega), _oi_6, _lo7⟩ ?_
  rintro ⟨k, kv⟩ _wr_7 ⟨E, _zz0, _hk, _o0_5, _lo0_5⟩
  have _E0h := E
  have _E0hz := _E0h.size
  obtain ⟨Akv, Ckv, ekv⟩ := _o0_5.val
  subst ekv
  have lkv := _o0_5.len
  have hikv := _o0_5.lt
  refine W_seq fun _K_8 _hK_8 => ?_
  refine W_seq fun _K_9 _hK_9 => ?_
  refine W_region ?_
  refine WL_step rfl rfl (r_move rfl) ?_
  refine WL_step rfl rfl (r_move rfl) ?_
  refine WL_step rfl rfl (r_len (by rw [el37]; rfl) rfl) ?_
  refine WL_step rfl rfl (r_lss rfl rfl) ?_
  refine WL_nil ?_
  refine thn_nrm (_hK_9 _ _ ?_)
  clear _hK_9
  refine W_cond rfl (fun _h11 => ?_) (fun _h11 => ?_)
  · have _kb_10 := _h11
    have _h11 := bt_d _h11
    refine W_skip ?_
    refine thn_nrm (_hK_8 _ _ ?_)
    clear _hK_8
    refine W_seq fun _K_11 _hK_11 => ?_
    refine W_block ?_
    refine W_seq fun _K_12 _hK_12 => ?_
    refine W_region ?_
    refine WL_step rfl rfl (r_move rfl) ?_
    refine WL_step rfl rfl (r_move rfl) ?_
    refine WL_step rfl rfl (r_move rfl) ?_
    refine WL_s rfl rfl ?_
    have _f_13 := (_h_a.ch0 _E0h)
    refine (s_index _f_13 Pair.len el37 sz106 rfl rfl rfl (by omega) fun _p17 _y17 _hy17 _a17 => ?_)
    have _q17 := sub_len (a.take k) b
    have r17 := List.length_take (l := a) (i := k)
    refine WL_step rfl rfl (r_loadAtA0 _a17 agg106 sz106 rfl) ?_
    refine WL_s rfl rfl ?_
    have _f_14 := (_h_b.ch0 _E0h)
    refine Step.call (r_call (xs := [.tmp 14, .tmp 18]) fk68 rfl) (c_spec_l15Has _f_14 _y17 ) fun _v19 _w_15 _q19 => ?_
    obtain ⟨rfl, _cw_15⟩ := _q19
    have _cw_15z := _cw_15.size
    have E := E.trans _cw_15
    refine WL_step rfl rfl (r_not rfl) ?_
    refine WL_nil ?_
    refine thn_nrm (_hK_12 _ _ ?_)
    clear _hK_12
    refine W_cond rfl (fun _h20 => ?_) (fun _h20 => ?_)
    · have _kb_16 := _h20
      have _h20 := bf_d (bt_n _h20)
      refine W_region ?_
      refine WL_step rfl rfl (r_move rfl) ?_
      refine WL_step rfl rfl (r_move rfl) ?_
      refine WL_step rfl rfl (r_move rfl) ?_
      refine WL_s rfl rfl ?_
      have _f_17 := (_f_13.ch0 _cw_15)
      refine (s_index _f_17 Pair.len el37 sz106 rfl rfl rfl (by omega) fun _p24 _y24 _hy24 _a24 => ?_)
      refine WL_step rfl rfl (r_loadAtA0 _a24 agg106 sz106 rfl) ?_
      refine WL_s rfl rfl ?_
      have _f_18 := (_o0_5.ch0 _cw_15)
      refine Step.call (r_call (xs := [.tmp 21, .tmp 25]) fk64 rfl) (c_spec_l15Put _f_18 _y24 (by first | exact psSrt _ | exact sub_srt _ _) (by first | omega | omega)) fun _v26 _w_19 _q26 => ?_
      obtain ⟨_q26, _ap26, _cw_19⟩ := _q26
      have _cw_19z := _cw_19.size
      have E := E.trans _cw_19
      obtain ⟨_Av26, _Cv26, _ev26⟩ := _q26.val
      subst _ev26
      have _lv26 := _q26.len
      have _hiv26 := _q26.lt
      have _lo26 : Lo w.heap.size (.slice _Av26 (putP (subR (a.take k) b) _y24).length _Cv26) := fun g hg => by rcases _ap26 with ea | ea; (rw [ea] at hg; exact _lo0_5 _ hg); (have _z1 := ea _ hg; omega)
      refine WL_step rfl rfl (r_assign rfl) ?_
      refine WL_nil ?_
      refine inB_nrm ?_
      refine thn_nrm (_hK_11 _ _ ?_)
      clear _hK_11
      refine W_region ?_
      refine WL_step rfl rfl (r_move rfl) ?_
      refine WL_step rfl rfl (r_add (by omega) rfl rfl) ?_
      refine WL_step rfl rfl (r_assign rfl) ?_
      refine WL_nil ?_
      have _on_20 : Ol Pair.cs 106 2 _w_19 (.slice _Av26 (putP (subR (a.take k) b) _y24).length _Cv26) (subR (a.take (k + 1)) b) := by
        have hx := _q26
        first | exact hx.eq (by rw [sub_step _hy17, if_pos _h20]) | (have _u9 := get_uniq _hy17 _hy24; exact hx.eq (by rw [sub_step _hy17, if_neg _h20, _u9]))
      exact thn_nrm (Exists.intro ((k + 1), (.slice _Av26 (putP (subR (a.take k) b) _y24).length _Cv26)) ⟨⟨E, (by omega), (by omega), _on_20, (Lo.down _lo26 (by omega))⟩, Sub.cons rfl (Sub.cons rfl (Sub.cons rfl (Sub.cons rfl (Sub.cons rfl (Sub.nil _))))), (by first | omega | (dsimp only; omega))⟩)
    · have _kb_16 := _h20
      have _h20 := bt_d (bf_n _h20)
      refine W_skip ?_
      refine inB_nrm ?_
      refine thn_nrm (_hK_11 _ _ ?_)
      clear _hK_11
      refine W_region ?_
      refine WL_step rfl rfl (r_move rfl) ?_
      refine WL_step rfl rfl (r_add (by omega) rfl rfl) ?_
      refine WL_step rfl rfl (r_assign rfl) ?_
      refine WL_nil ?_
      have _f_22 := (_o0_5.ch0 _cw_15)
      have _on_21 : Ol Pair.cs 106 2 _w_15 (.slice Akv (subR (a.take k) b).length Ckv) (subR (a.take (k + 1)) b) := by
        have hx := _f_22
        first | exact hx.eq (by rw [sub_step _hy17, if_pos _h20]) | (have _u9 := get_uniq _hy17 _hy24; exact hx.eq (by rw [sub_step _hy17, if_neg _h20, _u9]))
      exact thn_nrm (Exists.intro ((k + 1), (.slice Akv (subR (a.take k) b).length Ckv)) ⟨⟨E, (by omega), (by omega), _on_21, (Lo.down _lo0_5 (by omega))⟩, Sub.cons rfl (Sub.cons rfl (Sub.cons rfl (Sub.cons rfl (Sub.cons rfl (Sub.nil _))))), (by first | omega | (dsimp only; omega))⟩)
  · have _kb_10 := _h11
    have _h11 := bf_d _h11
    refine W_exit (thn_exit (thn_exit (inB_hit ?_)))
    refine thn_nrm (_hK_4 _ _ ?_)
    clear _hK_4
    refine W_seq fun _K_23 _hK_23 => ?_
    refine W_region ?_
    refine WL_step rfl rfl (r_move rfl) ?_
    refine WL_step rfl rfl (r_assign rfl) ?_
    refine WL_nil ?_
    refine thn_nrm (_hK_23 _ _ ?_)
    clear _hK_23
    refine W_ret ?_
    clear _hK_8
    have _o_24 : Ol Pair.cs 106 2 _wr_7 (.slice Akv (subR (a.take k) b).length Ckv) (subR a b) := by
      have hx := _o0_5
      exact hx.eq (by rw [List.take_of_length_le (by omega)])
    exact ret_intro [_] ⟨rfl, trivial⟩ ⟨_o_24, Lo.down _lo0_5 (by omega), E⟩

/-- laws.FnExactSubtractPairs -/
theorem c_laws_FnExactSubtractPairs {w : World} {LL_a _B_a : Nat} {_v_a : Value} {a : List Pair} (_h_a : Ls Pair.cs 2 w LL_a _B_a _v_a a) {LL_b _B_b : Nat} {_v_b : Value} {b : List Pair} (_h_b : Ls Pair.cs 2 w LL_b _B_b _v_b b) :
    Ctr Try.prog 5 #[_v_a, _v_b] w (fun v w' => v = .bool (true) ∧ Ch [] w w') := by
  obtain ⟨_A_a, _C_a, _e1_a⟩ := _h_a.val
  subst _e1_a
  have _l_a := _h_a.len
  have _h_a := _h_a.here (by decide)
  obtain ⟨_A_b, _C_b, _e1_b⟩ := _h_b.val
  subst _e1_b
  have _l_b := _h_b.len
  have _h_b := _h_b.here (by decide)
  have E := Ch.refl [] w
  have sl := sub_len a b
  refine Ctr_of_W (N := 92) (vs0 := [(.slice _A_a a.length _C_a), (.slice _A_b b.length _C_b)]) Try.func5 rfl rfl rfl ?_
  refine W_seq fun _K_1 _hK_1 => ?_
  refine W_region ?_
  refine WL_step rfl rfl (r_assign rfl) ?_
  refine WL_nil ?_
  refine thn_nrm (_hK_1 _ _ ?_)
  clear _hK_1
  refine W_seq fun _K_2 _hK_2 => ?_
  refine W_region ?_
  refine WL_step rfl rfl (r_assign rfl) ?_
  refine WL_nil ?_
  refine thn_nrm (_hK_2 _ _ ?_)
  clear _hK_2
  refine W_seq fun _K_3 _hK_3 => ?_
  refine W_region ?_
  refine WL_step rfl rfl (r_move rfl) ?_
  refine WL_step rfl rfl (r_move rfl) ?_
  refine WL_s rfl rfl ?_
  refine Step.call (r_call (xs := [.tmp 14, .tmp 15]) fk16 rfl) (c_laws_szPairS _h_a _ (by omega) (by omega)) fun _v16 _w_4 _q16 => ?_
  obtain ⟨rfl, _cw_4⟩ := _q16
  have _cw_4z := _cw_4.size
  have E := E.trans _cw_4
  refine WL_step rfl rfl (r_assign rfl) ?_
  refine WL_nil ?_
  refine thn_nrm (_hK_3 _ _ ?_)
  clear _hK_3
  refine W_seq fun _K_5 _hK_5 => ?_
  refine W_seq fun _K_6 _hK_6 => ?_
  refine W_region ?_
  refine WL_step rfl rfl (r_move rfl) ?_
  refine WL_step rfl rfl (r_lss rfl rfl) ?_
  refine WL_nil ?_
  refine thn_nrm (_hK_6 _ _ ?_)
  clear _hK_6
  refine W_cond rfl (fun _h18 => ?_) (fun _h18 => ?_)
  · have _kb_7 := _h18
    have _h18 := bt_d _h18
    refine W_seq fun _K_8 _hK_8 => ?_
    refine W_region ?_
    refine WL_step rfl rfl (r_assign rfl) ?_
    refine WL_nil ?_
    refine thn_nrm (_hK_8 _ _ ?_)
    clear _hK_8
    refine W_ret (thn_ret ?_)
    clear _hK_5
    exact ret_intro [_] ⟨rfl, trivial⟩ ⟨congrArg Value.bool (by first | rfl | (exfalso; omega) | (exfalso; revert _h18; simp; done) | (exfalso; revert _h18; simp; omega)), E⟩
  · have _kb_7 := _h18
    have _h18 := bf_d _h18
    refine W_skip ?_
    refine thn_nrm (_hK_5 _ _ ?_)
    clear _hK_5
    refine W_seq fun _K_9 _hK_9 => ?_
    refine W_region ?_
    refine WL_step rfl rfl (r_move rfl) ?_
    refine WL_step rfl rfl (r_move rfl) ?_
    refine WL_s rfl rfl ?_
    have _f_10 := (_h_b.ch0 _cw_4)
    refine Step.call (r_call (xs := [.tmp 19, .tmp 20]) fk16 rfl) (c_laws_szPairS _f_10 _ (by omega) (by omega)) fun _v21 _w_11 _q21 => ?_
    obtain ⟨rfl, _cw_11⟩ := _q21
    have _cw_11z := _cw_11.size
    have E := E.trans _cw_11
    refine WL_step rfl rfl (r_assign rfl) ?_
    refine WL_nil ?_
    refine thn_nrm (_hK_9 _ _ ?_)
    clear _hK_9
    refine W_seq fun _K_12 _hK_12 => ?_
    refine W_seq fun _K_13 _hK_13 => ?_
    refine W_region ?_
    refine WL_step rfl rfl (r_move rfl) ?_
    refine WL_step rfl rfl (r_lss rfl rfl) ?_
    refine WL_nil ?_
    refine thn_nrm (_hK_13 _ _ ?_)
    clear _hK_13
    refine W_cond rfl (fun _h23 => ?_) (fun _h23 => ?_)
    · have _kb_14 := _h23
      have _h23 := bt_d _h23
      refine W_seq fun _K_15 _hK_15 => ?_
      refine W_region ?_
      refine WL_step rfl rfl (r_assign rfl) ?_
      refine WL_nil ?_
      refine thn_nrm (_hK_15 _ _ ?_)
      clear _hK_15
      refine W_ret (thn_ret ?_)
      clear _hK_12
      exact ret_intro [_] ⟨rfl, trivial⟩ ⟨congrArg Value.bool (by first | rfl | (exfalso; omega) | (exfalso; revert _h23; simp; done) | (exfalso; revert _h23; simp; omega)), E⟩
    · have _kb_14 := _h23
      have _h23 := bf_d _h23
      refine W_skip ?_
      refine thn_nrm (_hK_12 _ _ ?_)
      clear _hK_12
      refine W_seq fun _K_16 _hK_16 => ?_
      refine W_region ?_
      refine WL_step rfl rfl (r_move rfl) ?_
      refine WL_s rfl rfl ?_
      have _f_17 := ((_h_a.ch0 _cw_4).ch0 _cw_11)
      refine Step.call (r_call (xs := [.tmp 24]) fk18 rfl) (c_laws_toPairS _f_17 (by omega)) fun _v25 _w_18 _q25 => ?_
      obtain ⟨_q25, _lo25, _cw_18⟩ := _q25
      have _cw_18z := _cw_18.size
      have E := E.trans _cw_18
      obtain ⟨_Av25, _Cv25, _ev25⟩ := _q25.val
      subst _ev25
      have _lv25 := _q25.len
      have _hiv25 := _q25.lt
      refine WL_step rfl rfl (r_move rfl) ?_
      refine WL_s rfl rfl ?_
      have _f_19 := ((_f_10.ch0 _cw_11).ch0 _cw_18)
      refine Step.call (r_call (xs := [.tmp 26]) fk18 rfl) (c_laws_toPairS _f_19 (by omega)) fun _v27 _w_20 _q27 => ?_
      obtain ⟨_q27, _lo27, _cw_20⟩ := _q27
      have _cw_20z := _cw_20.size
      have E := E.trans _cw_20
      obtain ⟨_Av27, _Cv27, _ev27⟩ := _q27.val
      subst _ev27
      have _lv27 := _q27.len
      have _hiv27 := _q27.lt
      refine WL_s rfl rfl ?_
      have _f_21 := (_q25.ch0 _cw_20)
      refine Step.call (r_call (xs := [.tmp 25, .tmp 27]) fk23 rfl) (c_spec_SubtractPairs _f_21.ls _q27.ls (by omega)) fun _v28 _w_22 _q28 => ?_
      obtain ⟨_q28, _lo28, _cw_22⟩ := _q28
      have _cw_22z := _cw_22.size
      have E := E.trans _cw_22
      obtain ⟨_Av28, _Cv28, _ev28⟩ := _q28.val
      subst _ev28
      have _lv28 := _q28.len
      have _hiv28 := _q28.lt
      refine WL_step rfl rfl (r_assign rfl) ?_
      refine WL_nil ?_
      refine thn_nrm (_hK_16 _ _ ?_)
      clear _hK_16
      refine W_seq fun _K_23 _hK_23 => ?_
      refine W_region ?_
      refine WL_step rfl rfl (r_move rfl) ?_
      refine WL_s rfl rfl ?_
      have _f_24 := (((_f_17.ch0 _cw_18).ch0 _cw_20).ch0 _cw_22)
      refine Step.call (r_call (xs := [.tmp 29]) fk18 rfl) (c_laws_toPairS _f_24 (by omega)) fun _v30 _w_25 _q30 => ?_
      obtain ⟨_q30, _lo30, _cw_25⟩ := _q30
      have _cw_25z := _cw_25.size
      have E := E.trans _cw_25
      obtain ⟨_Av30, _Cv30, _ev30⟩ := _q30.val
      subst _ev30
      have _lv30 := _q30.len
      have _hiv30 := _q30.lt
      refine WL_step rfl rfl (r_assign rfl) ?_
      refine WL_nil ?_
      refine thn_nrm (_hK_23 _ _ ?_)
      clear _hK_23
      refine W_seq fun _K_26 _hK_26 => ?_
      refine W_region ?_
      refine WL_step rfl rfl (r_move rfl) ?_
      refine WL_s rfl rfl ?_
      have _f_27 := (((_f_19.ch0 _cw_20).ch0 _cw_22).ch0 _cw_25)
      refine Step.call (r_call (xs := [.tmp 31]) fk18 rfl) (c_laws_toPairS _f_27 (by omega)) fun _v32 _w_28 _q32 => ?_
      obtain ⟨_q32, _lo32, _cw_28⟩ := _q32
      have _cw_28z := _cw_28.size
      have E := E.trans _cw_28
      obtain ⟨_Av32, _Cv32, _ev32⟩ := _q32.val
      subst _ev32
      have _lv32 := _q32.len
      have _hiv32 := _q32.lt
      refine WL_step rfl rfl (r_assign rfl) ?_
      refine WL_nil ?_
      refine thn_nrm (_hK_26 _ _ ?_)
      clear _hK_26
      refine W_seq fun _K_29 _hK_29 => ?_
      refine W_region ?_
      refine WL_step rfl rfl (r_move rfl) ?_
      refine WL_step rfl rfl (r_move rfl) ?_
      refine WL_s rfl rfl ?_
      have _f_30 := (_q30.ch0 _cw_28)
      refine Step.call (r_call (xs := [.tmp 33, .tmp 34]) fk24 rfl) (c_impl_SubtractPairs _f_30.ls _q32.ls (by omega)) fun _v35 _w_31 _q35 => ?_
      obtain ⟨_q35, _lo35, _cw_31⟩ := _q35
      have _cw_31z := _cw_31.size
      have E := E.trans _cw_31
      obtain ⟨_Av35, _Cv35, _ev35⟩ := _q35.val
      subst _ev35
      have _lv35 := _q35.len
      have _hiv35 := _q35.lt
      refine WL_step rfl rfl (r_assign rfl) ?_
      refine WL_nil ?_
      refine thn_nrm (_hK_29 _ _ ?_)
      clear _hK_29
      refine W_seq fun _K_32 _hK_32 => ?_
      refine W_seq fun _K_33 _hK_33 => ?_
      refine W_region ?_
      refine WL_step rfl rfl (r_move rfl) ?_
      refine WL_step rfl rfl (r_move rfl) ?_
      refine WL_s rfl rfl ?_
      have _f_34 := (((_q28.ch0 _cw_25).ch0 _cw_28).ch0 _cw_31)
      refine Step.call (r_call (xs := [.tmp 36, .tmp 37]) fk20 rfl) (c_laws_eqPairS _q35.ls _f_34.ls ) fun _v38 _w_35 _q38 => ?_
      obtain ⟨rfl, _cw_35⟩ := _q38
      have _cw_35z := _cw_35.size
      have E := E.trans _cw_35
      refine WL_step rfl rfl (r_not rfl) ?_
      refine WL_nil ?_
      refine thn_nrm (_hK_33 _ _ ?_)
      clear _hK_33
      refine W_cond rfl (fun _h39 => ?_) (fun _h39 => ?_)
      · have _kb_36 := _h39
        have _h39 := bf_d (bt_n _h39)
        refine W_seq fun _K_37 _hK_37 => ?_
        refine W_region ?_
        refine WL_step rfl rfl (r_assign rfl) ?_
        refine WL_nil ?_
        refine thn_nrm (_hK_37 _ _ ?_)
        clear _hK_37
        refine W_ret (thn_ret ?_)
        clear _hK_32
        exact ret_intro [_] ⟨rfl, trivial⟩ ⟨congrArg Value.bool (by first | rfl | (exfalso; omega) | (exfalso; revert _h39; simp; done) | (exfalso; revert _h39; simp; omega)), E⟩
      · have _kb_36 := _h39
        have _h39 := bt_d (bf_n _h39)
        refine W_skip ?_
        refine thn_nrm (_hK_32 _ _ ?_)
        clear _hK_32
        refine W_seq fun _K_38 _hK_38 => ?_
        refine W_seq fun _K_39 _hK_39 => ?_
        refine W_region ?_
        refine WL_step rfl rfl (r_move rfl) ?_
        refine WL_step rfl rfl (r_move rfl) ?_
        refine WL_s rfl rfl ?_
        have _f_40 := ((((_f_24.ch0 _cw_25).ch0 _cw_28).ch0 _cw_31).ch0 _cw_35)
        refine Step.call (r_call (xs := [.tmp 41]) fk18 rfl) (c_laws_toPairS _f_40 (by omega)) fun _v42 _w_41 _q42 => ?_
        obtain ⟨_q42, _lo42, _cw_41⟩ := _q42
        have _cw_41z := _cw_41.size
        have E := E.trans _cw_41
        obtain ⟨_Av42, _Cv42, _ev42⟩ := _q42.val
        subst _ev42
        have _lv42 := _q42.len
        have _hiv42 := _q42.lt
        refine WL_s rfl rfl ?_
        have _f_42 := (((_f_30.ch0 _cw_31).ch0 _cw_35).ch0 _cw_41)
        refine Step.call (r_call (xs := [.tmp 40, .tmp 42]) fk20 rfl) (c_laws_eqPairS _f_42.ls _q42.ls ) fun _v43 _w_43 _q43 => ?_
        obtain ⟨rfl, _cw_43⟩ := _q43
        have _cw_43z := _cw_43.size
        have E := E.trans _cw_43
        refine WL_step rfl rfl (r_not rfl) ?_
        refine WL_nil ?_
        refine thn_nrm (_hK_39 _ _ ?_)
        clear _hK_39
        refine W_cond rfl (fun _h44 => ?_) (fun _h44 => ?_)
        · have _kb_44 := _h44
          have _h44 := bf_d (bt_n _h44)
          refine W_seq fun _K_45 _hK_45 => ?_
          refine W_region ?_
          refine WL_step rfl rfl (r_assign rfl) ?_
          refine WL_nil ?_
          refine thn_nrm (_hK_45 _ _ ?_)
          clear _hK_45
          refine W_ret (thn_ret ?_)
          clear _hK_38
          exact ret_intro [_] ⟨rfl, trivial⟩ ⟨congrArg Value.bool (by first | rfl | (exfalso; omega) | (exfalso; revert _h44; simp; done) | (exfalso; revert _h44; simp; omega)), E⟩
        · have _kb_44 := _h44
          have _h44 := bt_d (bf_n _h44)
          refine W_skip ?_
          refine thn_nrm (_hK_38 _ _ ?_)
          clear _hK_38
          refine W_seq fun _K_46 _hK_46 => ?_
          refine W_seq fun _K_47 _hK_47 => ?_
          refine W_region ?_
          refine WL_step rfl rfl (r_move rfl) ?_
          refine WL_step rfl rfl (r_move rfl) ?_
          refine WL_s rfl rfl ?_
          have _f_48 := (((((_f_27.ch0 _cw_28).ch0 _cw_31).ch0 _cw_35).ch0 _cw_41).ch0 _cw_43)
          refine Step.call (r_call (xs := [.tmp 46]) fk18 rfl) (c_laws_toPairS _f_48 (by omega)) fun _v47 _w_49 _q47 => ?_
          obtain ⟨_q47, _lo47, _cw_49⟩ := _q47
          have _cw_49z := _cw_49.size
          have E := E.trans _cw_49
          obtain ⟨_Av47, _Cv47, _ev47⟩ := _q47.val
          subst _ev47
          have _lv47 := _q47.len
          have _hiv47 := _q47.lt
          refine WL_s rfl rfl ?_
          have _f_50 := (((((_q32.ch0 _cw_31).ch0 _cw_35).ch0 _cw_41).ch0 _cw_43).ch0 _cw_49)
          refine Step.call (r_call (xs := [.tmp 45, .tmp 47]) fk20 rfl) (c_laws_eqPairS _f_50.ls _q47.ls ) fun _v48 _w_51 _q48 => ?_
          obtain ⟨rfl, _cw_51⟩ := _q48
          have _cw_51z := _cw_51.size
          have E := E.trans _cw_51
          refine WL_step rfl rfl (r_not rfl) ?_
          refine WL_nil ?_
          refine thn_nrm (_hK_47 _ _ ?_)
          clear _hK_47
          refine W_cond rfl (fun _h49 => ?_) (fun _h49 => ?_)
          · have _kb_52 := _h49
            have _h49 := bf_d (bt_n _h49)
            refine W_seq fun _K_53 _hK_53 => ?_
            refine W_region ?_
            refine WL_step rfl rfl (r_assign rfl) ?_
            refine WL_nil ?_
            refine thn_nrm (_hK_53 _ _ ?_)
            clear _hK_53
            refine W_ret (thn_ret ?_)
            clear _hK_46
            exact ret_intro [_] ⟨rfl, trivial⟩ ⟨congrArg Value.bool (by first | rfl | (exfalso; omega) | (exfalso; revert _h49; simp; done) | (exfalso; revert _h49; simp; omega)), E⟩
          · have _kb_52 := _h49
            have _h49 := bt_d (bf_n _h49)
            refine W_skip ?_
            refine thn_nrm (_hK_46 _ _ ?_)
            clear _hK_46
            refine W_seq fun _K_54 _hK_54 => ?_
            refine W_region ?_
            refine WL_step rfl rfl (r_assign rfl) ?_
            refine WL_nil ?_
            refine thn_nrm (_hK_54 _ _ ?_)
            clear _hK_54
            refine W_seq fun _K_55 _hK_55 => ?_
            refine W_region ?_
            refine WL_step rfl rfl (r_move rfl) ?_
            refine WL_step rfl rfl (r_move rfl) ?_
            refine WL_s rfl rfl ?_
            have _f_56 := (((_f_42.ch0 _cw_43).ch0 _cw_49).ch0 _cw_51)
            refine Step.call (r_call (xs := [.tmp 50, .tmp 51]) fk21 rfl) (c_laws_markPairS _f_56 _ (by omega) (by first | omega | (simp <;> omega))) fun _v52 _w_57 _q52 => ?_
            obtain ⟨rfl, _q52, _cw_57⟩ := _q52
            have _cw_57z := _cw_57.size
            have E := E.step _cw_57 (fun i hi => .inl (by have _h1 := _lo30 _ hi; omega))
            refine WL_step rfl rfl (r_assign rfl) ?_
            refine WL_nil ?_
            refine thn_nrm (_hK_55 _ _ ?_)
            clear _hK_55
            refine W_seq fun _K_58 _hK_58 => ?_
            refine W_region ?_
            refine WL_step rfl rfl (r_move rfl) ?_
            refine WL_step rfl rfl (r_move rfl) ?_
            refine WL_s rfl rfl ?_
            have _f_59 := ((_f_50.ch0 _cw_51).ch _cw_57 (fun g hg hm => by have _h1 := _lo30 _ hm; have _h2 := _hiv30 _ hm; have _h3 := _lo32 _ hg; have _h4 := _hiv32 _ hg; omega))
            refine Step.call (r_call (xs := [.tmp 53, .tmp 54]) fk21 rfl) (c_laws_markPairS _f_59 _ (by omega) (by first | omega | (simp <;> omega))) fun _v55 _w_60 _q55 => ?_
            obtain ⟨rfl, _q55, _cw_60⟩ := _q55
            have _cw_60z := _cw_60.size
            have E := E.step _cw_60 (fun i hi => .inl (by have _h1 := _lo32 _ hi; omega))
            refine WL_step rfl rfl (r_assign rfl) ?_
            refine WL_nil ?_
            refine thn_nrm (_hK_58 _ _ ?_)
            clear _hK_58
            refine W_seq fun _K_61 _hK_61 => ?_
            refine W_seq fun _K_62 _hK_62 => ?_
            refine W_region ?_
            refine WL_step rfl rfl (r_move rfl) ?_
            refine WL_step rfl rfl (r_lss rfl rfl) ?_
            refine WL_step rfl rfl (r_move rfl) ?_
            refine WL_split (d := 58) rfl (fun _h58 => ?_) (fun _h58 => ?_)
            · have _kb_63 := _h58
              have _h58 := bt_d _h58
              refine WL_skip rfl rfl ?_
              refine WL_skip rfl rfl ?_
              refine WL_skip rfl rfl ?_
              refine WL_skip rfl rfl ?_
              refine WL_step rfl rfl (r_pickT rfl rfl) ?_
              refine WL_nil ?_
              refine thn_nrm (_hK_62 _ _ ?_)
              clear _hK_62
              refine W_condT rfl ?_
              refine W_seq fun _K_64 _hK_64 => ?_
              refine W_region ?_
              refine WL_step rfl rfl (r_assign rfl) ?_
              refine WL_nil ?_
              refine thn_nrm (_hK_64 _ _ ?_)
              clear _hK_64
              refine W_ret (thn_ret ?_)
              clear _hK_61
              exact ret_intro [_] ⟨rfl, trivial⟩ ⟨congrArg Value.bool (by first | rfl | (exfalso; omega) | (exfalso; revert _h58; simp; done) | (exfalso; revert _h58; simp; omega)), E⟩
            · have _kb_63 := _h58
              have _h58 := bf_d _h58
              refine WL_step rfl rfl (r_move rfl) ?_
              refine WL_step rfl rfl (r_move rfl) ?_
              refine WL_s rfl rfl ?_
              have _f_65 := (((((((_q35.ch0 _cw_35).ch0 _cw_41).ch0 _cw_43).ch0 _cw_49).ch0 _cw_51).ch _cw_57 (fun g hg hm => by have _h1 := _lo30 _ hm; have _h2 := _hiv30 _ hm; have _h3 := _lo35 _ hg; have _h4 := _hiv35 _ hg; omega)).ch _cw_60 (fun g hg hm => by have _h1 := _lo32 _ hm; have _h2 := _hiv32 _ hm; have _h3 := _lo35 _ hg; have _h4 := _hiv35 _ hg; omega))
              have _f_66 := (((((((_f_34.ch0 _cw_35).ch0 _cw_41).ch0 _cw_43).ch0 _cw_49).ch0 _cw_51).ch _cw_57 (fun g hg hm => by have _h1 := _lo30 _ hm; have _h2 := _hiv30 _ hm; have _h3 := _lo28 _ hg; have _h4 := _hiv28 _ hg; omega)).ch _cw_60 (fun g hg hm => by have _h1 := _lo32 _ hm; have _h2 := _hiv32 _ hm; have _h3 := _lo28 _ hg; have _h4 := _hiv28 _ hg; omega))
              refine Step.call (r_call (xs := [.tmp 59, .tmp 60]) fk20 rfl) (c_laws_eqPairS _f_65.ls _f_66.ls ) fun _v61 _w_67 _q61 => ?_
              obtain ⟨rfl, _cw_67⟩ := _q61
              have _cw_67z := _cw_67.size
              have E := E.trans _cw_67
              refine WL_step rfl rfl (r_not rfl) ?_
              refine WL_step rfl rfl (r_pickF rfl rfl) ?_
              refine WL_nil ?_
              refine thn_nrm (_hK_62 _ _ ?_)
              clear _hK_62
              refine W_condFk rfl _kb_36 ?_
              refine W_skip ?_
              refine thn_nrm (_hK_61 _ _ ?_)
              clear _hK_61
              refine W_seq fun _K_68 _hK_68 => ?_
              refine W_region ?_
              refine WL_step rfl rfl (r_assign rfl) ?_
              refine WL_nil ?_
              refine thn_nrm (_hK_68 _ _ ?_)
              clear _hK_68
              refine W_seq fun _K_69 _hK_69 => ?_
              refine W_region ?_
              refine WL_step rfl rfl (r_move rfl) ?_
              refine WL_step rfl rfl (r_move rfl) ?_
              refine WL_s rfl rfl ?_
              have _f_70 := (_f_65.ch0 _cw_67)
              refine Step.call (r_call (xs := [.tmp 64, .tmp 65]) fk21 rfl) (c_laws_markPairS _f_70 _ (by omega) (by first | omega | (simp <;> omega))) fun _v66 _w_71 _q66 => ?_
              obtain ⟨rfl, _q66, _cw_71⟩ := _q66
              have _cw_71z := _cw_71.size
              have E := E.step _cw_71 (fun i hi => .inl (by have _h1 := _lo35 _ hi; omega))
              refine WL_step rfl rfl (r_assign rfl) ?_
              refine WL_nil ?_
              refine thn_nrm (_hK_69 _ _ ?_)
              clear _hK_69
              refine W_seq fun _K_72 _hK_72 => ?_
              refine W_region ?_
              refine WL_step rfl rfl (r_assign rfl) ?_
              refine WL_nil ?_
              refine thn_nrm (_hK_72 _ _ ?_)
              clear _hK_72
              refine W_seq fun _K_73 _hK_73 => ?_
              refine W_region ?_
              refine WL_step rfl rfl (r_move rfl) ?_
              refine WL_step rfl rfl (r_move rfl) ?_
              refine WL_s rfl rfl ?_
              refine Step.call (r_call (xs := [.tmp 67, .tmp 68]) fk22 rfl) (c_laws_heldPairS _q66.ls _ (by omega) (by first | omega | (simp <;> omega))) fun _v69 _w_74 _q69 => ?_
              obtain ⟨rfl, _cw_74⟩ := _q69
              have _cw_74z := _cw_74.size
              have E := E.trans _cw_74
              refine WL_step rfl rfl (r_assign rfl) ?_
              refine WL_nil ?_
              refine thn_nrm (_hK_73 _ _ ?_)
              clear _hK_73
              refine W_seq fun _K_75 _hK_75 => ?_
              refine W_seq fun _K_76 _hK_76 => ?_
              refine W_region ?_
              refine WL_step rfl rfl (r_move rfl) ?_
              refine WL_step rfl rfl (r_lss rfl rfl) ?_
              refine WL_nil ?_
              refine thn_nrm (_hK_76 _ _ ?_)
              clear _hK_76
              refine W_cond rfl (fun _h71 => ?_) (fun _h71 => ?_)
              · have _kb_77 := _h71
                have _h71 := bt_d _h71
                refine W_seq fun _K_78 _hK_78 => ?_
                refine W_region ?_
                refine WL_step rfl rfl (r_assign rfl) ?_
                refine WL_nil ?_
                refine thn_nrm (_hK_78 _ _ ?_)
                clear _hK_78
                refine W_ret (thn_ret ?_)
                clear _hK_75
                exact ret_intro [_] ⟨rfl, trivial⟩ ⟨congrArg Value.bool (by first | rfl | (exfalso; omega) | (exfalso; revert _h71; simp; done) | (exfalso; revert _h71; simp; omega)), E⟩
              · have _kb_77 := _h71
                have _h71 := bf_d _h71
                refine W_skip ?_
                refine thn_nrm (_hK_75 _ _ ?_)
                clear _hK_75
                refine W_seq fun _K_79 _hK_79 => ?_
                refine W_seq fun _K_80 _hK_80 => ?_
                refine W_region ?_
                refine WL_step rfl rfl (r_move rfl) ?_
                refine WL_step rfl rfl (r_move rfl) ?_
                refine WL_step rfl rfl (r_neq rfl rfl) ?_
                refine WL_nil ?_
                refine thn_nrm (_hK_80 _ _ ?_)
                clear _hK_80
                refine W_cond rfl (fun _h74 => ?_) (fun _h74 => ?_)
                · have _kb_81 := _h74
                  have _h74 := bf_d (bt_n _h74)
                  refine W_seq fun _K_82 _hK_82 => ?_
                  refine W_region ?_
                  refine WL_step rfl rfl (r_assign rfl) ?_
                  refine WL_nil ?_
                  refine thn_nrm (_hK_82 _ _ ?_)
                  clear _hK_82
                  refine W_ret (thn_ret ?_)
                  clear _hK_79
                  exact ret_intro [_] ⟨rfl, trivial⟩ ⟨congrArg Value.bool (by first | rfl | (exfalso; omega) | (exfalso; revert _h74; simp; done) | (exfalso; revert _h74; simp; omega)), E⟩
                · have _kb_81 := _h74
                  have _h74 := bt_d (bf_n _h74)
                  refine W_skip ?_
                  refine thn_nrm (_hK_79 _ _ ?_)
                  clear _hK_79
                  refine W_seq fun _K_83 _hK_83 => ?_
                  refine W_region ?_
                  refine WL_step rfl rfl (r_move rfl) ?_
                  refine WL_s rfl rfl ?_
                  have _f_84 := (((((((((_f_40.ch0 _cw_41).ch0 _cw_43).ch0 _cw_49).ch0 _cw_51).ch _cw_57 (fun i hi => by have _h1 := _lo30 _ hi; omega)).ch _cw_60 (fun i hi => by have _h1 := _lo32 _ hi; omega)).ch0 _cw_67).ch _cw_71 (fun i hi => by have _h1 := _lo35 _ hi; omega)).ch0 _cw_74)
                  refine Step.call (r_call (xs := [.tmp 75]) fk18 rfl) (c_laws_toPairS _f_84 (by omega)) fun _v76 _w_85 _q76 => ?_
                  obtain ⟨_q76, _lo76, _cw_85⟩ := _q76
                  have _cw_85z := _cw_85.size
                  have E := E.trans _cw_85
                  obtain ⟨_Av76, _Cv76, _ev76⟩ := _q76.val
                  subst _ev76
                  have _lv76 := _q76.len
                  have _hiv76 := _q76.lt
                  refine WL_step rfl rfl (r_move rfl) ?_
                  refine WL_s rfl rfl ?_
                  have _f_86 := ((((((((_f_48.ch0 _cw_49).ch0 _cw_51).ch _cw_57 (fun i hi => by have _h1 := _lo30 _ hi; omega)).ch _cw_60 (fun i hi => by have _h1 := _lo32 _ hi; omega)).ch0 _cw_67).ch _cw_71 (fun i hi => by have _h1 := _lo35 _ hi; omega)).ch0 _cw_74).ch0 _cw_85)
                  refine Step.call (r_call (xs := [.tmp 77]) fk18 rfl) (c_laws_toPairS _f_86 (by omega)) fun _v78 _w_87 _q78 => ?_
                  obtain ⟨_q78, _lo78, _cw_87⟩ := _q78
                  have _cw_87z := _cw_87.size
                  have E := E.trans _cw_87
                  obtain ⟨_Av78, _Cv78, _ev78⟩ := _q78.val
                  subst _ev78
                  have _lv78 := _q78.len
                  have _hiv78 := _q78.lt
                  refine WL_s rfl rfl ?_
                  have _f_88 := (_q76.ch0 _cw_87)
                  refine Step.call (r_call (xs := [.tmp 76, .tmp 78]) fk24 rfl) (c_impl_SubtractPairs _f_88.ls _q78.ls (by omega)) fun _v79 _w_89 _q79 => ?_
                  obtain ⟨_q79, _lo79, _cw_89⟩ := _q79
                  have _cw_89z := _cw_89.size
                  have E := E.trans _cw_89
                  obtain ⟨_Av79, _Cv79, _ev79⟩ := _q79.val
                  subst _ev79
                  have _lv79 := _q79.len
                  have _hiv79 := _q79.lt
                  refine WL_step rfl rfl (r_assign rfl) ?_
                  refine WL_nil ?_
                  refine thn_nrm (_hK_83 _ _ ?_)
                  clear _hK_83
                  refine W_seq fun _K_90 _hK_90 => ?_
                  refine W_seq fun _K_91 _hK_91 => ?_
                  refine W_region ?_
                  refine WL_step rfl rfl (r_move rfl) ?_
                  refine WL_step rfl rfl (r_move rfl) ?_
                  refine WL_s rfl rfl ?_
                  have _f_92 := ((((((_f_66.ch0 _cw_67).ch _cw_71 (fun g hg hm => by have _h1 := _lo35 _ hm; have _h2 := _hiv35 _ hm; have _h3 := _lo28 _ hg; have _h4 := _hiv28 _ hg; omega)).ch0 _cw_74).ch0 _cw_85).ch0 _cw_87).ch0 _cw_89)
                  refine Step.call (r_call (xs := [.tmp 80, .tmp 81]) fk20 rfl) (c_laws_eqPairS _q79.ls _f_92.ls ) fun _v82 _w_93 _q82 => ?_
                  obtain ⟨rfl, _cw_93⟩ := _q82
                  have _cw_93z := _cw_93.size
                  have E := E.trans _cw_93
                  refine WL_step rfl rfl (r_not rfl) ?_
                  refine WL_nil ?_
                  refine thn_nrm (_hK_91 _ _ ?_)
                  clear _hK_91
                  refine W_condFk rfl _kb_36 ?_
                  refine W_skip ?_
                  refine thn_nrm (_hK_90 _ _ ?_)
                  clear _hK_90
                  refine W_seq fun _K_94 _hK_94 => ?_
                  refine W_region ?_
                  refine WL_step rfl rfl (r_assign rfl) ?_
                  refine WL_nil ?_
                  refine thn_nrm (_hK_94 _ _ ?_)
                  clear _hK_94
                  refine W_seq fun _K_95 _hK_95 => ?_
                  refine W_region ?_
                  refine WL_step rfl rfl (r_move rfl) ?_
                  refine WL_step rfl rfl (r_move rfl) ?_
                  refine WL_s rfl rfl ?_
                  have _f_96 := (((((_q66.ch0 _cw_74).ch0 _cw_85).ch0 _cw_87).ch0 _cw_89).ch0 _cw_93)
                  refine Step.call (r_call (xs := [.tmp 84, .tmp 85]) fk22 rfl) (c_laws_heldPairS _f_96.ls _ (by omega) (by first | omega | (simp <;> omega))) fun _v86 _w_97 _q86 => ?_
                  obtain ⟨rfl, _cw_97⟩ := _q86
                  have _cw_97z := _cw_97.size
                  have E := E.trans _cw_97
                  refine WL_step rfl rfl (r_assign rfl) ?_
                  refine WL_nil ?_
                  refine thn_nrm (_hK_95 _ _ ?_)
                  clear _hK_95
                  refine W_seq fun _K_98 _hK_98 => ?_
                  refine W_seq fun _K_99 _hK_99 => ?_
                  refine W_region ?_
                  refine WL_step rfl rfl (r_move rfl) ?_
                  refine WL_step rfl rfl (r_lss rfl rfl) ?_
                  refine WL_nil ?_
                  refine thn_nrm (_hK_99 _ _ ?_)
                  clear _hK_99
                  refine W_condFk rfl _kb_77 ?_
                  refine W_skip ?_
                  refine thn_nrm (_hK_98 _ _ ?_)
                  clear _hK_98
                  refine W_seq fun _K_100 _hK_100 => ?_
                  refine W_seq fun _K_101 _hK_101 => ?_
                  refine W_region ?_
                  refine WL_step rfl rfl (r_move rfl) ?_
                  refine WL_step rfl rfl (r_move rfl) ?_
                  refine WL_step rfl rfl (r_neq rfl rfl) ?_
                  refine WL_nil ?_
                  refine thn_nrm (_hK_101 _ _ ?_)
                  clear _hK_101
                  refine W_condFk rfl _kb_81 ?_
                  refine W_skip ?_
                  refine thn_nrm (_hK_100 _ _ ?_)
                  clear _hK_100
                  refine W_seq fun _K_102 _hK_102 => ?_
                  refine W_region ?_
                  refine WL_step rfl rfl (r_assign rfl) ?_
                  refine WL_nil ?_
                  refine thn_nrm (_hK_102 _ _ ?_)
                  clear _hK_102
                  refine W_ret ?_
                  exact ret_intro [_] ⟨rfl, trivial⟩ ⟨congrArg Value.bool (by first | rfl | (exfalso; omega) | (exfalso; revert _h74; simp; done) | (exfalso; revert _h74; simp; omega)), E⟩

end Go.Proofs.Ytnboedkdnnlgnaa
