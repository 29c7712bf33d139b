/- Walks of functions that FnExactNewHistory reaches: what each returns, and that it leaves the memory that was there alone. -/
import Derived.Test.YthchonkpkgogjaaKF
import Derived.Test.YthchonkpkgogjaaKG
import Derived.Test.YthchonkpkgogjaaKH
import Derived.Test.YthchonkpkgogjaaKI
import Derived.Test.YthchonkpkgogjaaKJ
import Derived.Test.YthchonkpkgogjaaKM
import Derived.Test.YthchonkpkgogjaaKN
import Derived.Test.YthchonkpkgogjaaKO
import Derived.Test.YthchonkpkgogjaaKP
import Derived.Test.YthchonkpkgogjaaKQ
import Derived.Test.YthchonkpkgogjaaKR
import Derived.Test.YthchonkpkgogjaaKS
import Derived.Test.YthchonkpkgogjaaKT
import Derived.Test.YthchonkpkgogjaaKU
import Derived.Test.YthchonkpkgogjaaKV
import Derived.Test.YthchonkpkgogjaaKX
import Derived.Test.YthchonkpkgogjaaKY
import Derived.Test.YthchonkpkgogjaaKZ
import Derived.Test.YthchonkpkgogjaaJA
import Derived.Test.YthchonkpkgogjaaJB
import Derived.Test.YthchonkpkgogjaaJC
import Derived.Test.YthchonkpkgogjaaJD
import Derived.Test.YthchonkpkgogjaaJE
import Derived.Test.YthchonkpkgogjaaJF
import Derived.Test.YthchonkpkgogjaaJG
import Derived.Test.YthchonkpkgogjaaJH
import Derived.Test.YthchonkpkgogjaaJI
import Derived.Test.YthchonkpkgogjaaJK
import Derived.Test.YthchonkpkgogjaaJM
import Derived.Test.YthchonkpkgogjaaJN
import Derived.Test.YthchonkpkgogjaaWExactNewHistory
import Derived.Test.YthchonkpkgogjaaProg
namespace Go.Proofs.Ythchonkpkgogjaa
open Go.KLib Go.Shelf
set_option maxRecDepth 20000
set_option linter.unusedVariables false
set_option linter.unusedSimpArgs false
namespace TExactNewHistoryb
theorem agg27 : aggB Try.prog 27 = some false := by kernel_rfl
theorem agg29 : aggB Try.prog 29 = some true := by kernel_rfl
theorem agg3 : aggB Try.prog 3 = some false := by kernel_rfl
theorem agg33 : aggB Try.prog 33 = some false := by kernel_rfl
theorem agg36 : aggB Try.prog 36 = some true := by kernel_rfl
theorem agg40 : aggB Try.prog 40 = some false := by kernel_rfl
theorem agg42 : aggB Try.prog 42 = some true := by kernel_rfl
theorem by164 : bytesB Try.prog 164 = some 32 := by kernel_rfl
theorem by3 : bytesB Try.prog 3 = some 8 := by kernel_rfl
theorem el27 : elB Try.prog 27 = some 42 := by kernel_rfl
theorem el33 : elB Try.prog 33 = some 3 := by kernel_rfl
theorem el40 : elB Try.prog 40 = some 164 := by kernel_rfl
theorem fa29_0 : faB Try.prog 29 0 = some 0 := by kernel_rfl
theorem fa29_1 : faB Try.prog 29 1 = some 1 := by kernel_rfl
theorem fa42_0 : faB Try.prog 42 0 = some 0 := by kernel_rfl
theorem fa42_1 : faB Try.prog 42 1 = some 1 := by kernel_rfl
theorem fk130 : fnB Try.prog 130 = true := by kernel_rfl
theorem fk131 : fnB Try.prog 131 = true := by kernel_rfl
theorem fk17 : fnB Try.prog 17 = true := by kernel_rfl
theorem fk18 : fnB Try.prog 18 = true := by kernel_rfl
theorem fk19 : fnB Try.prog 19 = true := by kernel_rfl
theorem fk20 : fnB Try.prog 20 = true := by kernel_rfl
theorem fk21 : fnB Try.prog 21 = true := by kernel_rfl
theorem fk22 : fnB Try.prog 22 = true := by kernel_rfl
theorem fk23 : fnB Try.prog 23 = true := by kernel_rfl
theorem fk24 : fnB Try.prog 24 = true := by kernel_rfl
theorem fk25 : fnB Try.prog 25 = true := by kernel_rfl
theorem fk67 : fnB Try.prog 67 = true := by kernel_rfl
theorem fk73 : fnB Try.prog 73 = true := by kernel_rfl
theorem fk93 : fnB Try.prog 93 = true := by kernel_rfl
theorem mixed : Try.prog.follows .mixedOrders = true := by kernel_rfl
theorem pl29 : placesB Try.prog 29 = some [(0, 1), (1, 1)] := by kernel_rfl
theorem pl42 : placesB Try.prog 42 = some [(0, 1), (1, 1)] := by kernel_rfl
theorem sz164 : sizeB Try.prog 164 = some 4 := by kernel_rfl
theorem sz29 : sizeB Try.prog 29 = some 2 := by kernel_rfl
theorem sz3 : sizeB Try.prog 3 = some 1 := by kernel_rfl
theorem sz36 : sizeB Try.prog 36 = some 2 := by kernel_rfl
theorem sz42 : sizeB Try.prog 42 = some 2 := by kernel_rfl
theorem un4 : Try.prog.underlying 4 = some (.bool) := by kernel_rfl
theorem zr164 : zeroB Try.prog 164 = some (.agg #[.int .i64 0, .int .i64 0, .int .i64 0, .int .i64 0]) := by kernel_rfl
theorem zr29 : zeroB Try.prog 29 = some (.agg #[.int .i64 0, .slice none 0 0]) := by kernel_rfl
theorem zr3 : zeroB Try.prog 3 = some (.int .i64 0) := by kernel_rfl
theorem zr42 : zeroB Try.prog 42 = some (.agg #[.slice none 0 0, .slice none 0 0]) := by kernel_rfl
end TExactNewHistoryb
open TExactNewHistoryb

/-- spec.l2Cmp -/
theorem c_spec_l2Cmp {w : World} {LL_a _B_a : Nat} {_v_a : Value} {a : List Int} (_h_a : Ls ics 1 w LL_a _B_a _v_a a) {LL_b _B_b : Nat} {_v_b : Value} {b : List Int} (_h_b : Ls ics 1 w LL_b _B_b _v_b b) :
    Ctr Try.prog 131 #[_v_a, _v_b] w (fun v w' => v = .int .i64 (cmpL a b) ∧ Ch [] w w') := by
  obtain ⟨_A_a, _C_a, _e1_a⟩ := _h_a.val
  subst _e1_a
  have _l_a := _h_a.len
  have _h_a := _h_a.here (by decide)
  obtain ⟨_A_b, _C_b, _e1_b⟩ := _h_b.val
  subst _e1_b
  have _l_b := _h_b.len
  have _h_b := _h_b.here (by decide)
  have E := Ch.refl [] w
  refine Ctr_of_W (N := 46) (vs0 := [(.slice _A_a a.length _C_a), (.slice _A_b b.length _C_b)]) Try.func131 rfl rfl rfl ?_
  refine W_seq fun _K_1 _hK_1 => ?_
  refine W_region ?_
  refine WL_step rfl rfl (r_assign rfl) ?_
  refine WL_nil ?_
  refine thn_nrm (_hK_1 _ _ ?_)
  clear _hK_1
  refine W_seq fun _K_2 _hK_2 => ?_
  refine W_seq fun _K_3 _hK_3 => ?_
  refine W_region ?_
  refine WL_step rfl rfl (r_assign rfl) ?_
  refine WL_nil ?_
  refine thn_nrm (_hK_3 _ _ ?_)
  clear _hK_3
  refine W_block ?_
  refine W_loop (σ := Nat) (fun (k : Nat) => [(0, (.slice _A_a a.length _C_a)), (1, (.slice _A_b b.length _C_b)), (5, (.int .i64 ((k : Nat) : Int)))]) (fun (k : Nat) wx => Ch [] w wx ∧ w.heap.size ≤ wx.heap.size ∧ (k ≤ a.length) ∧ (k ≤ b.length) ∧ (a.take k = b.take k)) (fun (k : Nat) => a.length - k) 0 (Sub.cons rfl (Sub.cons rfl (Sub.cons rfl (Sub.nil _)))) ⟨E, (Nat.le_refl _), (by omega), (by omega), rfl⟩ ?_
  rintro k _wr_4 ⟨E, _zz0, _hk, _hk2, _ht⟩
  have _E0h := E
  have _E0hz := _E0h.size
  refine W_seq fun _K_5 _hK_5 => ?_
  refine W_seq fun _K_6 _hK_6 => ?_
  refine W_region ?_
  refine WL_step rfl rfl (r_move rfl) ?_
  refine WL_step rfl rfl (r_move rfl) ?_
  refine WL_step rfl rfl (r_len (by rw [el33]; rfl) rfl) ?_
  refine WL_step rfl rfl (r_lss rfl rfl) ?_
  refine WL_step rfl rfl (r_move rfl) ?_
  refine WL_split (d := 10) rfl (fun _h10 => ?_) (fun _h10 => ?_)
  · have _kb_7 := _h10
    have _h10 := bt_d _h10
    refine WL_step rfl rfl (r_move rfl) ?_
    refine WL_step rfl rfl (r_move rfl) ?_
    refine WL_step rfl rfl (r_len (by rw [el33]; rfl) rfl) ?_
    refine WL_step rfl rfl (r_lss rfl rfl) ?_
    refine WL_step rfl rfl (r_pickT rfl rfl) ?_
    refine WL_nil ?_
    refine thn_nrm (_hK_6 _ _ ?_)
    clear _hK_6
    refine W_cond rfl (fun _h15 => ?_) (fun _h15 => ?_)
    · have _kb_8 := _h15
      have _h15 := bt_d _h15
      refine W_skip ?_
      refine thn_nrm (_hK_5 _ _ ?_)
      clear _hK_5
      refine W_seq fun _K_9 _hK_9 => ?_
      refine W_block ?_
      refine W_seq fun _K_10 _hK_10 => ?_
      refine W_seq fun _K_11 _hK_11 => ?_
      refine W_drawC [] 9 mixed rfl fun _w_12 _cw_12 => ?_
      have _cw_12z := _cw_12.size
      have E := E.trans _cw_12
      refine DR_s 0 rfl (by kernel_rfl) rfl rfl (t_v (fun _ => (r_move rfl)) ?_)
      refine DR_s 1 rfl (by kernel_rfl) rfl rfl (t_v (fun _ => (r_move rfl)) ?_)
      have _f_13 := ((_h_a.ch0 _E0h).ch0 _cw_12)
      refine DR_s 2 rfl (by kernel_rfl) rfl rfl (t_index _f_13 ics_len el33 sz3 rfl rfl rfl (by omega) fun _p20 _y20 _hy20 _a20 => ?_)
      refine DR_s 3 rfl (by kernel_rfl) rfl rfl (t_loadAt0 _a20 (fun i hi => absurd hi List.not_mem_nil) agg3 rfl rfl ?_)
      refine DR_s 4 rfl (by kernel_rfl) rfl rfl (t_v (fun _ => (r_move rfl)) ?_)
      refine DR_s 5 rfl (by kernel_rfl) rfl rfl (t_v (fun _ => (r_move rfl)) ?_)
      have _f_14 := ((_h_b.ch0 _E0h).ch0 _cw_12)
      refine DR_s 6 rfl (by kernel_rfl) rfl rfl (t_index _f_14 ics_len el33 sz3 rfl rfl rfl (by omega) fun _p24 _y24 _hy24 _a24 => ?_)
      refine DR_s 7 rfl (by kernel_rfl) rfl rfl (t_loadAt0 _a24 (fun i hi => absurd hi List.not_mem_nil) agg3 rfl rfl ?_)
      refine DR_s 8 rfl (by kernel_rfl) rfl rfl (t_v (fun _ => (r_lss rfl rfl)) ?_)
      refine DR_done (by kernel_rfl) ?_
      refine thn_nrm (_hK_11 _ _ ?_)
      clear _hK_11
      refine W_cond rfl (fun _h26 => ?_) (fun _h26 => ?_)
      · have _kb_15 := _h26
        have _h26 := bt_d _h26
        refine W_seq fun _K_16 _hK_16 => ?_
        refine W_region ?_
        refine WL_step rfl rfl (r_assign rfl) ?_
        refine WL_nil ?_
        refine thn_nrm (_hK_16 _ _ ?_)
        clear _hK_16
        refine W_ret (thn_ret (inB_ret (thn_ret (thn_ret (inB_ret (thn_ret ?_))))))
        clear _hK_2 _hK_9 _hK_10
        exact ret_intro [_] ⟨rfl, trivial⟩ ⟨congrArg (Value.int .i64) (by first | exact cmpL_lt _ht _hy20 _hy24 _h26 | exact cmpL_gt _ht _hy29 _hy33 _h35 | (have hc := cmpL_end _ht (by omega) (by omega) (by omega); rw [hc]; first | (rw [if_pos (by omega)]; done) | (rw [if_neg (by omega), if_pos (by omega)]; done) | (rw [if_neg (by omega), if_neg (by omega)]; done))), E⟩
      · have _kb_15 := _h26
        have _h26 := bf_d _h26
        refine W_skip ?_
        refine thn_nrm (_hK_10 _ _ ?_)
        clear _hK_10
        refine W_seq fun _K_17 _hK_17 => ?_
        refine W_drawC [] 9 mixed rfl fun _w_18 _cw_18 => ?_
        have _cw_18z := _cw_18.size
        have E := E.trans _cw_18
        refine DR_s 0 rfl (by kernel_rfl) rfl rfl (t_v (fun _ => (r_move rfl)) ?_)
        refine DR_s 1 rfl (by kernel_rfl) rfl rfl (t_v (fun _ => (r_move rfl)) ?_)
        have _f_19 := (_f_13.ch0 _cw_18)
        refine DR_s 2 rfl (by kernel_rfl) rfl rfl (t_index _f_19 ics_len el33 sz3 rfl rfl rfl (by omega) fun _p29 _y29 _hy29 _a29 => ?_)
        refine DR_s 3 rfl (by kernel_rfl) rfl rfl (t_loadAt0 _a29 (fun i hi => absurd hi List.not_mem_nil) agg3 rfl rfl ?_)
        refine DR_s 4 rfl (by kernel_rfl) rfl rfl (t_v (fun _ => (r_move rfl)) ?_)
        refine DR_s 5 rfl (by kernel_rfl) rfl rfl (t_v (fun _ => (r_move rfl)) ?_)
        have _f_20 := (_f_14.ch0 _cw_18)
        refine DR_s 6 rfl (by kernel_rfl) rfl rfl (t_index _f_20 ics_len el33 sz3 rfl rfl rfl (by omega) fun _p33 _y33 _hy33 _a33 => ?_)
        refine DR_s 7 rfl (by kernel_rfl) rfl rfl (t_loadAt0 _a33 (fun i hi => absurd hi List.not_mem_nil) agg3 rfl rfl ?_)
        refine DR_s 8 rfl (by kernel_rfl) rfl rfl (t_v (fun _ => (r_gtr rfl rfl)) ?_)
        refine DR_done (by kernel_rfl) ?_
        refine thn_nrm (_hK_17 _ _ ?_)
        clear _hK_17
        refine W_cond rfl (fun _h35 => ?_) (fun _h35 => ?_)
        · have _kb_21 := _h35
          have _h35 := bt_d _h35
          refine W_seq fun _K_22 _hK_22 => ?_
          refine W_region ?_
          refine WL_step rfl rfl (r_assign rfl) ?_
          refine WL_nil ?_
          refine thn_nrm (_hK_22 _ _ ?_)
          clear _hK_22
          refine W_ret (inB_ret (thn_ret (thn_ret (inB_ret (thn_ret ?_)))))
          clear _hK_2 _hK_9
          exact ret_intro [_] ⟨rfl, trivial⟩ ⟨congrArg (Value.int .i64) (by first | exact cmpL_lt _ht _hy20 _hy24 _h26 | exact cmpL_gt _ht _hy29 _hy33 _h35 | (have hc := cmpL_end _ht (by omega) (by omega) (by omega); rw [hc]; first | (rw [if_pos (by omega)]; done) | (rw [if_neg (by omega), if_pos (by omega)]; done) | (rw [if_neg (by omega), if_neg (by omega)]; done))), E⟩
        · have _kb_21 := _h35
          have _h35 := bf_d _h35
          refine W_skip ?_
          refine inB_nrm ?_
          refine thn_nrm (_hK_9 _ _ ?_)
          clear _hK_9
          refine W_region ?_
          refine WL_step rfl rfl (r_move rfl) ?_
          refine WL_step rfl rfl (r_add (by omega) rfl rfl) ?_
          refine WL_step rfl rfl (r_assign rfl) ?_
          refine WL_nil ?_
          exact thn_nrm (Exists.intro (k + 1) ⟨⟨E, (by omega), (by omega), (by omega), (take_eq_succ _ht _hy20 _hy24 (by have _e1 := get_uniq _hy20 _hy29; have _e2 := get_uniq _hy24 _hy33; omega))⟩, Sub.cons rfl (Sub.cons rfl (Sub.cons rfl (Sub.nil _))), (by first | omega | (dsimp only; omega))⟩)
    · have _kb_8 := _h15
      have _h15 := bf_d _h15
      refine W_exit (thn_exit (thn_exit (inB_hit ?_)))
      refine thn_nrm (_hK_2 _ _ ?_)
      clear _hK_2
      refine W_seq fun _K_23 _hK_23 => ?_
      refine W_seq fun _K_24 _hK_24 => ?_
      refine W_region ?_
      refine WL_step rfl rfl (r_move rfl) ?_
      refine WL_step rfl rfl (r_len (by rw [el33]; rfl) rfl) ?_
      refine WL_step rfl rfl (r_move rfl) ?_
      refine WL_step rfl rfl (r_len (by rw [el33]; rfl) rfl) ?_
      refine WL_step rfl rfl (r_lss rfl rfl) ?_
      refine WL_nil ?_
      refine thn_nrm (_hK_24 _ _ ?_)
      clear _hK_24
      refine W_cond rfl (fun _h40 => ?_) (fun _h40 => ?_)
      · have _kb_25 := _h40
        have _h40 := bt_d _h40
        refine W_seq fun _K_26 _hK_26 => ?_
        refine W_region ?_
        refine WL_step rfl rfl (r_assign rfl) ?_
        refine WL_nil ?_
        refine thn_nrm (_hK_26 _ _ ?_)
        clear _hK_26
        refine W_ret (thn_ret ?_)
        clear _hK_5 _hK_23
        exact ret_intro [_] ⟨rfl, trivial⟩ ⟨congrArg (Value.int .i64) (by first | exact cmpL_lt _ht _hy20 _hy24 _h26 | exact cmpL_gt _ht _hy29 _hy33 _h35 | (have hc := cmpL_end _ht (by omega) (by omega) (by omega); rw [hc]; first | (rw [if_pos (by omega)]; done) | (rw [if_neg (by omega), if_pos (by omega)]; done) | (rw [if_neg (by omega), if_neg (by omega)]; done))), E⟩
      · have _kb_25 := _h40
        have _h40 := bf_d _h40
        refine W_skip ?_
        refine thn_nrm (_hK_23 _ _ ?_)
        clear _hK_23
        refine W_seq fun _K_27 _hK_27 => ?_
        refine W_seq fun _K_28 _hK_28 => ?_
        refine W_region ?_
        refine WL_step rfl rfl (r_move rfl) ?_
        refine WL_step rfl rfl (r_len (by rw [el33]; rfl) rfl) ?_
        refine WL_step rfl rfl (r_move rfl) ?_
        refine WL_step rfl rfl (r_len (by rw [el33]; rfl) rfl) ?_
        refine WL_step rfl rfl (r_gtr rfl rfl) ?_
        refine WL_nil ?_
        refine thn_nrm (_hK_28 _ _ ?_)
        clear _hK_28
        refine W_cond rfl (fun _h45 => ?_) (fun _h45 => ?_)
        · have _kb_29 := _h45
          have _h45 := bt_d _h45
          refine W_seq fun _K_30 _hK_30 => ?_
          refine W_region ?_
          refine WL_step rfl rfl (r_assign rfl) ?_
          refine WL_nil ?_
          refine thn_nrm (_hK_30 _ _ ?_)
          clear _hK_30
          refine W_ret (thn_ret ?_)
          clear _hK_5 _hK_27
          exact ret_intro [_] ⟨rfl, trivial⟩ ⟨congrArg (Value.int .i64) (by first | exact cmpL_lt _ht _hy20 _hy24 _h26 | exact cmpL_gt _ht _hy29 _hy33 _h35 | (have hc := cmpL_end _ht (by omega) (by omega) (by omega); rw [hc]; first | (rw [if_pos (by omega)]; done) | (rw [if_neg (by omega), if_pos (by omega)]; done) | (rw [if_neg (by omega), if_neg (by omega)]; done))), E⟩
        · have _kb_29 := _h45
          have _h45 := bf_d _h45
          refine W_skip ?_
          refine thn_nrm (_hK_27 _ _ ?_)
          clear _hK_27
          refine W_seq fun _K_31 _hK_31 => ?_
          refine W_region ?_
          refine WL_step rfl rfl (r_assign rfl) ?_
          refine WL_nil ?_
          refine thn_nrm (_hK_31 _ _ ?_)
          clear _hK_31
          refine W_ret ?_
          clear _hK_5
          exact ret_intro [_] ⟨rfl, trivial⟩ ⟨congrArg (Value.int .i64) (by first | exact cmpL_lt _ht _hy20 _hy24 _h26 | exact cmpL_gt _ht _hy29 _hy33 _h35 | (have hc := cmpL_end _ht (by omega) (by omega) (by omega); rw [hc]; first | (rw [if_pos (by omega)]; done) | (rw [if_neg (by omega), if_pos (by omega)]; done) | (rw [if_neg (by omega), if_neg (by omega)]; done))), E⟩
  · have _kb_7 := _h10
    have _h10 := bf_d _h10
    refine WL_skip rfl rfl ?_
    refine WL_skip rfl rfl ?_
    refine WL_skip rfl rfl ?_
    refine WL_skip rfl rfl ?_
    refine WL_step rfl rfl (r_pickF rfl rfl) ?_
    refine WL_nil ?_
    refine thn_nrm (_hK_6 _ _ ?_)
    clear _hK_6
    refine W_condF rfl ?_
    refine W_exit (thn_exit (thn_exit (inB_hit ?_)))
    refine thn_nrm (_hK_2 _ _ ?_)
    clear _hK_2
    refine W_seq fun _K_32 _hK_32 => ?_
    refine W_seq fun _K_33 _hK_33 => ?_
    refine W_region ?_
    refine WL_step rfl rfl (r_move rfl) ?_
    refine WL_step rfl rfl (r_len (by rw [el33]; rfl) rfl) ?_
    refine WL_step rfl rfl (r_move rfl) ?_
    refine WL_step rfl rfl (r_len (by rw [el33]; rfl) rfl) ?_
    refine WL_step rfl rfl (r_lss rfl rfl) ?_
    refine WL_nil ?_
    refine thn_nrm (_hK_33 _ _ ?_)
    clear _hK_33
    refine W_cond rfl (fun _h40 => ?_) (fun _h40 => ?_)
    · have _kb_34 := _h40
      have _h40 := bt_d _h40
      refine W_seq fun _K_35 _hK_35 => ?_
      refine W_region ?_
      refine WL_step rfl rfl (r_assign rfl) ?_
      refine WL_nil ?_
      refine thn_nrm (_hK_35 _ _ ?_)
      clear _hK_35
      refine W_ret (thn_ret ?_)
      clear _hK_5 _hK_32
      exact ret_intro [_] ⟨rfl, trivial⟩ ⟨congrArg (Value.int .i64) (by first | exact cmpL_lt _ht _hy20 _hy24 _h26 | exact cmpL_gt _ht _hy29 _hy33 _h35 | (have hc := cmpL_end _ht (by omega) (by omega) (by omega); rw [hc]; first | (rw [if_pos (by omega)]; done) | (rw [if_neg (by omega), if_pos (by omega)]; done) | (rw [if_neg (by omega), if_neg (by omega)]; done))), E⟩
    · have _kb_34 := _h40
      have _h40 := bf_d _h40
      refine W_skip ?_
      refine thn_nrm (_hK_32 _ _ ?_)
      clear _hK_32
      refine W_seq fun _K_36 _hK_36 => ?_
      refine W_seq fun _K_37 _hK_37 => ?_
      refine W_region ?_
      refine WL_step rfl rfl (r_move rfl) ?_
      refine WL_step rfl rfl (r_len (by rw [el33]; rfl) rfl) ?_
      refine WL_step rfl rfl (r_move rfl) ?_
      refine WL_step rfl rfl (r_len (by rw [el33]; rfl) rfl) ?_
      refine WL_step rfl rfl (r_gtr rfl rfl) ?_
      refine WL_nil ?_
      refine thn_nrm (_hK_37 _ _ ?_)
      clear _hK_37
      refine W_cond rfl (fun _h45 => ?_) (fun _h45 => ?_)
      · have _kb_38 := _h45
        have _h45 := bt_d _h45
        refine W_seq fun _K_39 _hK_39 => ?_
        refine W_region ?_
        refine WL_step rfl rfl (r_assign rfl) ?_
        refine WL_nil ?_
        refine thn_nrm (_hK_39 _ _ ?_)
        clear _hK_39
        refine W_ret (thn_ret ?_)
        clear _hK_5 _hK_36
        exact ret_intro [_] ⟨rfl, trivial⟩ ⟨congrArg (Value.int .i64) (by first | exact cmpL_lt _ht _hy20 _hy24 _h26 | exact cmpL_gt _ht _hy29 _hy33 _h35 | (have hc := cmpL_end _ht (by omega) (by omega) (by omega); rw [hc]; first | (rw [if_pos (by omega)]; done) | (rw [if_neg (by omega), if_pos (by omega)]; done) | (rw [if_neg (by omega), if_neg (by omega)]; done))), E⟩
      · have _kb_38 := _h45
        have _h45 := bf_d _h45
        refine W_skip ?_
        refine thn_nrm (_hK_36 _ _ ?_)
        clear _hK_36
        refine W_seq fun _K_40 _hK_40 => ?_
        refine W_region ?_
        refine WL_step rfl rfl (r_assign rfl) ?_
        refine WL_nil ?_
        refine thn_nrm (_hK_40 _ _ ?_)
        clear _hK_40
        refine W_ret ?_
        clear _hK_5
        exact ret_intro [_] ⟨rfl, trivial⟩ ⟨congrArg (Value.int .i64) (by first | exact cmpL_lt _ht _hy20 _hy24 _h26 | exact cmpL_gt _ht _hy29 _hy33 _h35 | (have hc := cmpL_end _ht (by omega) (by omega) (by omega); rw [hc]; first | (rw [if_pos (by omega)]; done) | (rw [if_neg (by omega), if_pos (by omega)]; done) | (rw [if_neg (by omega), if_neg (by omega)]; done))), E⟩

/-- spec.IsValidHistory -/
theorem c_spec_IsValidHistory {w : World} (hF : Int) {LL_shG _B_shG : Nat} {_v_shG : Value} {shG : List Gv} (_h_shG : Ls Gv.cs 2 w LL_shG _B_shG _v_shG shG) {LR_hG BB_hG : Nat} {hG : List GD} (_rd_hG : RdG w LR_hG BB_hG shG hG) :
    Ctr Try.prog 67 #[(.agg #[(.int .i64 hF), _v_shG])] w (fun v w' => v = .bool (tt (ValidH hF hG)) ∧ Ch [] w w') := by
  obtain ⟨_A_shG, _C_shG, _e1_shG⟩ := _h_shG.val
  subst _e1_shG
  have _l_shG := _h_shG.len
  have _h_shG := _h_shG.here (by decide)
  have _rd_hG := _rd_hG.here
  have _rl_hG := _rd_hG.1
  have E := Ch.refl [] w
  refine Ctr_of_W (N := 47) (vs0 := [(.agg #[(.int .i64 hF), (.slice _A_shG shG.length _C_shG)])]) Try.func67 rfl rfl rfl ?_
  refine W_seq fun _K_1 _hK_1 => ?_
  refine W_region ?_
  refine WL_s rfl rfl ?_
  refine s_box rfl fun _b1 _w_2 _m1 _cw_2 _e1 => ?_
  have _cw_2z := _cw_2.size
  have E := E.trans _cw_2
  have _z1 := _m1.lt
  replace _m1 : Blk _w_2 _b1 29 [(.int .i64 hF), (.slice _A_shG shG.length _C_shG)] := _m1
  refine WL_step rfl rfl (r_assign rfl) ?_
  refine WL_nil ?_
  refine thn_nrm (_hK_1 _ _ ?_)
  clear _hK_1
  refine W_seq fun _K_3 _hK_3 => ?_
  refine W_seq fun _K_4 _hK_4 => ?_
  refine W_region ?_
  refine WL_step rfl rfl (r_assign rfl) ?_
  refine WL_nil ?_
  refine thn_nrm (_hK_4 _ _ ?_)
  clear _hK_4
  refine W_block ?_
  refine W_loop (σ := Nat) (fun (k : Nat) => [(1, (.pointer (some ⟨_b1, 0, none⟩))), (3, (.int .i64 ((k : Nat) : Int)))]) (fun (k : Nat) wx => Ch [] w wx ∧ _w_2.heap.size ≤ wx.heap.size ∧ (k ≤ hG.length) ∧ (SameV hG k) ∧ Blk wx _b1 29 [(.int .i64 hF), (.slice _A_shG shG.length _C_shG)]) (fun (k : Nat) => hG.length - k) 0 (Sub.cons rfl (Sub.cons rfl (Sub.nil _))) ⟨E, (Nat.le_refl _), (by omega), (same_zero _), _m1⟩ ?_
  rintro k _wr_5 ⟨E, _zz0, _hk, hs, _F0_0⟩
  have _E0h := E
  have _E0hz := _E0h.size
  have _F0_0z := _F0_0.lt
  refine W_seq fun _K_6 _hK_6 => ?_
  refine W_seq fun _K_7 _hK_7 => ?_
  refine W_region ?_
  refine WL_step rfl rfl (r_move rfl) ?_
  refine WL_step rfl rfl (r_fieldAddr fa29_1 rfl) ?_
  refine WL_step rfl rfl (r_loadAt _F0_0.at_ agg27 rfl rfl) ?_
  refine WL_step rfl rfl (r_len (by rw [el27]; rfl) rfl) ?_
  refine WL_step rfl rfl (r_lss rfl rfl) ?_
  refine WL_nil ?_
  refine thn_nrm (_hK_7 _ _ ?_)
  clear _hK_7
  refine W_cond rfl (fun _h8 => ?_) (fun _h8 => ?_)
  · have _kb_8 := _h8
    have _h8 := bt_d _h8
    refine W_skip ?_
    refine thn_nrm (_hK_6 _ _ ?_)
    clear _hK_6
    refine W_seq fun _K_9 _hK_9 => ?_
    refine W_block ?_
    refine W_seq fun _K_10 _hK_10 => ?_
    refine W_drawC [] 22 mixed rfl fun _w_11 _cw_11 => ?_
    have _cw_11z := _cw_11.size
    have E := E.trans _cw_11
    refine DR_s 0 rfl (by kernel_rfl) rfl rfl (t_v (fun _ => (r_fieldAddr fa29_1 rfl)) ?_)
    have _f_12 := (_F0_0.ch0 _cw_11)
    refine DR_s 1 rfl (by kernel_rfl) rfl rfl (t_loadAt _f_12.at_ (fun i hi => absurd hi List.not_mem_nil) agg27 rfl rfl ?_)
    refine DR_s 2 rfl (by kernel_rfl) rfl rfl (t_v (fun _ => (r_move rfl)) ?_)
    have _f_13 := ((_h_shG.ch0 _E0h).ch0 _cw_11)
    have _f_14 := ((_rd_hG.ch0 _E0h).ch0 _cw_11)
    refine DR_s 3 rfl (by kernel_rfl) rfl rfl (t_index _f_13 Gv.len el27 sz42 rfl rfl rfl (by omega) fun _p14 _y14 _hy14 _a14 => ?_)
    obtain ⟨_ys14, _hys14, _fs14, fe14⟩ := _f_14.get _hy14
    obtain ⟨⟨_A14, _n14, _C14⟩, ⟨Ae14, ne14, Ce14⟩⟩ := _y14
    obtain rfl := _fs14.eqn
    obtain rfl := fe14.eqn
    have _l14 := _fs14.len
    have le14 := fe14.len
    replace _fs14 : Ls ics 1 _w_11 LR_hG w.heap.size (.slice _A14 _ys14.V.length _C14) _ys14.V := _fs14
    replace fe14 : Ls GEdge.cs 4 _w_11 LR_hG w.heap.size (.slice Ae14 _ys14.E.length Ce14) _ys14.E := fe14
    refine DR_s 4 rfl (by kernel_rfl) rfl rfl (t_loadAtA0 _a14 (fun i hi => absurd hi List.not_mem_nil) agg42 sz42 rfl ?_)
    refine DR_one 5 (by kernel_rfl) ?_
    refine DO_s rfl rfl rfl ?_
    refine Step.call (r_call (xs := [.tmp 15]) fk130 rfl) (c_spec_IsValidGraph _fs14 fe14 ) fun _v16 _w_15 _q16 => ?_
    obtain ⟨rfl, _cw_15⟩ := _q16
    have _cw_15z := _cw_15.size
    have E := E.trans _cw_15
    have _S_16 : Ch [] _w_11 _w_15 := ((Ch.refl _ _).trans _cw_15)
    refine ⟨_S_16, ?_⟩
    refine DR_s 6 rfl (by kernel_rfl) rfl rfl (t_v (fun _ => (r_not rfl)) ?_)
    refine DR_s 7 rfl (by kernel_rfl) rfl rfl (t_v (fun _ => (r_move rfl)) ?_)
    refine DR_split (d := 18) rfl (fun _h18 => ?_) (fun _h18 => ?_)
    · have _kb_17 := _h18
      have _h18 := bf_t (bt_n _h18)
      refine DR_skip 8 rfl (by kernel_rfl) rfl rfl ?_
      refine DR_skip 9 rfl (by kernel_rfl) rfl rfl ?_
      refine DR_skip 10 rfl (by kernel_rfl) rfl rfl ?_
      refine DR_skip 11 rfl (by kernel_rfl) rfl rfl ?_
      refine DR_skip 12 rfl (by kernel_rfl) rfl rfl ?_
      refine DR_skip 13 rfl (by kernel_rfl) rfl rfl ?_
      refine DR_skip 14 rfl (by kernel_rfl) rfl rfl ?_
      refine DR_skip 15 rfl (by kernel_rfl) rfl rfl ?_
      refine DR_skip 16 rfl (by kernel_rfl) rfl rfl ?_
      refine DR_skip 17 rfl (by kernel_rfl) rfl rfl ?_
      refine DR_skip 18 rfl (by kernel_rfl) rfl rfl ?_
      refine DR_skip 19 rfl (by kernel_rfl) rfl rfl ?_
      refine DR_skip 20 rfl (by kernel_rfl) rfl rfl ?_
      refine DR_s 21 rfl (by kernel_rfl) rfl rfl (t_v (fun _ => (r_pickT rfl rfl)) ?_)
      refine DR_done (by kernel_rfl) ?_
      refine thn_nrm (_hK_10 _ _ ?_)
      clear _hK_10
      refine W_condT rfl ?_
      refine W_seq fun _K_18 _hK_18 => ?_
      refine W_region ?_
      refine WL_step rfl rfl (r_assign rfl) ?_
      refine WL_nil ?_
      refine thn_nrm (_hK_18 _ _ ?_)
      clear _hK_18
      refine W_ret (inB_ret (thn_ret (thn_ret (inB_ret (thn_ret ?_)))))
      clear _hK_3 _hK_9
      exact ret_intro [_] ⟨rfl, trivial⟩ ⟨congrArg Value.bool (by first | exact tt_false (fun q => _h18 (valh_val q _hys14)) | exact tt_false (fun q => _h32 (cmpL_eq.2 (valh_same q _hys22 _hys27))) | (rw [_rl_hG]; exact vh_y hs (by omega) (by omega)) | exact tt_false (fun q => by have _e2 := q.2.1; omega)), E⟩
    · have _kb_17 := _h18
      have _h18 := bt_t (bf_n _h18)
      refine DR_s 8 rfl (by kernel_rfl) rfl rfl (t_v (fun _ => (r_fieldAddr fa29_1 rfl)) ?_)
      refine DR_s 9 rfl (by kernel_rfl) rfl rfl (t_loadAt _f_12.at_ (fun i hi => absurd hi List.not_mem_nil) agg27 rfl rfl ?_)
      refine DR_s 10 rfl (by kernel_rfl) rfl rfl (t_v (fun _ => (r_move rfl)) ?_)
      refine DR_s 11 rfl (by kernel_rfl) rfl rfl (t_index _f_13 Gv.len el27 sz42 rfl rfl rfl (by omega) fun _p22 _y22 _hy22 _a22 => ?_)
      obtain ⟨_ys22, _hys22, _fs22, fe22⟩ := _f_14.get _hy22
      obtain ⟨⟨_A22, _n22, _C22⟩, ⟨Ae22, ne22, Ce22⟩⟩ := _y22
      obtain rfl := _fs22.eqn
      obtain rfl := fe22.eqn
      have _l22 := _fs22.len
      have le22 := fe22.len
      replace _fs22 : Ls ics 1 _w_11 LR_hG w.heap.size (.slice _A22 _ys22.V.length _C22) _ys22.V := _fs22
      replace fe22 : Ls GEdge.cs 4 _w_11 LR_hG w.heap.size (.slice Ae22 _ys22.E.length Ce22) _ys22.E := fe22
      refine DR_s 12 rfl (by kernel_rfl) rfl rfl (t_v (fun _ => (r_fieldAddr fa42_0 rfl)) ?_)
      refine DR_s 13 rfl (by kernel_rfl) rfl rfl (t_loadAt _a22 (fun i hi => absurd hi List.not_mem_nil) agg33 rfl rfl ?_)
      refine DR_s 14 rfl (by kernel_rfl) rfl rfl (t_v (fun _ => (r_fieldAddr fa29_1 rfl)) ?_)
      refine DR_s 15 rfl (by kernel_rfl) rfl rfl (t_loadAt _f_12.at_ (fun i hi => absurd hi List.not_mem_nil) agg27 rfl rfl ?_)
      refine DR_s 16 rfl (by kernel_rfl) rfl rfl (t_index (j := 0) _f_13 Gv.len el27 sz42 rfl rfl rfl (by omega) fun _p27 _y27 _hy27 _a27 => ?_)
      obtain ⟨_ys27, _hys27, _fs27, fe27⟩ := _f_14.get _hy27
      obtain ⟨⟨_A27, _n27, _C27⟩, ⟨Ae27, ne27, Ce27⟩⟩ := _y27
      obtain rfl := _fs27.eqn
      obtain rfl := fe27.eqn
      have _l27 := _fs27.len
      have le27 := fe27.len
      replace _fs27 : Ls ics 1 _w_11 LR_hG w.heap.size (.slice _A27 _ys27.V.length _C27) _ys27.V := _fs27
      replace fe27 : Ls GEdge.cs 4 _w_11 LR_hG w.heap.size (.slice Ae27 _ys27.E.length Ce27) _ys27.E := fe27
      refine DR_s 17 rfl (by kernel_rfl) rfl rfl (t_v (fun _ => (r_fieldAddr fa42_0 rfl)) ?_)
      refine DR_s 18 rfl (by kernel_rfl) rfl rfl (t_loadAt _a27 (fun i hi => absurd hi List.not_mem_nil) agg33 rfl rfl ?_)
      refine DR_one 19 (by kernel_rfl) ?_
      refine DO_s rfl rfl rfl ?_
      have _f_19 := (_fs22.ch0 _cw_15)
      have _f_20 := (_fs27.ch0 _cw_15)
      refine Step.call (r_call (xs := [.tmp 24, .tmp 29]) fk131 rfl) (c_spec_l2Cmp _f_19 _f_20 ) fun _v30 _w_21 _q30 => ?_
      obtain ⟨rfl, _cw_21⟩ := _q30
      have _cw_21z := _cw_21.size
      have E := E.trans _cw_21
      have _S_22 : Ch [] _w_11 _w_21 := (_S_16.trans _cw_21)
      refine ⟨_S_22, ?_⟩
      refine DR_s 20 rfl (by kernel_rfl) rfl rfl (t_v (fun _ => (r_neq rfl rfl)) ?_)
      refine DR_s 21 rfl (by kernel_rfl) rfl rfl (t_v (fun _ => (r_pickF rfl rfl)) ?_)
      refine DR_done (by kernel_rfl) ?_
      refine thn_nrm (_hK_10 _ _ ?_)
      clear _hK_10
      refine W_cond rfl (fun _h32 => ?_) (fun _h32 => ?_)
      · have _kb_23 := _h32
        have _h32 := bf_d (bt_n _h32)
        refine W_seq fun _K_24 _hK_24 => ?_
        refine W_region ?_
        refine WL_step rfl rfl (r_assign rfl) ?_
        refine WL_nil ?_
        refine thn_nrm (_hK_24 _ _ ?_)
        clear _hK_24
        refine W_ret (inB_ret (thn_ret (thn_ret (inB_ret (thn_ret ?_)))))
        clear _hK_3 _hK_9
        exact ret_intro [_] ⟨rfl, trivial⟩ ⟨congrArg Value.bool (by first | exact tt_false (fun q => _h18 (valh_val q _hys14)) | exact tt_false (fun q => _h32 (cmpL_eq.2 (valh_same q _hys22 _hys27))) | (rw [_rl_hG]; exact vh_y hs (by omega) (by omega)) | exact tt_false (fun q => by have _e2 := q.2.1; omega)), E⟩
      · have _kb_23 := _h32
        have _h32 := bt_d (bf_n _h32)
        refine W_skip ?_
        refine inB_nrm ?_
        refine thn_nrm (_hK_9 _ _ ?_)
        clear _hK_9
        refine W_region ?_
        refine WL_step rfl rfl (r_move rfl) ?_
        refine WL_step rfl rfl (r_add (by omega) rfl rfl) ?_
        refine WL_step rfl rfl (r_assign rfl) ?_
        refine WL_nil ?_
        have _f_25 := ((_f_12.ch0 _cw_15).ch0 _cw_21)
        exact thn_nrm (Exists.intro (k + 1) ⟨⟨E, (by omega), (by omega), (by have _u9 := get_uniq _hys14 _hys22; exact same_step hs _hys14 _hys27 _h18 (by rw [_u9]; exact cmpL_eq.1 (by omega))), _f_25⟩, Sub.cons rfl (Sub.cons rfl (Sub.nil _)), (by first | omega | (dsimp only; omega))⟩)
  · have _kb_8 := _h8
    have _h8 := bf_d _h8
    refine W_exit (thn_exit (thn_exit (inB_hit ?_)))
    refine thn_nrm (_hK_3 _ _ ?_)
    clear _hK_3
    refine W_seq fun _K_26 _hK_26 => ?_
    refine W_region ?_
    refine WL_step rfl rfl (r_fieldAddr fa29_1 rfl) ?_
    refine WL_step rfl rfl (r_loadAt _F0_0.at_ agg27 rfl rfl) ?_
    refine WL_step rfl rfl (r_len (by rw [el27]; rfl) rfl) ?_
    refine WL_s rfl rfl ?_
    refine Step.call (r_call (xs := [.tmp 35, .const (Go.Value.int Go.IntKind.i64 1), .const (Go.Value.int Go.IntKind.i64 8)]) fk93 rfl) (c_spec_l1In _ _ _ ) fun _v36 _w_27 _q36 => ?_
    obtain ⟨rfl, _cw_27⟩ := _q36
    have _cw_27z := _cw_27.size
    have E := E.trans _cw_27
    refine WL_step rfl rfl (r_move rfl) ?_
    refine WL_split (d := 37) rfl (fun _h37 => ?_) (fun _h37 => ?_)
    · have _kb_28 := _h37
      have _h37 := bt_d _h37
      refine WL_step rfl rfl (r_fieldAddr fa29_0 rfl) ?_
      have _f_29 := (_F0_0.ch0 _cw_27)
      refine WL_step rfl rfl (r_loadAt _f_29.at_ agg3 rfl rfl) ?_
      refine WL_step rfl rfl (r_fieldAddr fa29_1 rfl) ?_
      refine WL_step rfl rfl (r_loadAt _f_29.at_ agg27 rfl rfl) ?_
      refine WL_step rfl rfl (r_len (by rw [el27]; rfl) rfl) ?_
      refine WL_step rfl rfl (r_sub (by omega) rfl rfl) ?_
      refine WL_step rfl rfl (r_add (by omega) rfl rfl) ?_
      refine WL_s rfl rfl ?_
      refine Step.call (r_call (xs := [.tmp 39, .const (Go.Value.int Go.IntKind.i64 1), .tmp 44]) fk93 rfl) (c_spec_l1In _ _ _ ) fun _v45 _w_30 _q45 => ?_
      obtain ⟨rfl, _cw_30⟩ := _q45
      have _cw_30z := _cw_30.size
      have E := E.trans _cw_30
      refine WL_step rfl rfl (r_pickT rfl rfl) ?_
      refine WL_step rfl rfl (r_assign rfl) ?_
      refine WL_nil ?_
      refine thn_nrm (_hK_26 _ _ ?_)
      clear _hK_26
      refine W_ret ?_
      clear _hK_6
      exact ret_intro [_] ⟨rfl, trivial⟩ ⟨congrArg Value.bool (by first | exact tt_false (fun q => _h18 (valh_val q _hys14)) | exact tt_false (fun q => _h32 (cmpL_eq.2 (valh_same q _hys22 _hys27))) | (rw [_rl_hG]; exact vh_y hs (by omega) (by omega)) | exact tt_false (fun q => by have _e2 := q.2.1; omega)), E⟩
    · have _kb_28 := _h37
      have _h37 := bf_d _h37
      refine WL_skip rfl rfl ?_
      refine WL_skip rfl rfl ?_
      refine WL_skip rfl rfl ?_
      refine WL_skip rfl rfl ?_
      refine WL_skip rfl rfl ?_
      refine WL_skip rfl rfl ?_
      refine WL_skip rfl rfl ?_
      refine WL_skip rfl rfl ?_
      refine WL_step rfl rfl (r_pickF rfl rfl) ?_
      refine WL_step rfl rfl (r_assign rfl) ?_
      refine WL_nil ?_
      refine thn_nrm (_hK_26 _ _ ?_)
      clear _hK_26
      refine W_ret ?_
      clear _hK_6
      exact ret_intro [_] ⟨rfl, trivial⟩ ⟨congrArg Value.bool (by first | exact tt_false (fun q => _h18 (valh_val q _hys14)) | exact tt_false (fun q => _h32 (cmpL_eq.2 (valh_same q _hys22 _hys27))) | (rw [_rl_hG]; exact vh_y hs (by omega) (by omega)) | exact tt_false (fun q => by have _e2 := q.2.1; omega)), E⟩

/-- spec.l3Copy -/
theorem c_spec_l3Copy {w : World} {LL_gV _B_gV : Nat} {_v_gV : Value} {gV : List Int} (_h_gV : Ls ics 1 w LL_gV _B_gV _v_gV gV) {LL_gE _B_gE : Nat} {_v_gE : Value} {gE : List GEdge} (_h_gE : Ls GEdge.cs 4 w LL_gE _B_gE _v_gE gE) (hb : gV.length ≤ 4194304 ∧ gE.length ≤ 4194304) :
    Ctr Try.prog 73 #[(.agg #[_v_gV, _v_gE])] w (fun v w' => ∃ (u0x0 : Value) (u0x1 : Value), v = .agg #[u0x0, u0x1] ∧ Ol ics 3 1 w' u0x0 (gV) ∧ Lo w.heap.size u0x0 ∧ Ol GEdge.cs 164 4 w' u0x1 (gE) ∧ Lo w.heap.size u0x1 ∧ (∀ g ∈ bl u0x0, g ∉ bl u0x1) ∧ Ch [] w w') := by
  obtain ⟨_A_gV, _C_gV, _e1_gV⟩ := _h_gV.val
  subst _e1_gV
  have _l_gV := _h_gV.len
  have _h_gV := _h_gV.here (by decide)
  obtain ⟨_A_gE, _C_gE, _e1_gE⟩ := _h_gE.val
  subst _e1_gE
  have _l_gE := _h_gE.len
  have _h_gE := _h_gE.here (by decide)
  have E := Ch.refl [] w
  refine Ctr_of_W (N := 12) (vs0 := [(.agg #[(.slice _A_gV gV.length _C_gV), (.slice _A_gE gE.length _C_gE)])]) Try.func73 rfl rfl rfl ?_
  refine W_seq fun _K_1 _hK_1 => ?_
  refine W_region ?_
  refine WL_s rfl rfl ?_
  refine s_box rfl fun _b1 _w_2 _m1 _cw_2 _e1 => ?_
  have _cw_2z := _cw_2.size
  have E := E.trans _cw_2
  have _z1 := _m1.lt
  replace _m1 : Blk _w_2 _b1 42 [(.slice _A_gV gV.length _C_gV), (.slice _A_gE gE.length _C_gE)] := _m1
  refine WL_s rfl rfl ?_
  refine s_alloc zr42 fun _b2 _w_3 _m2 _cw_3 _e2 => ?_
  have _cw_3z := _cw_3.size
  have E := E.trans _cw_3
  have _z2 := _m2.lt
  replace _m2 : Blk _w_3 _b2 42 [(.slice none 0 0), (.slice none 0 0)] := _m2
  refine WL_nil ?_
  refine thn_nrm (_hK_1 _ _ ?_)
  clear _hK_1
  refine W_seq fun _K_4 _hK_4 => ?_
  refine W_drawC [_b2] 10 mixed rfl fun _w_5 _cw_5 => ?_
  have _cw_5z := _cw_5.size
  have E := E.trans _cw_5
  refine DR_s 1 rfl (by kernel_rfl) rfl rfl (t_v (fun _ => (r_fieldAddr fa42_0 rfl)) ?_)
  have _f_6 := ((_m1.ch0 _cw_3).ch0 _cw_5)
  refine DR_s 2 rfl (by kernel_rfl) rfl rfl (t_loadAt _f_6.at_ (fun i hm => by have _h1 := List.mem_singleton.1 hm; omega) agg33 rfl rfl ?_)
  refine DR_s 5 rfl (by kernel_rfl) rfl rfl (t_v (fun _ => (r_fieldAddr fa42_1 rfl)) ?_)
  refine DR_s 6 rfl (by kernel_rfl) rfl rfl (t_loadAt _f_6.at_ (fun i hm => by have _h1 := List.mem_singleton.1 hm; omega) agg40 rfl rfl ?_)
  refine DR_two 0 4 (by kernel_rfl) ?_ ?_
  · refine DO_s rfl rfl rfl ?_
    refine s_buildSlice0 (k := 1) ics el33 sz3 fun _v3 _w_7 _q3 _lo3 _cw_7 => ?_
    have _cw_7z := _cw_7.size
    have E := E.trans _cw_7
    obtain ⟨_Av3, _Cv3, _ev3⟩ := _q3.val
    subst _ev3
    have _lv3 := _q3.len
    have _hiv3 := _q3.lt
    have _S_8 : Ch [_b2] _w_5 _w_7 := ((Ch.refl _ _).trans _cw_7.of_nil)
    refine ⟨_S_8, ?_⟩
    refine DR_two 3 4 (by kernel_rfl) ?_ ?_
    · refine DO_s rfl rfl rfl ?_
      have _f_10 := ((((_h_gV.ch0 _cw_2).ch0 _cw_3).ch0 _cw_5).ch0 _cw_7)
      refine s_append (cs := ics) el33 sz3 by3 zr3 rfl (by decide) ics_one _q3 _f_10 rfl rfl (by first | omega | (simp only [List.length_append, List.length_nil, List.length_cons, List.length_replicate, List.length_set, List.length_reverse, List.length_map] at *; omega) | (simp at *; omega)) (by first | omega | (simp only [List.length_append, List.length_nil, List.length_cons, List.length_replicate, List.length_set, List.length_reverse, List.length_map] at *; omega) | (simp at *; omega)) _lo3 (by omega) fun _v6 _w_9 _q6 _lo6 _ap6 _cw_9 => ?_
      have _cw_9z := _cw_9.size
      have E := E.step _cw_9 (fun i hi => .inl (by have _h1 := _lo3 _ hi; omega))
      replace _q6 : Ol ics 3 1 _w_9 _v6 gV := _q6
      obtain ⟨_Av6, _Cv6, _ev6⟩ := _q6.val
      subst _ev6
      have _lv6 := _q6.len
      have _hiv6 := _q6.lt
      have _S_11 : Ch [_b2] _w_5 _w_9 := (_S_8.step _cw_9 (fun i hm => by left; have _h1 := _lo3 _ hm; have _h2 := _hiv3 _ hm; omega))
      refine ⟨_S_11, ?_⟩
      refine DR_one 4 (by kernel_rfl) ?_
      refine DO_s rfl rfl rfl ?_
      refine s_buildSlice0 (k := 4) GEdge.cs el40 sz164 fun _v7 _w_12 _q7 _lo7 _cw_12 => ?_
      have _cw_12z := _cw_12.size
      have E := E.trans _cw_12
      obtain ⟨_Av7, _Cv7, _ev7⟩ := _q7.val
      subst _ev7
      have _lv7 := _q7.len
      have _hiv7 := _q7.lt
      have _S_13 : Ch [_b2] _w_5 _w_12 := (_S_11.trans _cw_12.of_nil)
      refine ⟨_S_13, ?_⟩
      refine DR_one 7 (by kernel_rfl) ?_
      refine DO_s rfl rfl rfl ?_
      have _f_15 := ((((((_h_gE.ch0 _cw_2).ch0 _cw_3).ch0 _cw_5).ch0 _cw_7).ch _cw_9 (fun i hi => by have _h1 := _lo3 _ hi; omega)).ch0 _cw_12)
      refine s_append (cs := GEdge.cs) el40 sz164 by164 zr164 rfl (by decide) GEdge.one _q7 _f_15 rfl rfl (by first | omega | (simp only [List.length_append, List.length_nil, List.length_cons, List.length_replicate, List.length_set, List.length_reverse, List.length_map] at *; omega) | (simp at *; omega)) (by first | omega | (simp only [List.length_append, List.length_nil, List.length_cons, List.length_replicate, List.length_set, List.length_reverse, List.length_map] at *; omega) | (simp at *; omega)) _lo7 (by omega) fun _v10 _w_14 _q10 _lo10 _ap10 _cw_14 => ?_
      have _cw_14z := _cw_14.size
      have E := E.step _cw_14 (fun i hi => .inl (by have _h1 := _lo7 _ hi; omega))
      replace _q10 : Ol GEdge.cs 164 4 _w_14 _v10 gE := _q10
      obtain ⟨_Av10, _Cv10, _ev10⟩ := _q10.val
      subst _ev10
      have _lv10 := _q10.len
      have _hiv10 := _q10.lt
      have _S_16 : Ch [_b2] _w_5 _w_14 := (_S_13.step _cw_14 (fun i hm => by left; have _h1 := _lo7 _ hm; have _h2 := _hiv7 _ hm; omega))
      refine ⟨_S_16, ?_⟩
      refine DR_s 8 rfl (by kernel_rfl) rfl rfl (t_v (fun _ => (r_build (parts := [(0, .tmp 6), (1, .tmp 10)]) (cells := [(.slice _Av6 (gV).length _Cv6), (.slice _Av10 (gE).length _Cv10)]) zr42 pl42 rfl rfl)) ?_)
      refine DR_one 9 (by kernel_rfl) ?_
      refine DO_s rfl rfl rfl ?_
      have _f_17 := (((((_m2.ch0 _cw_5).ch0 _cw_7).ch _cw_9 (fun hm => by have _h1 := _lo3 _ hm; have _h2 := _hiv3 _ hm; omega)).ch0 _cw_12).ch _cw_14 (fun hm => by have _h1 := _lo7 _ hm; have _h2 := _hiv7 _ hm; omega))
      refine s_storeA (off := 0) 2 _f_17 sz42 rfl (us := [(.slice _Av6 (gV).length _Cv6), (.slice _Av10 (gE).length _Cv10)]) rfl rfl rfl rfl fun _w_18 _m_19 _cw_18 => ?_
      have _cw_18z := _cw_18.size
      have E := E.step _cw_18 (fun i hi => .inl (by have _h1 := List.mem_singleton.1 hi; omega))
      replace _m_19 : Blk _w_18 _b2 42 [(.slice _Av6 (gV).length _Cv6), (.slice _Av10 (gE).length _Cv10)] := _m_19
      have _S_20 : Ch [_b2] _w_5 _w_18 := (_S_16.step _cw_18 (fun i hm => by have _h0 := List.mem_singleton.1 hm; exact .inr (by rw [_h0]; exact (List.mem_singleton.2 rfl))))
      refine ⟨_S_20, ?_⟩
      refine DR_done (by kernel_rfl) ?_
      refine thn_nrm (_hK_4 _ _ ?_)
      clear _hK_4
      refine W_ret ?_
      have _f_21 := (((_q6.ch0 _cw_12).ch _cw_14 (fun g hg hm => by rcases _ap6 with ea | ea; (rw [ea] at hg; have _h1 := _lo7 _ hm; have _h2 := _hiv7 _ hm; have _h3 := _lo3 _ hg; have _h4 := _hiv3 _ hg; omega); (have z2hg := _hiv6 _ hg; rw [ea] at hg; have _z1 := List.mem_singleton.1 hg; have _h1 := _lo7 _ hm; have _h2 := _hiv7 _ hm; omega))).ch _cw_18 (fun g hg hm => by have _h0 := List.mem_singleton.1 hm; rcases _ap6 with ea | ea; (rw [ea] at hg; have _h2 := _lo3 _ hg; have _h3 := _hiv3 _ hg; omega); (have z2hg := _hiv6 _ hg; rw [ea] at hg; have _z1 := List.mem_singleton.1 hg; omega)))
      have _o_22 : Ol ics 3 1 _w_18 (.slice _Av6 (gV).length _Cv6) (gV) := by
        have hx := _f_21
        first | exact hx | simpa using hx
      have _f_23 := (_q10.ch _cw_18 (fun g hg hm => by have _h0 := List.mem_singleton.1 hm; rcases _ap10 with ea | ea; (rw [ea] at hg; have _h2 := _lo7 _ hg; have _h3 := _hiv7 _ hg; omega); (have z2hg := _hiv10 _ hg; rw [ea] at hg; have _z1 := List.mem_singleton.1 hg; omega)))
      have _o_24 : Ol GEdge.cs 164 4 _w_18 (.slice _Av10 (gE).length _Cv10) (gE) := by
        have hx := _f_23
        first | exact hx | simpa using hx
      exact ret_intro [_] (resOf_loadA _m_19 rfl agg42 sz42 trivial) ⟨(.slice _Av6 (gV).length _Cv6), (.slice _Av10 (gE).length _Cv10), rfl, _o_22, (Lo.down _lo6 (by omega)), _o_24, (Lo.down _lo10 (by omega)), (fun g hm hg => by rcases _ap6 with ea | ea; (rw [ea] at hm; rcases _ap10 with ea | ea; (rw [ea] at hg; have _h1 := _lo3 _ hm; have _h2 := _hiv3 _ hm; have _h3 := _lo7 _ hg; have _h4 := _hiv7 _ hg; omega); (have z2hg := _hiv10 _ hg; rw [ea] at hg; have _z1 := List.mem_singleton.1 hg; have _h1 := _lo3 _ hm; have _h2 := _hiv3 _ hm; omega)); (have z2hm := _hiv6 _ hm; rw [ea] at hm; have _z1 := List.mem_singleton.1 hm; rcases _ap10 with ea | ea; (rw [ea] at hg; have _h3 := _lo7 _ hg; have _h4 := _hiv7 _ hg; omega); (have z2hg := _hiv10 _ hg; rw [ea] at hg; have _z1 := List.mem_singleton.1 hg; omega))), E⟩
    · refine DO_s rfl rfl rfl ?_
      refine s_buildSlice0 (k := 4) GEdge.cs el40 sz164 fun _v7 _w_25 _q7 _lo7 _cw_25 => ?_
      have _cw_25z := _cw_25.size
      have E := E.trans _cw_25
      obtain ⟨_Av7, _Cv7, _ev7⟩ := _q7.val
      subst _ev7
      have _lv7 := _q7.len
      have _hiv7 := _q7.lt
      have _S_26 : Ch [_b2] _w_5 _w_25 := (_S_8.trans _cw_25.of_nil)
      refine ⟨_S_26, ?_⟩
      refine DR_one 3 (by kernel_rfl) ?_
      refine DO_s rfl rfl rfl ?_
      have _f_28 := (_q3.ch0 _cw_25)
      have _f_29 := (((((_h_gV.ch0 _cw_2).ch0 _cw_3).ch0 _cw_5).ch0 _cw_7).ch0 _cw_25)
      refine s_append (cs := ics) el33 sz3 by3 zr3 rfl (by decide) ics_one _f_28 _f_29 rfl rfl (by first | omega | (simp only [List.length_append, List.length_nil, List.length_cons, List.length_replicate, List.length_set, List.length_reverse, List.length_map] at *; omega) | (simp at *; omega)) (by first | omega | (simp only [List.length_append, List.length_nil, List.length_cons, List.length_replicate, List.length_set, List.length_reverse, List.length_map] at *; omega) | (simp at *; omega)) _lo3 (by omega) fun _v6 _w_27 _q6 _lo6 _ap6 _cw_27 => ?_
      have _cw_27z := _cw_27.size
      have E := E.step _cw_27 (fun i hi => .inl (by have _h1 := _lo3 _ hi; omega))
      replace _q6 : Ol ics 3 1 _w_27 _v6 gV := _q6
      obtain ⟨_Av6, _Cv6, _ev6⟩ := _q6.val
      subst _ev6
      have _lv6 := _q6.len
      have _hiv6 := _q6.lt
      have _S_30 : Ch [_b2] _w_5 _w_27 := (_S_26.step _cw_27 (fun i hm => by left; have _h1 := _lo3 _ hm; have _h2 := _hiv3 _ hm; omega))
      refine ⟨_S_30, ?_⟩
      refine DR_one 7 (by kernel_rfl) ?_
      refine DO_s rfl rfl rfl ?_
      have _f_32 := (_q7.ch _cw_27 (fun g hg hm => by have _h1 := _lo3 _ hm; have _h2 := _hiv3 _ hm; have _h3 := _lo7 _ hg; have _h4 := _hiv7 _ hg; omega))
      have _f_33 := ((((((_h_gE.ch0 _cw_2).ch0 _cw_3).ch0 _cw_5).ch0 _cw_7).ch0 _cw_25).ch _cw_27 (fun i hi => by have _h1 := _lo3 _ hi; omega))
      refine s_append (cs := GEdge.cs) el40 sz164 by164 zr164 rfl (by decide) GEdge.one _f_32 _f_33 rfl rfl (by first | omega | (simp only [List.length_append, List.length_nil, List.length_cons, List.length_replicate, List.length_set, List.length_reverse, List.length_map] at *; omega) | (simp at *; omega)) (by first | omega | (simp only [List.length_append, List.length_nil, List.length_cons, List.length_replicate, List.length_set, List.length_reverse, List.length_map] at *; omega) | (simp at *; omega)) _lo7 (by omega) fun _v10 _w_31 _q10 _lo10 _ap10 _cw_31 => ?_
      have _cw_31z := _cw_31.size
      have E := E.step _cw_31 (fun i hi => .inl (by have _h1 := _lo7 _ hi; omega))
      replace _q10 : Ol GEdge.cs 164 4 _w_31 _v10 gE := _q10
      obtain ⟨_Av10, _Cv10, _ev10⟩ := _q10.val
      subst _ev10
      have _lv10 := _q10.len
      have _hiv10 := _q10.lt
      have _S_34 : Ch [_b2] _w_5 _w_31 := (_S_30.step _cw_31 (fun i hm => by left; have _h1 := _lo7 _ hm; have _h2 := _hiv7 _ hm; omega))
      refine ⟨_S_34, ?_⟩
      refine DR_s 8 rfl (by kernel_rfl) rfl rfl (t_v (fun _ => (r_build (parts := [(0, .tmp 6), (1, .tmp 10)]) (cells := [(.slice _Av6 (gV).length _Cv6), (.slice _Av10 (gE).length _Cv10)]) zr42 pl42 rfl rfl)) ?_)
      refine DR_one 9 (by kernel_rfl) ?_
      refine DO_s rfl rfl rfl ?_
      have _f_35 := (((((_m2.ch0 _cw_5).ch0 _cw_7).ch0 _cw_25).ch _cw_27 (fun hm => by have _h1 := _lo3 _ hm; have _h2 := _hiv3 _ hm; omega)).ch _cw_31 (fun hm => by have _h1 := _lo7 _ hm; have _h2 := _hiv7 _ hm; omega))
      refine s_storeA (off := 0) 2 _f_35 sz42 rfl (us := [(.slice _Av6 (gV).length _Cv6), (.slice _Av10 (gE).length _Cv10)]) rfl rfl rfl rfl fun _w_36 _m_37 _cw_36 => ?_
      have _cw_36z := _cw_36.size
      have E := E.step _cw_36 (fun i hi => .inl (by have _h1 := List.mem_singleton.1 hi; omega))
      replace _m_37 : Blk _w_36 _b2 42 [(.slice _Av6 (gV).length _Cv6), (.slice _Av10 (gE).length _Cv10)] := _m_37
      have _S_38 : Ch [_b2] _w_5 _w_36 := (_S_34.step _cw_36 (fun i hm => by have _h0 := List.mem_singleton.1 hm; exact .inr (by rw [_h0]; exact (List.mem_singleton.2 rfl))))
      refine ⟨_S_38, ?_⟩
      refine DR_done (by kernel_rfl) ?_
      refine thn_nrm (_hK_4 _ _ ?_)
      clear _hK_4
      refine W_ret ?_
      have _f_39 := ((_q6.ch _cw_31 (fun g hg hm => by rcases _ap6 with ea | ea; (rw [ea] at hg; have _h1 := _lo7 _ hm; have _h2 := _hiv7 _ hm; have _h3 := _lo3 _ hg; have _h4 := _hiv3 _ hg; omega); (have z2hg := _hiv6 _ hg; rw [ea] at hg; have _z1 := List.mem_singleton.1 hg; have _h1 := _lo7 _ hm; have _h2 := _hiv7 _ hm; omega))).ch _cw_36 (fun g hg hm => by have _h0 := List.mem_singleton.1 hm; rcases _ap6 with ea | ea; (rw [ea] at hg; have _h2 := _lo3 _ hg; have _h3 := _hiv3 _ hg; omega); (have z2hg := _hiv6 _ hg; rw [ea] at hg; have _z1 := List.mem_singleton.1 hg; omega)))
      have _o_40 : Ol ics 3 1 _w_36 (.slice _Av6 (gV).length _Cv6) (gV) := by
        have hx := _f_39
        first | exact hx | simpa using hx
      have _f_41 := (_q10.ch _cw_36 (fun g hg hm => by have _h0 := List.mem_singleton.1 hm; rcases _ap10 with ea | ea; (rw [ea] at hg; have _h2 := _lo7 _ hg; have _h3 := _hiv7 _ hg; omega); (have z2hg := _hiv10 _ hg; rw [ea] at hg; have _z1 := List.mem_singleton.1 hg; omega)))
      have _o_42 : Ol GEdge.cs 164 4 _w_36 (.slice _Av10 (gE).length _Cv10) (gE) := by
        have hx := _f_41
        first | exact hx | simpa using hx
      exact ret_intro [_] (resOf_loadA _m_37 rfl agg42 sz42 trivial) ⟨(.slice _Av6 (gV).length _Cv6), (.slice _Av10 (gE).length _Cv10), rfl, _o_40, (Lo.down _lo6 (by omega)), _o_42, (Lo.down _lo10 (by omega)), (fun g hm hg => by rcases _ap6 with ea | ea; (rw [ea] at hm; rcases _ap10 with ea | ea; (rw [ea] at hg; have _h1 := _lo3 _ hm; have _h2 := _hiv3 _ hm; have _h3 := _lo7 _ hg; have _h4 := _hiv7 _ hg; omega); (have z2hg := _hiv10 _ hg; rw [ea] at hg; have _z1 := List.mem_singleton.1 hg; have _h1 := _lo3 _ hm; have _h2 := _hiv3 _ hm; omega)); (have z2hm := _hiv6 _ hm; rw [ea] at hm; have _z1 := List.mem_singleton.1 hm; rcases _ap10 with ea | ea; (rw [ea] at hg; have _h3 := _lo7 _ hg; have _h4 := _hiv7 _ hg; omega); (have z2hg := _hiv10 _ hg; rw [ea] at hg; have _z1 := List.mem_singleton.1 hg; omega))), E⟩
  · refine DO_s rfl rfl rfl ?_
    refine s_buildSlice0 (k := 4) GEdge.cs el40 sz164 fun _v7 _w_43 _q7 _lo7 _cw_43 => ?_
    have _cw_43z := _cw_43.size
    have E := E.trans _cw_43
    obtain ⟨_Av7, _Cv7, _ev7⟩ := _q7.val
    subst _ev7
    have _lv7 := _q7.len
    have _hiv7 := _q7.lt
    have _S_44 : Ch [_b2] _w_5 _w_43 := ((Ch.refl _ _).trans _cw_43.of_nil)
    refine ⟨_S_44, ?_⟩
    refine DR_one 0 (by kernel_rfl) ?_
    refine DO_s rfl rfl rfl ?_
    refine s_buildSlice0 (k := 1) ics el33 sz3 fun _v3 _w_45 _q3 _lo3 _cw_45 => ?_
    have _cw_45z := _cw_45.size
    have E := E.trans _cw_45
    obtain ⟨_Av3, _Cv3, _ev3⟩ := _q3.val
    subst _ev3
    have _lv3 := _q3.len
    have _hiv3 := _q3.lt
    have _S_46 : Ch [_b2] _w_5 _w_45 := (_S_44.trans _cw_45.of_nil)
    refine ⟨_S_46, ?_⟩
    refine DR_one 3 (by kernel_rfl) ?_
    refine DO_s rfl rfl rfl ?_
    have _f_48 := (((((_h_gV.ch0 _cw_2).ch0 _cw_3).ch0 _cw_5).ch0 _cw_43).ch0 _cw_45)
    refine s_append (cs := ics) el33 sz3 by3 zr3 rfl (by decide) ics_one _q3 _f_48 rfl rfl (by first | omega | (simp only [List.length_append, List.length_nil, List.length_cons, List.length_replicate, List.length_set, List.length_reverse, List.length_map] at *; omega) | (simp at *; omega)) (by first | omega | (simp only [List.length_append, List.length_nil, List.length_cons, List.length_replicate, List.length_set, List.length_reverse, List.length_map] at *; omega) | (simp at *; omega)) _lo3 (by omega) fun _v6 _w_47 _q6 _lo6 _ap6 _cw_47 => ?_
    have _cw_47z := _cw_47.size
    have E := E.step _cw_47 (fun i hi => .inl (by have _h1 := _lo3 _ hi; omega))
    replace _q6 : Ol ics 3 1 _w_47 _v6 gV := _q6
    obtain ⟨_Av6, _Cv6, _ev6⟩ := _q6.val
    subst _ev6
    have _lv6 := _q6.len
    have _hiv6 := _q6.lt
    have _S_49 : Ch [_b2] _w_5 _w_47 := (_S_46.step _cw_47 (fun i hm => by left; have _h1 := _lo3 _ hm; have _h2 := _hiv3 _ hm; omega))
    refine ⟨_S_49, ?_⟩
    refine DR_one 7 (by kernel_rfl) ?_
    refine DO_s rfl rfl rfl ?_
    have _f_51 := ((_q7.ch0 _cw_45).ch _cw_47 (fun g hg hm => by have _h1 := _lo3 _ hm; have _h2 := _hiv3 _ hm; have _h3 := _lo7 _ hg; have _h4 := _hiv7 _ hg; omega))
    have _f_52 := ((((((_h_gE.ch0 _cw_2).ch0 _cw_3).ch0 _cw_5).ch0 _cw_43).ch0 _cw_45).ch _cw_47 (fun i hi => by have _h1 := _lo3 _ hi; omega))
    refine s_append (cs := GEdge.cs) el40 sz164 by164 zr164 rfl (by decide) GEdge.one _f_51 _f_52 rfl rfl (by first | omega | (simp only [List.length_append, List.length_nil, List.length_cons, List.length_replicate, List.length_set, List.length_reverse, List.length_map] at *; omega) | (simp at *; omega)) (by first | omega | (simp only [List.length_append, List.length_nil, List.length_cons, List.length_replicate, List.length_set, List.length_reverse, List.length_map] at *; omega) | (simp at *; omega)) _lo7 (by omega) fun _v10 _w_50 _q10 _lo10 _ap10 _cw_50 => ?_
    have _cw_50z := _cw_50.size
    have E := E.step _cw_50 (fun i hi => .inl (by have _h1 := _lo7 _ hi; omega))
    replace _q10 : Ol GEdge.cs 164 4 _w_50 _v10 gE := _q10
    obtain ⟨_Av10, _Cv10, _ev10⟩ := _q10.val
    subst _ev10
    have _lv10 := _q10.len
    have _hiv10 := _q10.lt
    have _S_53 : Ch [_b2] _w_5 _w_50 := (_S_49.step _cw_50 (fun i hm => by left; have _h1 := _lo7 _ hm; have _h2 := _hiv7 _ hm; omega))
    refine ⟨_S_53, ?_⟩
    refine DR_s 8 rfl (by kernel_rfl) rfl rfl (t_v (fun _ => (r_build (parts := [(0, .tmp 6), (1, .tmp 10)]) (cells := [(.slice _Av6 (gV).length _Cv6), (.slice _Av10 (gE).length _Cv10)]) zr42 pl42 rfl rfl)) ?_)
    refine DR_one 9 (by kernel_rfl) ?_
    refine DO_s rfl rfl rfl ?_
    have _f_54 := (((((_m2.ch0 _cw_5).ch0 _cw_43).ch0 _cw_45).ch _cw_47 (fun hm => by have _h1 := _lo3 _ hm; have _h2 := _hiv3 _ hm; omega)).ch _cw_50 (fun hm => by have _h1 := _lo7 _ hm; have _h2 := _hiv7 _ hm; omega))
    refine s_storeA (off := 0) 2 _f_54 sz42 rfl (us := [(.slice _Av6 (gV).length _Cv6), (.slice _Av10 (gE).length _Cv10)]) rfl rfl rfl rfl fun _w_55 _m_56 _cw_55 => ?_
    have _cw_55z := _cw_55.size
    have E := E.step _cw_55 (fun i hi => .inl (by have _h1 := List.mem_singleton.1 hi; omega))
    replace _m_56 : Blk _w_55 _b2 42 [(.slice _Av6 (gV).length _Cv6), (.slice _Av10 (gE).length _Cv10)] := _m_56
    have _S_57 : Ch [_b2] _w_5 _w_55 := (_S_53.step _cw_55 (fun i hm => by have _h0 := List.mem_singleton.1 hm; exact .inr (by rw [_h0]; exact (List.mem_singleton.2 rfl))))
    refine ⟨_S_57, ?_⟩
    refine DR_done (by kernel_rfl) ?_
    refine thn_nrm (_hK_4 _ _ ?_)
    clear _hK_4
    refine W_ret ?_
    have _f_58 := ((_q6.ch _cw_50 (fun g hg hm => by rcases _ap6 with ea | ea; (rw [ea] at hg; have _h1 := _lo7 _ hm; have _h2 := _hiv7 _ hm; have _h3 := _lo3 _ hg; have _h4 := _hiv3 _ hg; omega); (have z2hg := _hiv6 _ hg; rw [ea] at hg; have _z1 := List.mem_singleton.1 hg; have _h1 := _lo7 _ hm; have _h2 := _hiv7 _ hm; omega))).ch _cw_55 (fun g hg hm => by have _h0 := List.mem_singleton.1 hm; rcases _ap6 with ea | ea; (rw [ea] at hg; have _h2 := _lo3 _ hg; have _h3 := _hiv3 _ hg; omega); (have z2hg := _hiv6 _ hg; rw [ea] at hg; have _z1 := List.mem_singleton.1 hg; omega)))
    have _o_59 : Ol ics 3 1 _w_55 (.slice _Av6 (gV).length _Cv6) (gV) := by
      have hx := _f_58
      first | exact hx | simpa using hx
    have _f_60 := (_q10.ch _cw_55 (fun g hg hm => by have _h0 := List.mem_singleton.1 hm; rcases _ap10 with ea | ea; (rw [ea] at hg; have _h2 := _lo7 _ hg; have _h3 := _hiv7 _ hg; omega); (have z2hg := _hiv10 _ hg; rw [ea] at hg; have _z1 := List.mem_singleton.1 hg; omega)))
    have _o_61 : Ol GEdge.cs 164 4 _w_55 (.slice _Av10 (gE).length _Cv10) (gE) := by
      have hx := _f_60
      first | exact hx | simpa using hx
    exact ret_intro [_] (resOf_loadA _m_56 rfl agg42 sz42 trivial) ⟨(.slice _Av6 (gV).length _Cv6), (.slice _Av10 (gE).length _Cv10), rfl, _o_59, (Lo.down _lo6 (by omega)), _o_61, (Lo.down _lo10 (by omega)), (fun g hm hg => by rcases _ap6 with ea | ea; (rw [ea] at hm; rcases _ap10 with ea | ea; (rw [ea] at hg; have _h1 := _lo3 _ hm; have _h2 := _hiv3 _ hm; have _h3 := _lo7 _ hg; have _h4 := _hiv7 _ hg; omega); (have z2hg := _hiv10 _ hg; rw [ea] at hg; have _z1 := List.mem_singleton.1 hg; have _h1 := _lo3 _ hm; have _h2 := _hiv3 _ hm; omega)); (have z2hm := _hiv6 _ hm; rw [ea] at hm; have _z1 := List.mem_singleton.1 hm; rcases _ap10 with ea | ea; (rw [ea] at hg; have _h3 := _lo7 _ hg; have _h4 := _hiv7 _ hg; omega); (have z2hg := _hiv10 _ hg; rw [ea] at hg; have _z1 := List.mem_singleton.1 hg; omega))), E⟩

/-- spec.NewHistory -/
theorem c_spec_NewHistory {w : World} {LL_gV _B_gV : Nat} {_v_gV : Value} {gV : List Int} (_h_gV : Ls ics 1 w LL_gV _B_gV _v_gV gV) {LL_gE _B_gE : Nat} {_v_gE : Value} {gE : List GEdge} (_h_gE : Ls GEdge.cs 4 w LL_gE _B_gE _v_gE gE) (n : Int) (hb : gV.length ≤ 4194304 ∧ gE.length ≤ 4194304) :
    Ctr Try.prog 19 #[(.agg #[_v_gV, _v_gE]), (.int .i64 n)] w (fun v w' => ∃ (u0x1 : Value) (vs0x1 : List Gv), v = .tuple #[.agg #[.int .i64 (nhF gV gE n), u0x1], .bool (tt (ValidH n [⟨gV, gE⟩]))] ∧ Ol Gv.cs 42 2 w' u0x1 vs0x1 ∧ Lo w.heap.size u0x1 ∧ OdG 3 164 w' w.heap.size w'.heap.size vs0x1 (nhG gV gE n) ∧ SepH u0x1 vs0x1 ∧ Ch [] w w') := by
  obtain ⟨_A_gV, _C_gV, _e1_gV⟩ := _h_gV.val
  subst _e1_gV
  have _l_gV := _h_gV.len
  have _h_gV := _h_gV.here (by decide)
  obtain ⟨_A_gE, _C_gE, _e1_gE⟩ := _h_gE.val
  subst _e1_gE
  have _l_gE := _h_gE.len
  have _h_gE := _h_gE.here (by decide)
  have E := Ch.refl [] w
  refine Ctr_of_W (N := 17) (vs0 := [(.agg #[(.slice _A_gV gV.length _C_gV), (.slice _A_gE gE.length _C_gE)]), (.int .i64 n)]) Try.func19 rfl rfl rfl ?_
  refine W_seq fun _K_1 _hK_1 => ?_
  refine W_region ?_
  refine WL_s rfl rfl ?_
  refine s_box rfl fun _b2 _w_2 _m2 _cw_2 _e2 => ?_
  have _cw_2z := _cw_2.size
  have E := E.trans _cw_2
  have _z2 := _m2.lt
  replace _m2 : Blk _w_2 _b2 42 [(.slice _A_gV gV.length _C_gV), (.slice _A_gE gE.length _C_gE)] := _m2
  refine WL_s rfl rfl ?_
  refine s_alloc zr29 fun _b4 _w_3 _m4 _cw_3 _e4 => ?_
  have _cw_3z := _cw_3.size
  have E := E.trans _cw_3
  have _z4 := _m4.lt
  replace _m4 : Blk _w_3 _b4 29 [(.int .i64 0), (.slice none 0 0)] := _m4
  refine WL_step rfl rfl (r_assign rfl) ?_
  refine WL_nil ?_
  refine thn_nrm (_hK_1 _ _ ?_)
  clear _hK_1
  refine W_seq fun _K_4 _hK_4 => ?_
  refine W_region ?_
  refine WL_step rfl rfl (r_move rfl) ?_
  have _f_5 := (_m2.ch0 _cw_3)
  refine WL_step rfl rfl (r_loadAtA0 _f_5.at_ agg42 sz42 rfl) ?_
  refine WL_s rfl rfl ?_
  have _f_6 := ((_h_gV.ch0 _cw_2).ch0 _cw_3)
  have _f_7 := ((_h_gE.ch0 _cw_2).ch0 _cw_3)
  refine Step.call (r_call (xs := [.tmp 8]) fk73 rfl) (c_spec_l3Copy _f_6 _f_7 (by omega)) fun _v9 _w_8 _q9 => ?_
  obtain ⟨u9_0x0, u9_0x1, rfl, _q_u9_0x0, _lo_u9_0x0, _q_u9_0x1, _lo_u9_0x1, _dj_u9_0x0_u9_0x1, _cw_8⟩ := _q9
  have _cw_8z := _cw_8.size
  have E := E.trans _cw_8
  obtain ⟨Au9_0x0, Cu9_0x0, eu9_0x0⟩ := _q_u9_0x0.val
  subst eu9_0x0
  have lu9_0x0 := _q_u9_0x0.len
  have _hiu9_0x0 := _q_u9_0x0.lt
  obtain ⟨Au9_0x1, Cu9_0x1, eu9_0x1⟩ := _q_u9_0x1.val
  subst eu9_0x1
  have lu9_0x1 := _q_u9_0x1.len
  have _hiu9_0x1 := _q_u9_0x1.lt
  refine WL_s rfl rfl ?_
  refine s_buildSlice (cs := Gv.cs) (parts := [(0, .tmp 9)]) (⟨⟨none, 0, 0⟩, ⟨none, 0, 0⟩⟩ : Gv) [(⟨(⟨Au9_0x0, (gV).length, Cu9_0x0⟩ : Sv), (⟨Au9_0x1, (gE).length, Cu9_0x1⟩ : Sv)⟩ : Gv)] el27 sz42 zr42 Gv.len (by decide) rfl rfl rfl (by decide) (by decide) rfl fun _v10 _w_9 _q10 _lo10 _cw_9 => ?_
  have _cw_9z := _cw_9.size
  have E := E.trans _cw_9
  obtain ⟨_Av10, _Cv10, _ev10⟩ := _q10.val
  subst _ev10
  have _lv10 := _q10.len
  have _hiv10 := _q10.lt
  have _f_10 := (_q_u9_0x0.ch0 _cw_9)
  have _f_11 := (_q_u9_0x1.ch0 _cw_9)
  have od10 : OdG 3 164 _w_9 _w_3.heap.size _w_9.heap.size ([(⟨(⟨Au9_0x0, (gV).length, Cu9_0x0⟩ : Sv), (⟨Au9_0x1, (gE).length, Cu9_0x1⟩ : Sv)⟩ : Gv)]) ([(⟨gV, gE⟩ : GD)]) := OdG.snoc (hi := _w_3.heap.size) (vs := []) (xs := []) OdG.nil _f_10 _f_11 (Lo.down _lo_u9_0x0 (by omega)) (Lo.down _lo_u9_0x1 (by omega)) (fun g hg => by have _h1 := _hiu9_0x0 g hg; omega) (fun g hg => by have _h1 := _hiu9_0x1 g hg; omega) (fun g hm hg => by exact _dj_u9_0x0_u9_0x1 _ hm hg) (by omega) (by omega)
  have spn10 : SepH (.slice _Av10 ([(⟨(⟨Au9_0x0, (gV).length, Cu9_0x0⟩ : Sv), (⟨Au9_0x1, (gE).length, Cu9_0x1⟩ : Sv)⟩ : Gv)]).length _Cv10) [(⟨(⟨Au9_0x0, (gV).length, Cu9_0x0⟩ : Sv), (⟨Au9_0x1, (gE).length, Cu9_0x1⟩ : Sv)⟩ : Gv)] := fun u hu => by rw [List.mem_singleton.1 hu]; exact ⟨fun g hg hm => by have _h1 := _hiu9_0x0 _ hg; have _h2 := _lo10 _ hm; omega, fun g hg hm => by have _h1 := _hiu9_0x1 _ hg; have _h2 := _lo10 _ hm; omega⟩
  refine WL_step rfl rfl (r_build (parts := [(0, .tmp 7), (1, .tmp 10)]) (cells := [(.int .i64 n), (.slice _Av10 ([(⟨(⟨Au9_0x0, (gV).length, Cu9_0x0⟩ : Sv), (⟨Au9_0x1, (gE).length, Cu9_0x1⟩ : Sv)⟩ : Gv)]).length _Cv10)]) zr29 pl29 rfl rfl) ?_
  refine WL_s rfl rfl ?_
  refine s_alloc zr29 fun _b6 _w_12 _m6 _cw_12 _e6 => ?_
  have _cw_12z := _cw_12.size
  have E := E.trans _cw_12
  have _z6 := _m6.lt
  replace _m6 : Blk _w_12 _b6 29 [(.int .i64 0), (.slice none 0 0)] := _m6
  refine WL_s rfl rfl ?_
  refine s_storeA (off := 0) 2 _m6 sz29 rfl (us := [(.int .i64 n), (.slice _Av10 ([(⟨(⟨Au9_0x0, (gV).length, Cu9_0x0⟩ : Sv), (⟨Au9_0x1, (gE).length, Cu9_0x1⟩ : Sv)⟩ : Gv)]).length _Cv10)]) rfl rfl rfl rfl fun _w_13 _m_14 _cw_13 => ?_
  have _cw_13z := _cw_13.size
  have E := E.step _cw_13 (fun i hi => .inl (by have _h1 := List.mem_singleton.1 hi; omega))
  replace _m_14 : Blk _w_13 _b6 29 [(.int .i64 n), (.slice _Av10 ([(⟨(⟨Au9_0x0, (gV).length, Cu9_0x0⟩ : Sv), (⟨Au9_0x1, (gE).length, Cu9_0x1⟩ : Sv)⟩ : Gv)]).length _Cv10)] := _m_14
  refine WL_nil ?_
  refine thn_nrm (_hK_4 _ _ ?_)
  clear _hK_4
  refine W_seq fun _K_15 _hK_15 => ?_
  refine W_seq fun _K_16 _hK_16 => ?_
  refine W_region ?_
  refine WL_step rfl rfl (r_loadAtA0 _m_14.at_ agg29 sz29 rfl) ?_
  refine WL_s rfl rfl ?_
  have _f_17 := ((_q10.ch0 _cw_12).ch _cw_13 (fun g hg hm => by have _h0 := List.mem_singleton.1 hm; have _h2 := _lo10 _ hg; have _h3 := _hiv10 _ hg; omega))
  have _f_18 := ((od10.ch0 _cw_12).ch _cw_13 (fun i hi => by have _h1 := List.mem_singleton.1 hi; omega))
  refine Step.call (r_call (xs := [.tmp 12]) fk67 rfl) (c_spec_IsValidHistory _ _f_17.ls _f_18.rdg ) fun _v13 _w_19 _q13 => ?_
  obtain ⟨rfl, _cw_19⟩ := _q13
  have _cw_19z := _cw_19.size
  have E := E.trans _cw_19
  refine WL_step rfl rfl (r_not rfl) ?_
  refine WL_nil ?_
  refine thn_nrm (_hK_16 _ _ ?_)
  clear _hK_16
  refine W_cond rfl (fun _h14 => ?_) (fun _h14 => ?_)
  · have _kb_20 := _h14
    have _h14 := bf_t (bt_n _h14)
    refine W_seq fun _K_21 _hK_21 => ?_
    refine W_region ?_
    refine WL_step rfl rfl (r_build (parts := []) (cells := [(.int .i64 0), (.slice none 0 0)]) zr29 pl29 rfl rfl) ?_
    refine WL_s rfl rfl ?_
    have _f_22 := (((((_m4.ch0 _cw_8).ch0 _cw_9).ch0 _cw_12).ch _cw_13 (fun hm => by have _h1 := List.mem_singleton.1 hm; omega)).ch0 _cw_19)
    refine s_storeA (off := 0) 2 _f_22 sz29 rfl (us := [(.int .i64 0), (.slice none 0 0)]) rfl rfl rfl rfl fun _w_23 _m_24 _cw_23 => ?_
    have _cw_23z := _cw_23.size
    have E := E.step _cw_23 (fun i hi => .inl (by have _h1 := List.mem_singleton.1 hi; omega))
    replace _m_24 : Blk _w_23 _b4 29 [(.int .i64 0), (.slice none 0 0)] := _m_24
    refine WL_step rfl rfl (r_assign rfl) ?_
    refine WL_nil ?_
    refine thn_nrm (_hK_21 _ _ ?_)
    clear _hK_21
    refine W_ret (thn_ret ?_)
    clear _hK_15
    exact ret_intro [_, _] (resOf_loadA _m_24 rfl agg29 sz29 ⟨rfl, trivial⟩) ⟨(.slice none 0 0), [], ((congrArg (fun zq => (Value.tuple #[.agg #[.int .i64 zq, (.slice none 0 0)], .bool false])) (by first | exact nhF_n _h14 | exact nhF_y _h14)).trans (congrArg (fun zq => (Value.tuple #[.agg #[.int .i64 (nhF gV gE n), (.slice none 0 0)], .bool zq])) (by first | exact tt_false _h14 | exact tt_true _h14))), (Ol.nil _), (Lo.nil _), (by rw [← nhG_n _h14]; exact OdG.nil), (fun u hu => by cases hu), E⟩
  · have _kb_20 := _h14
    have _h14 := bt_t (bf_n _h14)
    refine W_skip ?_
    refine thn_nrm (_hK_15 _ _ ?_)
    clear _hK_15
    refine W_seq fun _K_25 _hK_25 => ?_
    refine W_region ?_
    have _f_26 := (_m_14.ch0 _cw_19)
    refine WL_step rfl rfl (r_loadAtA0 _f_26.at_ agg29 sz29 rfl) ?_
    refine WL_s rfl rfl ?_
    have _f_27 := (((((_m4.ch0 _cw_8).ch0 _cw_9).ch0 _cw_12).ch _cw_13 (fun hm => by have _h1 := List.mem_singleton.1 hm; omega)).ch0 _cw_19)
    refine s_storeA (off := 0) 2 _f_27 sz29 rfl (us := [(.int .i64 n), (.slice _Av10 ([(⟨(⟨Au9_0x0, (gV).length, Cu9_0x0⟩ : Sv), (⟨Au9_0x1, (gE).length, Cu9_0x1⟩ : Sv)⟩ : Gv)]).length _Cv10)]) rfl rfl rfl rfl fun _w_28 _m_29 _cw_28 => ?_
    have _cw_28z := _cw_28.size
    have E := E.step _cw_28 (fun i hi => .inl (by have _h1 := List.mem_singleton.1 hi; omega))
    replace _m_29 : Blk _w_28 _b4 29 [(.int .i64 n), (.slice _Av10 ([(⟨(⟨Au9_0x0, (gV).length, Cu9_0x0⟩ : Sv), (⟨Au9_0x1, (gE).length, Cu9_0x1⟩ : Sv)⟩ : Gv)]).length _Cv10)] := _m_29
    refine WL_step rfl rfl (r_assign rfl) ?_
    refine WL_nil ?_
    refine thn_nrm (_hK_25 _ _ ?_)
    clear _hK_25
    refine W_ret ?_
    have _f_32 := ((_f_17.ch0 _cw_19).ch _cw_28 (fun g hg hm => by have _h0 := List.mem_singleton.1 hm; have _h2 := _lo10 _ hg; have _h3 := _hiv10 _ hg; omega))
    have _f_33 := ((_f_18.ch0 _cw_19).ch _cw_28 (fun i hi => by have _h1 := List.mem_singleton.1 hi; omega))
    have _o_30 : Ol Gv.cs 42 2 _w_28 (.slice _Av10 ([(⟨(⟨Au9_0x0, (gV).length, Cu9_0x0⟩ : Sv), (⟨Au9_0x1, (gE).length, Cu9_0x1⟩ : Sv)⟩ : Gv)]).length _Cv10) ([(⟨(⟨Au9_0x0, (gV).length, Cu9_0x0⟩ : Sv), (⟨Au9_0x1, (gE).length, Cu9_0x1⟩ : Sv)⟩ : Gv)]) := by
      have hx := _f_32
      exact hx
    have _o_31 : OdG 3 164 _w_28 w.heap.size _w_28.heap.size ([(⟨(⟨Au9_0x0, (gV).length, Cu9_0x0⟩ : Sv), (⟨Au9_0x1, (gE).length, Cu9_0x1⟩ : Sv)⟩ : Gv)]) (nhG gV gE n) := by
      have hx := _f_33.up (lo' := w.heap.size) (hi' := _w_28.heap.size) (by omega) (by omega)
      rw [← nhG_y _h14]; exact hx
    exact ret_intro [_, _] (resOf_loadA _m_29 rfl agg29 sz29 ⟨rfl, trivial⟩) ⟨(.slice _Av10 ([(⟨(⟨Au9_0x0, (gV).length, Cu9_0x0⟩ : Sv), (⟨Au9_0x1, (gE).length, Cu9_0x1⟩ : Sv)⟩ : Gv)]).length _Cv10), ([(⟨(⟨Au9_0x0, (gV).length, Cu9_0x0⟩ : Sv), (⟨Au9_0x1, (gE).length, Cu9_0x1⟩ : Sv)⟩ : Gv)]), ((congrArg (fun zq => (Value.tuple #[.agg #[.int .i64 zq, (.slice _Av10 ([(⟨(⟨Au9_0x0, (gV).length, Cu9_0x0⟩ : Sv), (⟨Au9_0x1, (gE).length, Cu9_0x1⟩ : Sv)⟩ : Gv)]).length _Cv10)], .bool true])) (by first | exact nhF_n _h14 | exact nhF_y _h14)).trans (congrArg (fun zq => (Value.tuple #[.agg #[.int .i64 (nhF gV gE n), (.slice _Av10 ([(⟨(⟨Au9_0x0, (gV).length, Cu9_0x0⟩ : Sv), (⟨Au9_0x1, (gE).length, Cu9_0x1⟩ : Sv)⟩ : Gv)]).length _Cv10)], .bool zq])) (by first | exact tt_false _h14 | exact tt_true _h14))), _o_30, (Lo.down _lo10 (by omega)), _o_31, spn10, E⟩

/-- laws.FnExactNewHistory -/
theorem c_laws_FnExactNewHistory {w : World} {LL_gV _B_gV : Nat} {_v_gV : Value} {gV : List Int} (_h_gV : Ls ics 1 w LL_gV _B_gV _v_gV gV) {LL_gE _B_gE : Nat} {_v_gE : Value} {gE : List GEdge} (_h_gE : Ls GEdge.cs 4 w LL_gE _B_gE _v_gE gE) (n : Int) :
    Ctr Try.prog 4 #[(.agg #[_v_gV, _v_gE]), (.int .i64 n)] w (fun v w' => v = .bool (true) ∧ Ch [] w w') := by
  obtain ⟨_A_gV, _C_gV, _e1_gV⟩ := _h_gV.val
  subst _e1_gV
  have _l_gV := _h_gV.len
  have _h_gV := _h_gV.here (by decide)
  obtain ⟨_A_gE, _C_gE, _e1_gE⟩ := _h_gE.val
  subst _e1_gE
  have _l_gE := _h_gE.len
  have _h_gE := _h_gE.here (by decide)
  have E := Ch.refl [] w
  have nh9 := nh_size gV gE n; have hg9 := heldGR_mk 1 (nhG gV gE n); rw [gmark_mk] at hg9
  refine Ctr_of_W (N := 101) (vs0 := [(.agg #[(.slice _A_gV gV.length _C_gV), (.slice _A_gE gE.length _C_gE)]), (.int .i64 n)]) Try.func4 rfl rfl rfl ?_
  refine W_seq fun _K_1 _hK_1 => ?_
  refine W_region ?_
  refine WL_s rfl rfl ?_
  refine s_box rfl fun _b2 _w_2 _m2 _cw_2 _e2 => ?_
  have _cw_2z := _cw_2.size
  have E := E.trans _cw_2
  have _z2 := _m2.lt
  replace _m2 : Blk _w_2 _b2 36 [(.slice _A_gV gV.length _C_gV), (.slice _A_gE gE.length _C_gE)] := _m2
  refine WL_step rfl rfl (r_assign rfl) ?_
  refine WL_nil ?_
  refine thn_nrm (_hK_1 _ _ ?_)
  clear _hK_1
  refine W_seq fun _K_3 _hK_3 => ?_
  refine W_region ?_
  refine WL_step rfl rfl (r_assign rfl) ?_
  refine WL_nil ?_
  refine thn_nrm (_hK_3 _ _ ?_)
  clear _hK_3
  refine W_seq fun _K_4 _hK_4 => ?_
  refine W_region ?_
  refine WL_step rfl rfl (r_loadAtA0 _m2.at_ agg36 sz36 rfl) ?_
  refine WL_step rfl rfl (r_move rfl) ?_
  refine WL_s rfl rfl ?_
  have _f_5 := (_h_gV.ch0 _cw_2)
  have _f_6 := (_h_gE.ch0 _cw_2)
  refine Step.call (r_call (xs := [.tmp 16, .tmp 17]) fk18 rfl) (c_laws_szGraph _f_5 _f_6 _ (by omega) (by omega)) fun _v18 _w_7 _q18 => ?_
  obtain ⟨rfl, _cw_7⟩ := _q18
  have _cw_7z := _cw_7.size
  have E := E.trans _cw_7
  refine WL_step rfl rfl (r_assign rfl) ?_
  refine WL_nil ?_
  refine thn_nrm (_hK_4 _ _ ?_)
  clear _hK_4
  refine W_seq fun _K_8 _hK_8 => ?_
  refine W_seq fun _K_9 _hK_9 => ?_
  refine W_region ?_
  refine WL_step rfl rfl (r_move rfl) ?_
  refine WL_step rfl rfl (r_lss rfl rfl) ?_
  refine WL_nil ?_
  refine thn_nrm (_hK_9 _ _ ?_)
  clear _hK_9
  refine W_cond rfl (fun _h20 => ?_) (fun _h20 => ?_)
  · have _kb_10 := _h20
    have _h20 := bt_d _h20
    refine W_seq fun _K_11 _hK_11 => ?_
    refine W_region ?_
    refine WL_step rfl rfl (r_assign rfl) ?_
    refine WL_nil ?_
    refine thn_nrm (_hK_11 _ _ ?_)
    clear _hK_11
    refine W_ret (thn_ret ?_)
    clear _hK_8
    exact ret_intro [_] ⟨rfl, trivial⟩ ⟨congrArg Value.bool (by first | rfl | (exfalso; omega) | (exfalso; revert _h20; simp; done) | (exfalso; revert _h20; simp; omega)), E⟩
  · have _kb_10 := _h20
    have _h20 := bf_d _h20
    refine W_skip ?_
    refine thn_nrm (_hK_8 _ _ ?_)
    clear _hK_8
    refine W_seq fun _K_12 _hK_12 => ?_
    refine W_region ?_
    have _f_13 := (_m2.ch0 _cw_7)
    refine WL_step rfl rfl (r_loadAtA0 _f_13.at_ agg36 sz36 rfl) ?_
    refine WL_s rfl rfl ?_
    have _f_14 := (_f_5.ch0 _cw_7)
    have _f_15 := (_f_6.ch0 _cw_7)
    refine Step.call (r_call (xs := [.tmp 22]) fk20 rfl) (c_laws_toGraph _f_14 _f_15 (by omega)) fun _v23 _w_16 _q23 => ?_
    obtain ⟨u23_0x0, u23_0x1, rfl, _q_u23_0x0, _lo_u23_0x0, _q_u23_0x1, _lo_u23_0x1, _dj_u23_0x0_u23_0x1, _cw_16⟩ := _q23
    have _cw_16z := _cw_16.size
    have E := E.trans _cw_16
    obtain ⟨Au23_0x0, Cu23_0x0, eu23_0x0⟩ := _q_u23_0x0.val
    subst eu23_0x0
    have lu23_0x0 := _q_u23_0x0.len
    have _hiu23_0x0 := _q_u23_0x0.lt
    obtain ⟨Au23_0x1, Cu23_0x1, eu23_0x1⟩ := _q_u23_0x1.val
    subst eu23_0x1
    have lu23_0x1 := _q_u23_0x1.len
    have _hiu23_0x1 := _q_u23_0x1.lt
    refine WL_step rfl rfl (r_move rfl) ?_
    refine WL_s rfl rfl ?_
    refine Step.call (r_call (xs := [.tmp 23, .tmp 24]) fk19 rfl) (c_spec_NewHistory _q_u23_0x0.ls _q_u23_0x1.ls _ (by omega)) fun _v25 _w_17 _q25 => ?_
    obtain ⟨u25_0x1, _vs25_0x1, rfl, _q_u25_0x1, _lo_u25_0x1, rg_vs25_0x1, _sep_vs25_0x1, _cw_17⟩ := _q25
    have _cw_17z := _cw_17.size
    have E := E.trans _cw_17
    obtain ⟨Au25_0x1, Cu25_0x1, eu25_0x1⟩ := _q_u25_0x1.val
    subst eu25_0x1
    have lu25_0x1 := _q_u25_0x1.len
    have _hiu25_0x1 := _q_u25_0x1.lt
    refine WL_step rfl rfl (r_move rfl) ?_
    refine WL_step rfl rfl (r_extract rfl rfl) ?_
    refine WL_step rfl rfl (r_extract rfl rfl) ?_
    refine WL_s rfl rfl ?_
    refine s_alloc zr29 fun _b6 _w_18 _m6 _cw_18 _e6 => ?_
    have _cw_18z := _cw_18.size
    have E := E.trans _cw_18
    have _z6 := _m6.lt
    replace _m6 : Blk _w_18 _b6 29 [(.int .i64 0), (.slice none 0 0)] := _m6
    refine WL_s rfl rfl ?_
    refine s_storeA (off := 0) 2 _m6 sz29 rfl (us := [(.int .i64 (nhF gV gE n)), (.slice Au25_0x1 (_vs25_0x1).length Cu25_0x1)]) rfl rfl rfl rfl fun _w_19 _m_20 _cw_19 => ?_
    have _cw_19z := _cw_19.size
    have E := E.step _cw_19 (fun i hi => .inl (by have _h1 := List.mem_singleton.1 hi; omega))
    replace _m_20 : Blk _w_19 _b6 29 [(.int .i64 (nhF gV gE n)), (.slice Au25_0x1 (_vs25_0x1).length Cu25_0x1)] := _m_20
    refine WL_step rfl rfl (r_assign rfl) ?_
    refine WL_nil ?_
    refine thn_nrm (_hK_12 _ _ ?_)
    clear _hK_12
    refine W_seq fun _K_21 _hK_21 => ?_
    refine W_region ?_
    have _f_22 := ((((_f_13.ch0 _cw_16).ch0 _cw_17).ch0 _cw_18).ch _cw_19 (fun hm => by have _h1 := List.mem_singleton.1 hm; omega))
    refine WL_step rfl rfl (r_loadAtA0 _f_22.at_ agg36 sz36 rfl) ?_
    refine WL_s rfl rfl ?_
    have _f_23 := ((((_f_14.ch0 _cw_16).ch0 _cw_17).ch0 _cw_18).ch _cw_19 (fun i hi => by have _h1 := List.mem_singleton.1 hi; omega))
    have _f_24 := ((((_f_15.ch0 _cw_16).ch0 _cw_17).ch0 _cw_18).ch _cw_19 (fun i hi => by have _h1 := List.mem_singleton.1 hi; omega))
    refine Step.call (r_call (xs := [.tmp 28]) fk20 rfl) (c_laws_toGraph _f_23 _f_24 (by omega)) fun _v29 _w_25 _q29 => ?_
    obtain ⟨u29_0x0, u29_0x1, rfl, _q_u29_0x0, _lo_u29_0x0, _q_u29_0x1, _lo_u29_0x1, _dj_u29_0x0_u29_0x1, _cw_25⟩ := _q29
    have _cw_25z := _cw_25.size
    have E := E.trans _cw_25
    obtain ⟨Au29_0x0, Cu29_0x0, eu29_0x0⟩ := _q_u29_0x0.val
    subst eu29_0x0
    have lu29_0x0 := _q_u29_0x0.len
    have _hiu29_0x0 := _q_u29_0x0.lt
    obtain ⟨Au29_0x1, Cu29_0x1, eu29_0x1⟩ := _q_u29_0x1.val
    subst eu29_0x1
    have lu29_0x1 := _q_u29_0x1.len
    have _hiu29_0x1 := _q_u29_0x1.lt
    refine WL_s rfl rfl ?_
    refine s_alloc zr42 fun _b8 _w_26 _m8 _cw_26 _e8 => ?_
    have _cw_26z := _cw_26.size
    have E := E.trans _cw_26
    have _z8 := _m8.lt
    replace _m8 : Blk _w_26 _b8 42 [(.slice none 0 0), (.slice none 0 0)] := _m8
    refine WL_s rfl rfl ?_
    refine s_storeA (off := 0) 2 _m8 sz42 rfl (us := [(.slice Au29_0x0 (gV).length Cu29_0x0), (.slice Au29_0x1 (gE).length Cu29_0x1)]) rfl rfl rfl rfl fun _w_27 _m_28 _cw_27 => ?_
    have _cw_27z := _cw_27.size
    have E := E.step _cw_27 (fun i hi => .inl (by have _h1 := List.mem_singleton.1 hi; omega))
    replace _m_28 : Blk _w_27 _b8 42 [(.slice Au29_0x0 (gV).length Cu29_0x0), (.slice Au29_0x1 (gE).length Cu29_0x1)] := _m_28
    refine WL_nil ?_
    refine thn_nrm (_hK_21 _ _ ?_)
    clear _hK_21
    refine W_seq fun _K_29 _hK_29 => ?_
    refine W_region ?_
    refine WL_step rfl rfl (r_loadAtA0 _m_28.at_ agg42 sz42 rfl) ?_
    refine WL_step rfl rfl (r_move rfl) ?_
    refine WL_s rfl rfl ?_
    have _f_30 := ((_q_u29_0x0.ch0 _cw_26).ch _cw_27 (fun g hg hm => by have _h0 := List.mem_singleton.1 hm; have _h2 := _lo_u29_0x0 _ hg; have _h3 := _hiu29_0x0 _ hg; omega))
    have _f_31 := ((_q_u29_0x1.ch0 _cw_26).ch _cw_27 (fun g hg hm => by have _h0 := List.mem_singleton.1 hm; have _h2 := _lo_u29_0x1 _ hg; have _h3 := _hiu29_0x1 _ hg; omega))
    refine Step.call (r_call (xs := [.tmp 31, .tmp 32]) fk21 rfl) (c_impl_NewHistory _f_30.ls _f_31.ls _ (by omega)) fun _v33 _w_32 _q33 => ?_
    obtain ⟨u33_0x1, _vs33_0x1, rfl, _q_u33_0x1, _lo_u33_0x1, rg_vs33_0x1, _sep_vs33_0x1, _cw_32⟩ := _q33
    have _cw_32z := _cw_32.size
    have E := E.trans _cw_32
    obtain ⟨Au33_0x1, Cu33_0x1, eu33_0x1⟩ := _q_u33_0x1.val
    subst eu33_0x1
    have lu33_0x1 := _q_u33_0x1.len
    have _hiu33_0x1 := _q_u33_0x1.lt
    refine WL_step rfl rfl (r_move rfl) ?_
    refine WL_step rfl rfl (r_extract rfl rfl) ?_
    refine WL_step rfl rfl (r_extract rfl rfl) ?_
    refine WL_s rfl rfl ?_
    refine s_alloc zr29 fun _b9 _w_33 _m9 _cw_33 _e9 => ?_
    have _cw_33z := _cw_33.size
    have E := E.trans _cw_33
    have _z9 := _m9.lt
    replace _m9 : Blk _w_33 _b9 29 [(.int .i64 0), (.slice none 0 0)] := _m9
    refine WL_s rfl rfl ?_
    refine s_storeA (off := 0) 2 _m9 sz29 rfl (us := [(.int .i64 (nhF gV gE n)), (.slice Au33_0x1 (_vs33_0x1).length Cu33_0x1)]) rfl rfl rfl rfl fun _w_34 _m_35 _cw_34 => ?_
    have _cw_34z := _cw_34.size
    have E := E.step _cw_34 (fun i hi => .inl (by have _h1 := List.mem_singleton.1 hi; omega))
    replace _m_35 : Blk _w_34 _b9 29 [(.int .i64 (nhF gV gE n)), (.slice Au33_0x1 (_vs33_0x1).length Cu33_0x1)] := _m_35
    refine WL_step rfl rfl (r_assign rfl) ?_
    refine WL_nil ?_
    refine thn_nrm (_hK_29 _ _ ?_)
    clear _hK_29
    refine W_seq fun _K_36 _hK_36 => ?_
    refine W_seq fun _K_37 _hK_37 => ?_
    refine W_region ?_
    refine WL_step rfl rfl (r_loadAtA0 _m_35.at_ agg29 sz29 rfl) ?_
    have _f_38 := ((((((_m_20.ch0 _cw_25).ch0 _cw_26).ch _cw_27 (fun hm => by have _h1 := List.mem_singleton.1 hm; omega)).ch0 _cw_32).ch0 _cw_33).ch _cw_34 (fun hm => by have _h1 := List.mem_singleton.1 hm; omega))
    refine WL_step rfl rfl (r_loadAtA0 _f_38.at_ agg29 sz29 rfl) ?_
    refine WL_s rfl rfl ?_
    have _f_39 := ((_q_u33_0x1.ch0 _cw_33).ch _cw_34 (fun g hg hm => by have _h0 := List.mem_singleton.1 hm; have _h2 := _lo_u33_0x1 _ hg; have _h3 := _hiu33_0x1 _ hg; omega))
    have _f_40 := ((rg_vs33_0x1.ch0 _cw_33).ch _cw_34 (fun i hi => by have _h1 := List.mem_singleton.1 hi; omega))
    have _f_41 := ((((((((_q_u25_0x1.ch0 _cw_18).ch _cw_19 (fun g hg hm => by have _h0 := List.mem_singleton.1 hm; have _h2 := _lo_u25_0x1 _ hg; have _h3 := _hiu25_0x1 _ hg; omega)).ch0 _cw_25).ch0 _cw_26).ch _cw_27 (fun g hg hm => by have _h0 := List.mem_singleton.1 hm; have _h2 := _lo_u25_0x1 _ hg; have _h3 := _hiu25_0x1 _ hg; omega)).ch0 _cw_32).ch0 _cw_33).ch _cw_34 (fun g hg hm => by have _h0 := List.mem_singleton.1 hm; have _h2 := _lo_u25_0x1 _ hg; have _h3 := _hiu25_0x1 _ hg; omega))
    have _f_42 := ((((((((rg_vs25_0x1.ch0 _cw_18).ch _cw_19 (fun i hi => by have _h1 := List.mem_singleton.1 hi; omega)).ch0 _cw_25).ch0 _cw_26).ch _cw_27 (fun i hi => by have _h1 := List.mem_singleton.1 hi; omega)).ch0 _cw_32).ch0 _cw_33).ch _cw_34 (fun i hi => by have _h1 := List.mem_singleton.1 hi; omega))
    refine Step.call (r_call (xs := [.tmp 36, .tmp 37]) fk17 rfl) (c_laws_eqHistory _ _f_39.ls _f_40.rdg _ _f_41.ls _f_42.rdg ) fun _v38 _w_43 _q38 => ?_
    obtain ⟨rfl, _cw_43⟩ := _q38
    have _cw_43z := _cw_43.size
    have E := E.trans _cw_43
    refine WL_step rfl rfl (r_not rfl) ?_
    refine WL_step rfl rfl (r_move rfl) ?_
    refine WL_split (d := 40) rfl (fun _h40 => ?_) (fun _h40 => ?_)
    · have _kb_44 := _h40
      have _h40 := bf_t (bt_n _h40)
      refine WL_skip rfl rfl ?_
      refine WL_skip rfl rfl ?_
      refine WL_skip rfl rfl ?_
      refine WL_step rfl rfl (r_pickT rfl rfl) ?_
      refine WL_nil ?_
      refine thn_nrm (_hK_37 _ _ ?_)
      clear _hK_37
      refine W_condT rfl ?_
      refine W_seq fun _K_45 _hK_45 => ?_
      refine W_region ?_
      refine WL_step rfl rfl (r_assign rfl) ?_
      refine WL_nil ?_
      refine thn_nrm (_hK_45 _ _ ?_)
      clear _hK_45
      refine W_ret (thn_ret ?_)
      clear _hK_36
      exact ret_intro [_] ⟨rfl, trivial⟩ ⟨congrArg Value.bool (by first | rfl | (exfalso; omega) | (exfalso; revert _h40; simp; done) | (exfalso; revert _h40; simp; omega)), E⟩
    · have _kb_44 := _h40
      have _h40 := bt_t (bf_n _h40)
      refine WL_step rfl rfl (r_move rfl) ?_
      refine WL_step rfl rfl (r_move rfl) ?_
      refine WL_step rfl rfl (r_neqB un4 rfl rfl) ?_
      refine WL_step rfl rfl (r_pickF rfl rfl) ?_
      refine WL_nil ?_
      refine thn_nrm (_hK_37 _ _ ?_)
      clear _hK_37
      refine W_cond rfl (fun _h44 => ?_) (fun _h44 => ?_)
      · have _kb_46 := _h44
        have _h44 := bf_e (bt_n _h44)
        refine W_seq fun _K_47 _hK_47 => ?_
        refine W_region ?_
        refine WL_step rfl rfl (r_assign rfl) ?_
        refine WL_nil ?_
        refine thn_nrm (_hK_47 _ _ ?_)
        clear _hK_47
        refine W_ret (thn_ret ?_)
        clear _hK_36
        exact ret_intro [_] ⟨rfl, trivial⟩ ⟨congrArg Value.bool (by first | rfl | (exfalso; omega) | (exfalso; revert _h44; simp; done) | (exfalso; revert _h44; simp; omega)), E⟩
      · have _kb_46 := _h44
        have _h44 := bt_e (bf_n _h44)
        refine W_skip ?_
        refine thn_nrm (_hK_36 _ _ ?_)
        clear _hK_36
        refine W_seq fun _K_48 _hK_48 => ?_
        refine W_seq fun _K_49 _hK_49 => ?_
        refine W_drawC [] 5 mixed rfl fun _w_50 _cw_50 => ?_
        have _cw_50z := _cw_50.size
        have E := E.trans _cw_50
        have _f_51 := (((((_m_28.ch0 _cw_32).ch0 _cw_33).ch _cw_34 (fun hm => by have _h1 := List.mem_singleton.1 hm; omega)).ch0 _cw_43).ch0 _cw_50)
        refine DR_s 0 rfl (by kernel_rfl) rfl rfl (t_loadAtA0 _f_51.at_ (fun i hi => absurd hi List.not_mem_nil) agg42 sz42 rfl ?_)
        have _f_52 := ((((((((_f_22.ch0 _cw_25).ch0 _cw_26).ch _cw_27 (fun hm => by have _h1 := List.mem_singleton.1 hm; omega)).ch0 _cw_32).ch0 _cw_33).ch _cw_34 (fun hm => by have _h1 := List.mem_singleton.1 hm; omega)).ch0 _cw_43).ch0 _cw_50)
        refine DR_s 1 rfl (by kernel_rfl) rfl rfl (t_loadAtA0 _f_52.at_ (fun i hi => absurd hi List.not_mem_nil) agg36 sz36 rfl ?_)
        refine DR_one 2 (by kernel_rfl) ?_
        refine DO_s rfl rfl rfl ?_
        have _f_53 := ((((((((_f_23.ch0 _cw_25).ch0 _cw_26).ch _cw_27 (fun i hi => by have _h1 := List.mem_singleton.1 hi; omega)).ch0 _cw_32).ch0 _cw_33).ch _cw_34 (fun i hi => by have _h1 := List.mem_singleton.1 hi; omega)).ch0 _cw_43).ch0 _cw_50)
        have _f_54 := ((((((((_f_24.ch0 _cw_25).ch0 _cw_26).ch _cw_27 (fun i hi => by have _h1 := List.mem_singleton.1 hi; omega)).ch0 _cw_32).ch0 _cw_33).ch _cw_34 (fun i hi => by have _h1 := List.mem_singleton.1 hi; omega)).ch0 _cw_43).ch0 _cw_50)
        refine Step.call (r_call (xs := [.tmp 46]) fk20 rfl) (c_laws_toGraph _f_53 _f_54 (by omega)) fun _v47 _w_55 _q47 => ?_
        obtain ⟨u47_0x0, u47_0x1, rfl, _q_u47_0x0, _lo_u47_0x0, _q_u47_0x1, _lo_u47_0x1, _dj_u47_0x0_u47_0x1, _cw_55⟩ := _q47
        have _cw_55z := _cw_55.size
        have E := E.trans _cw_55
        obtain ⟨Au47_0x0, Cu47_0x0, eu47_0x0⟩ := _q_u47_0x0.val
        subst eu47_0x0
        have lu47_0x0 := _q_u47_0x0.len
        have _hiu47_0x0 := _q_u47_0x0.lt
        obtain ⟨Au47_0x1, Cu47_0x1, eu47_0x1⟩ := _q_u47_0x1.val
        subst eu47_0x1
        have lu47_0x1 := _q_u47_0x1.len
        have _hiu47_0x1 := _q_u47_0x1.lt
        have _S_56 : Ch [] _w_50 _w_55 := ((Ch.refl _ _).trans _cw_55)
        refine ⟨_S_56, ?_⟩
        refine DR_one 3 (by kernel_rfl) ?_
        refine DO_s rfl rfl rfl ?_
        have _f_57 := ((((((_f_30.ch0 _cw_32).ch0 _cw_33).ch _cw_34 (fun g hg hm => by have _h0 := List.mem_singleton.1 hm; have _h2 := _lo_u29_0x0 _ hg; have _h3 := _hiu29_0x0 _ hg; omega)).ch0 _cw_43).ch0 _cw_50).ch0 _cw_55)
        have _f_58 := ((((((_f_31.ch0 _cw_32).ch0 _cw_33).ch _cw_34 (fun g hg hm => by have _h0 := List.mem_singleton.1 hm; have _h2 := _lo_u29_0x1 _ hg; have _h3 := _hiu29_0x1 _ hg; omega)).ch0 _cw_43).ch0 _cw_50).ch0 _cw_55)
        refine Step.call (r_call (xs := [.tmp 45, .tmp 47]) fk22 rfl) (c_laws_eqGraph _f_57.ls _f_58.ls _q_u47_0x0.ls _q_u47_0x1.ls ) fun _v48 _w_59 _q48 => ?_
        obtain ⟨rfl, _cw_59⟩ := _q48
        have _cw_59z := _cw_59.size
        have E := E.trans _cw_59
        have _S_60 : Ch [] _w_50 _w_59 := (_S_56.trans _cw_59)
        refine ⟨_S_60, ?_⟩
        refine DR_s 4 rfl (by kernel_rfl) rfl rfl (t_v (fun _ => (r_not rfl)) ?_)
        refine DR_done (by kernel_rfl) ?_
        refine thn_nrm (_hK_49 _ _ ?_)
        clear _hK_49
        refine W_cond rfl (fun _h49 => ?_) (fun _h49 => ?_)
        · have _kb_61 := _h49
          have _h49 := bf_d (bt_n _h49)
          refine W_seq fun _K_62 _hK_62 => ?_
          refine W_region ?_
          refine WL_step rfl rfl (r_assign rfl) ?_
          refine WL_nil ?_
          refine thn_nrm (_hK_62 _ _ ?_)
          clear _hK_62
          refine W_ret (thn_ret ?_)
          clear _hK_48
          exact ret_intro [_] ⟨rfl, trivial⟩ ⟨congrArg Value.bool (by first | rfl | (exfalso; omega) | (exfalso; revert _h49; simp; done) | (exfalso; revert _h49; simp; omega)), E⟩
        · have _kb_61 := _h49
          have _h49 := bt_d (bf_n _h49)
          refine W_skip ?_
          refine thn_nrm (_hK_48 _ _ ?_)
          clear _hK_48
          refine W_seq fun _K_63 _hK_63 => ?_
          refine W_region ?_
          refine WL_step rfl rfl (r_assign rfl) ?_
          refine WL_nil ?_
          refine thn_nrm (_hK_63 _ _ ?_)
          clear _hK_63
          refine W_seq fun _K_64 _hK_64 => ?_
          refine W_region ?_
          have _f_65 := ((_f_51.ch0 _cw_55).ch0 _cw_59)
          refine WL_step rfl rfl (r_loadAtA0 _f_65.at_ agg42 sz42 rfl) ?_
          refine WL_step rfl rfl (r_move rfl) ?_
          refine WL_s rfl rfl ?_
          have _f_66 := (_f_57.ch0 _cw_59)
          have _f_67 := (_f_58.ch0 _cw_59)
          refine Step.call (r_call (xs := [.tmp 50, .tmp 51]) fk23 rfl) (c_laws_markGraph _f_66 _f_67 (fun g hm hg => by exact _dj_u29_0x0_u29_0x1 _ hm hg) _ (by omega) (by first | omega | (simp <;> omega))) fun _v52 _w_68 _q52 => ?_
          obtain ⟨rfl, _q52, rq52, _cw_68⟩ := _q52
          have _cw_68z := _cw_68.size
          have E := E.step _cw_68 (fun i hm => by rcases List.mem_append.1 hm with hm | hm; (have _h1 := _lo_u29_0x0 _ hm; have _h2 := _hiu29_0x0 _ hm; left; omega); (have _h1 := _lo_u29_0x1 _ hm; have _h2 := _hiu29_0x1 _ hm; left; omega))
          refine WL_step rfl rfl (r_assign rfl) ?_
          refine WL_nil ?_
          refine thn_nrm (_hK_64 _ _ ?_)
          clear _hK_64
          refine W_seq fun _K_69 _hK_69 => ?_
          refine W_seq fun _K_70 _hK_70 => ?_
          refine W_region ?_
          refine WL_step rfl rfl (r_move rfl) ?_
          refine WL_step rfl rfl (r_lss rfl rfl) ?_
          refine WL_step rfl rfl (r_move rfl) ?_
          refine WL_split (d := 55) rfl (fun _h55 => ?_) (fun _h55 => ?_)
          · have _kb_71 := _h55
            have _h55 := bt_d _h55
            refine WL_skip rfl rfl ?_
            refine WL_skip rfl rfl ?_
            refine WL_skip rfl rfl ?_
            refine WL_skip rfl rfl ?_
            refine WL_step rfl rfl (r_pickT rfl rfl) ?_
            refine WL_step rfl rfl (r_move rfl) ?_
            refine WL_skip rfl rfl ?_
            refine WL_skip rfl rfl ?_
            refine WL_skip rfl rfl ?_
            refine WL_step rfl rfl (r_pickT rfl rfl) ?_
            refine WL_nil ?_
            refine thn_nrm (_hK_70 _ _ ?_)
            clear _hK_70
            refine W_condT rfl ?_
            refine W_seq fun _K_72 _hK_72 => ?_
            refine W_region ?_
            refine WL_step rfl rfl (r_assign rfl) ?_
            refine WL_nil ?_
            refine thn_nrm (_hK_72 _ _ ?_)
            clear _hK_72
            refine W_ret (thn_ret ?_)
            clear _hK_69
            exact ret_intro [_] ⟨rfl, trivial⟩ ⟨congrArg Value.bool (by first | rfl | (exfalso; omega) | (exfalso; revert _h55; simp; done) | (exfalso; revert _h55; simp; omega)), E⟩
          · have _kb_71 := _h55
            have _h55 := bf_d _h55
            have _f_73 := (((((_m_35.ch0 _cw_43).ch0 _cw_50).ch0 _cw_55).ch0 _cw_59).ch _cw_68 (fun hm => by rcases List.mem_append.1 hm with hm | hm; (have _h1 := _lo_u29_0x0 _ hm; have _h2 := _hiu29_0x0 _ hm; omega); (have _h1 := _lo_u29_0x1 _ hm; have _h2 := _hiu29_0x1 _ hm; omega)))
            refine WL_step rfl rfl (r_loadAtA0 _f_73.at_ agg29 sz29 rfl) ?_
            have _f_74 := (((((_f_38.ch0 _cw_43).ch0 _cw_50).ch0 _cw_55).ch0 _cw_59).ch _cw_68 (fun hm => by rcases List.mem_append.1 hm with hm | hm; (have _h1 := _lo_u29_0x0 _ hm; have _h2 := _hiu29_0x0 _ hm; omega); (have _h1 := _lo_u29_0x1 _ hm; have _h2 := _hiu29_0x1 _ hm; omega)))
            refine WL_step rfl rfl (r_loadAtA0 _f_74.at_ agg29 sz29 rfl) ?_
            refine WL_s rfl rfl ?_
            have _f_75 := (((((_f_39.ch0 _cw_43).ch0 _cw_50).ch0 _cw_55).ch0 _cw_59).ch _cw_68 (fun g hg hm => by rcases List.mem_append.1 hm with hm | hm; (have _h1 := _lo_u29_0x0 _ hm; have _h2 := _hiu29_0x0 _ hm; have _h3 := _lo_u33_0x1 _ hg; have _h4 := _hiu33_0x1 _ hg; omega); (have _h1 := _lo_u29_0x1 _ hm; have _h2 := _hiu29_0x1 _ hm; have _h3 := _lo_u33_0x1 _ hg; have _h4 := _hiu33_0x1 _ hg; omega)))
            have _f_76 := (((((_f_40.ch0 _cw_43).ch0 _cw_50).ch0 _cw_55).ch0 _cw_59).ch _cw_68 (fun i hm => by rcases List.mem_append.1 hm with hm | hm; (have _h1 := _lo_u29_0x0 _ hm; have _h2 := _hiu29_0x0 _ hm; omega); (have _h1 := _lo_u29_0x1 _ hm; have _h2 := _hiu29_0x1 _ hm; omega)))
            have _f_77 := (((((_f_41.ch0 _cw_43).ch0 _cw_50).ch0 _cw_55).ch0 _cw_59).ch _cw_68 (fun g hg hm => by rcases List.mem_append.1 hm with hm | hm; (have _h1 := _lo_u29_0x0 _ hm; have _h2 := _hiu29_0x0 _ hm; have _h3 := _lo_u25_0x1 _ hg; have _h4 := _hiu25_0x1 _ hg; omega); (have _h1 := _lo_u29_0x1 _ hm; have _h2 := _hiu29_0x1 _ hm; have _h3 := _lo_u25_0x1 _ hg; have _h4 := _hiu25_0x1 _ hg; omega)))
            have _f_78 := (((((_f_42.ch0 _cw_43).ch0 _cw_50).ch0 _cw_55).ch0 _cw_59).ch _cw_68 (fun i hm => by rcases List.mem_append.1 hm with hm | hm; (have _h1 := _lo_u29_0x0 _ hm; have _h2 := _hiu29_0x0 _ hm; omega); (have _h1 := _lo_u29_0x1 _ hm; have _h2 := _hiu29_0x1 _ hm; omega)))
            refine Step.call (r_call (xs := [.tmp 56, .tmp 57]) fk17 rfl) (c_laws_eqHistory _ _f_75.ls _f_76.rdg _ _f_77.ls _f_78.rdg ) fun _v58 _w_79 _q58 => ?_
            obtain ⟨rfl, _cw_79⟩ := _q58
            have _cw_79z := _cw_79.size
            have E := E.trans _cw_79
            refine WL_step rfl rfl (r_not rfl) ?_
            refine WL_step rfl rfl (r_pickF rfl rfl) ?_
            refine WL_step rfl rfl (r_move rfl) ?_
            refine WL_splitF (d := 61) rfl _kb_44 ?_
            refine WL_step rfl rfl (r_move rfl) ?_
            refine WL_step rfl rfl (r_move rfl) ?_
            refine WL_step rfl rfl (r_neqB un4 rfl rfl) ?_
            refine WL_step rfl rfl (r_pickF rfl rfl) ?_
            refine WL_nil ?_
            refine thn_nrm (_hK_70 _ _ ?_)
            clear _hK_70
            refine W_condFk rfl _kb_46 ?_
            refine W_skip ?_
            refine thn_nrm (_hK_69 _ _ ?_)
            clear _hK_69
            refine W_seq fun _K_80 _hK_80 => ?_
            refine W_region ?_
            refine WL_step rfl rfl (r_assign rfl) ?_
            refine WL_nil ?_
            refine thn_nrm (_hK_80 _ _ ?_)
            clear _hK_80
            refine W_seq fun _K_81 _hK_81 => ?_
            refine W_region ?_
            have _f_82 := (_f_73.ch0 _cw_79)
            refine WL_step rfl rfl (r_loadAtA0 _f_82.at_ agg29 sz29 rfl) ?_
            refine WL_step rfl rfl (r_move rfl) ?_
            refine WL_s rfl rfl ?_
            have _f_83 := (_f_75.ch0 _cw_79)
            have _f_84 := (_f_76.ch0 _cw_79)
            refine Step.call (r_call (xs := [.tmp 66, .tmp 67]) fk24 rfl) (c_laws_markHistory _ _f_83 (_f_84.up (lo' := _w_27.heap.size) (hi' := _w_32.heap.size) (by omega) (by omega)) (fun g hm => by have _h1 := _lo_u33_0x1 _ hm; have _h2 := _hiu33_0x1 _ hm; omega) _sep_vs33_0x1 (by omega) _ (by omega) (by first | omega | (simp <;> omega))) fun _v68 _w_85 _q68 => ?_
            obtain ⟨rfl, _q68, rq68, _cw_85⟩ := _q68
            have _cw_85z := _cw_85.size
            have E := E.step _cw_85 (fun i hm => by have _h1 := mem_rg hm; left; omega)
            refine WL_step rfl rfl (r_assign rfl) ?_
            refine WL_nil ?_
            refine thn_nrm (_hK_81 _ _ ?_)
            clear _hK_81
            refine W_seq fun _K_86 _hK_86 => ?_
            refine W_region ?_
            refine WL_step rfl rfl (r_assign rfl) ?_
            refine WL_nil ?_
            refine thn_nrm (_hK_86 _ _ ?_)
            clear _hK_86
            refine W_seq fun _K_87 _hK_87 => ?_
            refine W_region ?_
            have _f_88 := (_f_82.ch _cw_85 (fun hm => by have _h1 := mem_rg hm; omega))
            refine WL_step rfl rfl (r_loadAtA0 _f_88.at_ agg29 sz29 rfl) ?_
            refine WL_step rfl rfl (r_move rfl) ?_
            refine WL_s rfl rfl ?_
            refine Step.call (r_call (xs := [.tmp 69, .tmp 70]) fk25 rfl) (c_laws_heldHistory _ rq68.ls _q68.rdg _ (by omega) (by rw [gsize_mk]; omega)) fun _v71 _w_89 _q71 => ?_
            obtain ⟨rfl, _cw_89⟩ := _q71
            have _cw_89z := _cw_89.size
            have E := E.trans _cw_89
            refine WL_step rfl rfl (r_assign rfl) ?_
            refine WL_nil ?_
            refine thn_nrm (_hK_87 _ _ ?_)
            clear _hK_87
            refine W_seq fun _K_90 _hK_90 => ?_
            refine W_seq fun _K_91 _hK_91 => ?_
            refine W_region ?_
            refine WL_step rfl rfl (r_move rfl) ?_
            refine WL_step rfl rfl (r_lss rfl rfl) ?_
            refine WL_nil ?_
            refine thn_nrm (_hK_91 _ _ ?_)
            clear _hK_91
            refine W_cond rfl (fun _h73 => ?_) (fun _h73 => ?_)
            · have _kb_92 := _h73
              have _h73 := bt_d _h73
              refine W_seq fun _K_93 _hK_93 => ?_
              refine W_region ?_
              refine WL_step rfl rfl (r_assign rfl) ?_
              refine WL_nil ?_
              refine thn_nrm (_hK_93 _ _ ?_)
              clear _hK_93
              refine W_ret (thn_ret ?_)
              clear _hK_90
              exact ret_intro [_] ⟨rfl, trivial⟩ ⟨congrArg Value.bool (by first | rfl | (exfalso; omega) | (exfalso; revert _h73; simp; done) | (exfalso; revert _h73; simp; omega)), E⟩
            · have _kb_92 := _h73
              have _h73 := bf_d _h73
              refine W_skip ?_
              refine thn_nrm (_hK_90 _ _ ?_)
              clear _hK_90
              refine W_seq fun _K_94 _hK_94 => ?_
              refine W_seq fun _K_95 _hK_95 => ?_
              refine W_region ?_
              refine WL_step rfl rfl (r_move rfl) ?_
              refine WL_step rfl rfl (r_move rfl) ?_
              refine WL_step rfl rfl (r_neq rfl rfl) ?_
              refine WL_nil ?_
              refine thn_nrm (_hK_95 _ _ ?_)
              clear _hK_95
              refine W_cond rfl (fun _h76 => ?_) (fun _h76 => ?_)
              · have _kb_96 := _h76
                have _h76 := bf_d (bt_n _h76)
                refine W_seq fun _K_97 _hK_97 => ?_
                refine W_region ?_
                refine WL_step rfl rfl (r_assign rfl) ?_
                refine WL_nil ?_
                refine thn_nrm (_hK_97 _ _ ?_)
                clear _hK_97
                refine W_ret (thn_ret ?_)
                clear _hK_94
                exact ret_intro [_] ⟨rfl, trivial⟩ ⟨congrArg Value.bool (by first | rfl | (exfalso; omega) | (exfalso; revert _h76; simp; done) | (exfalso; revert _h76; simp; omega)), E⟩
              · have _kb_96 := _h76
                have _h76 := bt_d (bf_n _h76)
                refine W_skip ?_
                refine thn_nrm (_hK_94 _ _ ?_)
                clear _hK_94
                refine W_seq fun _K_98 _hK_98 => ?_
                refine W_region ?_
                have _f_99 := ((((((_f_52.ch0 _cw_55).ch0 _cw_59).ch _cw_68 (fun hm => by rcases List.mem_append.1 hm with hm | hm; (have _h1 := _lo_u29_0x0 _ hm; have _h2 := _hiu29_0x0 _ hm; omega); (have _h1 := _lo_u29_0x1 _ hm; have _h2 := _hiu29_0x1 _ hm; omega))).ch0 _cw_79).ch _cw_85 (fun hm => by have _h1 := mem_rg hm; omega)).ch0 _cw_89)
                refine WL_step rfl rfl (r_loadAtA0 _f_99.at_ agg36 sz36 rfl) ?_
                refine WL_s rfl rfl ?_
                have _f_100 := ((((((_f_53.ch0 _cw_55).ch0 _cw_59).ch _cw_68 (fun i hm => by rcases List.mem_append.1 hm with hm | hm; (have _h1 := _lo_u29_0x0 _ hm; have _h2 := _hiu29_0x0 _ hm; omega); (have _h1 := _lo_u29_0x1 _ hm; have _h2 := _hiu29_0x1 _ hm; omega))).ch0 _cw_79).ch _cw_85 (fun i hm => by have _h1 := mem_rg hm; omega)).ch0 _cw_89)
                have _f_101 := ((((((_f_54.ch0 _cw_55).ch0 _cw_59).ch _cw_68 (fun i hm => by rcases List.mem_append.1 hm with hm | hm; (have _h1 := _lo_u29_0x0 _ hm; have _h2 := _hiu29_0x0 _ hm; omega); (have _h1 := _lo_u29_0x1 _ hm; have _h2 := _hiu29_0x1 _ hm; omega))).ch0 _cw_79).ch _cw_85 (fun i hm => by have _h1 := mem_rg hm; omega)).ch0 _cw_89)
                refine Step.call (r_call (xs := [.tmp 78]) fk20 rfl) (c_laws_toGraph _f_100 _f_101 (by omega)) fun _v79 _w_102 _q79 => ?_
                obtain ⟨u79_0x0, u79_0x1, rfl, _q_u79_0x0, _lo_u79_0x0, _q_u79_0x1, _lo_u79_0x1, _dj_u79_0x0_u79_0x1, _cw_102⟩ := _q79
                have _cw_102z := _cw_102.size
                have E := E.trans _cw_102
                obtain ⟨Au79_0x0, Cu79_0x0, eu79_0x0⟩ := _q_u79_0x0.val
                subst eu79_0x0
                have lu79_0x0 := _q_u79_0x0.len
                have _hiu79_0x0 := _q_u79_0x0.lt
                obtain ⟨Au79_0x1, Cu79_0x1, eu79_0x1⟩ := _q_u79_0x1.val
                subst eu79_0x1
                have lu79_0x1 := _q_u79_0x1.len
                have _hiu79_0x1 := _q_u79_0x1.lt
                refine WL_step rfl rfl (r_move rfl) ?_
                refine WL_s rfl rfl ?_
                refine Step.call (r_call (xs := [.tmp 79, .tmp 80]) fk21 rfl) (c_impl_NewHistory _q_u79_0x0.ls _q_u79_0x1.ls _ (by omega)) fun _v81 _w_103 _q81 => ?_
                obtain ⟨u81_0x1, _vs81_0x1, rfl, _q_u81_0x1, _lo_u81_0x1, rg_vs81_0x1, _sep_vs81_0x1, _cw_103⟩ := _q81
                have _cw_103z := _cw_103.size
                have E := E.trans _cw_103
                obtain ⟨Au81_0x1, Cu81_0x1, eu81_0x1⟩ := _q_u81_0x1.val
                subst eu81_0x1
                have lu81_0x1 := _q_u81_0x1.len
                have _hiu81_0x1 := _q_u81_0x1.lt
                refine WL_step rfl rfl (r_move rfl) ?_
                refine WL_step rfl rfl (r_extract rfl rfl) ?_
                refine WL_step rfl rfl (r_extract rfl rfl) ?_
                refine WL_s rfl rfl ?_
                refine s_alloc zr29 fun _b14 _w_104 _m14 _cw_104 _e14 => ?_
                have _cw_104z := _cw_104.size
                have E := E.trans _cw_104
                have _z14 := _m14.lt
                replace _m14 : Blk _w_104 _b14 29 [(.int .i64 0), (.slice none 0 0)] := _m14
                refine WL_s rfl rfl ?_
                refine s_storeA (off := 0) 2 _m14 sz29 rfl (us := [(.int .i64 (nhF gV gE n)), (.slice Au81_0x1 (_vs81_0x1).length Cu81_0x1)]) rfl rfl rfl rfl fun _w_105 _m_106 _cw_105 => ?_
                have _cw_105z := _cw_105.size
                have E := E.step _cw_105 (fun i hi => .inl (by have _h1 := List.mem_singleton.1 hi; omega))
                replace _m_106 : Blk _w_105 _b14 29 [(.int .i64 (nhF gV gE n)), (.slice Au81_0x1 (_vs81_0x1).length Cu81_0x1)] := _m_106
                refine WL_step rfl rfl (r_assign rfl) ?_
                refine WL_nil ?_
                refine thn_nrm (_hK_98 _ _ ?_)
                clear _hK_98
                refine W_seq fun _K_107 _hK_107 => ?_
                refine W_seq fun _K_108 _hK_108 => ?_
                refine W_region ?_
                refine WL_step rfl rfl (r_loadAtA0 _m_106.at_ agg29 sz29 rfl) ?_
                have _f_109 := (((((((_f_74.ch0 _cw_79).ch _cw_85 (fun hm => by have _h1 := mem_rg hm; omega)).ch0 _cw_89).ch0 _cw_102).ch0 _cw_103).ch0 _cw_104).ch _cw_105 (fun hm => by have _h1 := List.mem_singleton.1 hm; omega))
                refine WL_step rfl rfl (r_loadAtA0 _f_109.at_ agg29 sz29 rfl) ?_
                refine WL_s rfl rfl ?_
                have _f_110 := ((_q_u81_0x1.ch0 _cw_104).ch _cw_105 (fun g hg hm => by have _h0 := List.mem_singleton.1 hm; have _h2 := _lo_u81_0x1 _ hg; have _h3 := _hiu81_0x1 _ hg; omega))
                have _f_111 := ((rg_vs81_0x1.ch0 _cw_104).ch _cw_105 (fun i hi => by have _h1 := List.mem_singleton.1 hi; omega))
                have _f_112 := (((((((_f_77.ch0 _cw_79).ch _cw_85 (fun g hg hm => by have _h0 := mem_rg hm; have _h1 := _lo_u25_0x1 _ hg; have _h2 := _hiu25_0x1 _ hg; omega)).ch0 _cw_89).ch0 _cw_102).ch0 _cw_103).ch0 _cw_104).ch _cw_105 (fun g hg hm => by have _h0 := List.mem_singleton.1 hm; have _h2 := _lo_u25_0x1 _ hg; have _h3 := _hiu25_0x1 _ hg; omega))
                have _f_113 := (((((((_f_78.ch0 _cw_79).ch _cw_85 (fun i hm => by have _h1 := mem_rg hm; omega)).ch0 _cw_89).ch0 _cw_102).ch0 _cw_103).ch0 _cw_104).ch _cw_105 (fun i hi => by have _h1 := List.mem_singleton.1 hi; omega))
                refine Step.call (r_call (xs := [.tmp 84, .tmp 85]) fk17 rfl) (c_laws_eqHistory _ _f_110.ls _f_111.rdg _ _f_112.ls _f_113.rdg ) fun _v86 _w_114 _q86 => ?_
                obtain ⟨rfl, _cw_114⟩ := _q86
                have _cw_114z := _cw_114.size
                have E := E.trans _cw_114
                refine WL_step rfl rfl (r_not rfl) ?_
                refine WL_step rfl rfl (r_move rfl) ?_
                refine WL_splitF (d := 88) rfl _kb_44 ?_
                refine WL_step rfl rfl (r_move rfl) ?_
                refine WL_step rfl rfl (r_move rfl) ?_
                refine WL_step rfl rfl (r_neqB un4 rfl rfl) ?_
                refine WL_step rfl rfl (r_pickF rfl rfl) ?_
                refine WL_nil ?_
                refine thn_nrm (_hK_108 _ _ ?_)
                clear _hK_108
                refine W_condFk rfl _kb_46 ?_
                refine W_skip ?_
                refine thn_nrm (_hK_107 _ _ ?_)
                clear _hK_107
                refine W_seq fun _K_115 _hK_115 => ?_
                refine W_region ?_
                refine WL_step rfl rfl (r_assign rfl) ?_
                refine WL_nil ?_
                refine thn_nrm (_hK_115 _ _ ?_)
                clear _hK_115
                refine W_seq fun _K_116 _hK_116 => ?_
                refine W_region ?_
                have _f_117 := ((((((_f_88.ch0 _cw_89).ch0 _cw_102).ch0 _cw_103).ch0 _cw_104).ch _cw_105 (fun hm => by have _h1 := List.mem_singleton.1 hm; omega)).ch0 _cw_114)
                refine WL_step rfl rfl (r_loadAtA0 _f_117.at_ agg29 sz29 rfl) ?_
                refine WL_step rfl rfl (r_move rfl) ?_
                refine WL_s rfl rfl ?_
                have _f_118 := ((((((rq68.ch0 _cw_89).ch0 _cw_102).ch0 _cw_103).ch0 _cw_104).ch _cw_105 (fun g hg hm => by have _h0 := List.mem_singleton.1 hm; have _h2 := _lo_u33_0x1 _ hg; have _h3 := _hiu33_0x1 _ hg; omega)).ch0 _cw_114)
                have _f_119 := ((((((_q68.ch0 _cw_89).ch0 _cw_102).ch0 _cw_103).ch0 _cw_104).ch _cw_105 (fun i hi => by have _h1 := List.mem_singleton.1 hi; omega)).ch0 _cw_114)
                refine Step.call (r_call (xs := [.tmp 93, .tmp 94]) fk25 rfl) (c_laws_heldHistory _ _f_118.ls _f_119.rdg _ (by omega) (by rw [gsize_mk]; omega)) fun _v95 _w_120 _q95 => ?_
                obtain ⟨rfl, _cw_120⟩ := _q95
                have _cw_120z := _cw_120.size
                have E := E.trans _cw_120
                refine WL_step rfl rfl (r_assign rfl) ?_
                refine WL_nil ?_
                refine thn_nrm (_hK_116 _ _ ?_)
                clear _hK_116
                refine W_seq fun _K_121 _hK_121 => ?_
                refine W_seq fun _K_122 _hK_122 => ?_
                refine W_region ?_
                refine WL_step rfl rfl (r_move rfl) ?_
                refine WL_step rfl rfl (r_lss rfl rfl) ?_
                refine WL_nil ?_
                refine thn_nrm (_hK_122 _ _ ?_)
                clear _hK_122
                refine W_condFk rfl _kb_92 ?_
                refine W_skip ?_
                refine thn_nrm (_hK_121 _ _ ?_)
                clear _hK_121
                refine W_seq fun _K_123 _hK_123 => ?_
                refine W_seq fun _K_124 _hK_124 => ?_
                refine W_region ?_
                refine WL_step rfl rfl (r_move rfl) ?_
                refine WL_step rfl rfl (r_move rfl) ?_
                refine WL_step rfl rfl (r_neq rfl rfl) ?_
                refine WL_nil ?_
                refine thn_nrm (_hK_124 _ _ ?_)
                clear _hK_124
                refine W_condFk rfl _kb_96 ?_
                refine W_skip ?_
                refine thn_nrm (_hK_123 _ _ ?_)
                clear _hK_123
                refine W_seq fun _K_125 _hK_125 => ?_
                refine W_region ?_
                refine WL_step rfl rfl (r_assign rfl) ?_
                refine WL_nil ?_
                refine thn_nrm (_hK_125 _ _ ?_)
                clear _hK_125
                refine W_ret ?_
                exact ret_intro [_] ⟨rfl, trivial⟩ ⟨congrArg Value.bool (by first | rfl | (exfalso; omega) | (exfalso; revert _h76; simp; done) | (exfalso; revert _h76; simp; omega)), E⟩

end Go.Proofs.Ythchonkpkgogjaa
