/- Walks of functions that FnExactStateClasses reaches: what each returns, and that it leaves the memory that was there alone. -/
import Derived.Test.YtgpmbjchmphhaaaKF
import Derived.Test.YtgpmbjchmphhaaaKG
import Derived.Test.YtgpmbjchmphhaaaKH
import Derived.Test.YtgpmbjchmphhaaaKI
import Derived.Test.YtgpmbjchmphhaaaKJ
import Derived.Test.YtgpmbjchmphhaaaKM
import Derived.Test.YtgpmbjchmphhaaaKN
import Derived.Test.YtgpmbjchmphhaaaKO
import Derived.Test.YtgpmbjchmphhaaaKP
import Derived.Test.YtgpmbjchmphhaaaKQ
import Derived.Test.YtgpmbjchmphhaaaKR
import Derived.Test.YtgpmbjchmphhaaaKS
import Derived.Test.YtgpmbjchmphhaaaKT
import Derived.Test.YtgpmbjchmphhaaaKU
import Derived.Test.YtgpmbjchmphhaaaKV
import Derived.Test.YtgpmbjchmphhaaaKX
import Derived.Test.YtgpmbjchmphhaaaKY
import Derived.Test.YtgpmbjchmphhaaaKZ
import Derived.Test.YtgpmbjchmphhaaaJA
import Derived.Test.YtgpmbjchmphhaaaJB
import Derived.Test.YtgpmbjchmphhaaaJC
import Derived.Test.YtgpmbjchmphhaaaJD
import Derived.Test.YtgpmbjchmphhaaaJE
import Derived.Test.YtgpmbjchmphhaaaWExactUsefulStates
import Derived.Test.YtgpmbjchmphhaaaProg
namespace Go.Proofs.Ytgpmbjchmphhaaa
open Go.KLib
set_option maxRecDepth 20000
set_option linter.unusedVariables false
set_option linter.unusedSimpArgs false
namespace TExactStateClasses
theorem agg22 : aggB Try.prog 22 = some false := by kernel_rfl
theorem agg23 : aggB Try.prog 23 = some false := by kernel_rfl
theorem agg25 : aggB Try.prog 25 = some true := by kernel_rfl
theorem agg28 : aggB Try.prog 28 = some true := by kernel_rfl
theorem agg3 : aggB Try.prog 3 = some false := by kernel_rfl
theorem agg32 : aggB Try.prog 32 = some false := by kernel_rfl
theorem agg4 : aggB Try.prog 4 = some false := by kernel_rfl
theorem by3 : bytesB Try.prog 3 = some 8 := by kernel_rfl
theorem by32 : bytesB Try.prog 32 = some 24 := by kernel_rfl
theorem el22 : elB Try.prog 22 = some 4 := by kernel_rfl
theorem el23 : elB Try.prog 23 = some 32 := by kernel_rfl
theorem el32 : elB Try.prog 32 = some 3 := by kernel_rfl
theorem fa28_1 : faB Try.prog 28 1 = some 1 := by kernel_rfl
theorem fa28_2 : faB Try.prog 28 2 = some 2 := by kernel_rfl
theorem fk107 : fnB Try.prog 107 = true := by kernel_rfl
theorem fk108 : fnB Try.prog 108 = true := by kernel_rfl
theorem fk109 : fnB Try.prog 109 = true := by kernel_rfl
theorem fk110 : fnB Try.prog 110 = true := by kernel_rfl
theorem fk111 : fnB Try.prog 111 = true := by kernel_rfl
theorem fk112 : fnB Try.prog 112 = true := by kernel_rfl
theorem fk14 : fnB Try.prog 14 = true := by kernel_rfl
theorem fk16 : fnB Try.prog 16 = true := by kernel_rfl
theorem fk18 : fnB Try.prog 18 = true := by kernel_rfl
theorem fk25 : fnB Try.prog 25 = true := by kernel_rfl
theorem fk28 : fnB Try.prog 28 = true := by kernel_rfl
theorem fk29 : fnB Try.prog 29 = true := by kernel_rfl
theorem fk30 : fnB Try.prog 30 = true := by kernel_rfl
theorem fk45 : fnB Try.prog 45 = true := by kernel_rfl
theorem fk46 : fnB Try.prog 46 = true := by kernel_rfl
theorem fk49 : fnB Try.prog 49 = true := by kernel_rfl
theorem fk50 : fnB Try.prog 50 = true := by kernel_rfl
theorem fk53 : fnB Try.prog 53 = true := by kernel_rfl
theorem fk54 : fnB Try.prog 54 = true := by kernel_rfl
theorem fk93 : fnB Try.prog 93 = true := by kernel_rfl
theorem fk94 : fnB Try.prog 94 = true := by kernel_rfl
theorem mixed : Try.prog.follows .mixedOrders = true := by kernel_rfl
theorem sz25 : sizeB Try.prog 25 = some 3 := by kernel_rfl
theorem sz28 : sizeB Try.prog 28 = some 3 := by kernel_rfl
theorem sz3 : sizeB Try.prog 3 = some 1 := by kernel_rfl
theorem sz32 : sizeB Try.prog 32 = some 1 := by kernel_rfl
theorem sz4 : sizeB Try.prog 4 = some 1 := by kernel_rfl
theorem zr28 : zeroB Try.prog 28 = some (.agg #[.int .i64 0, .slice none 0 0, .slice none 0 0]) := by kernel_rfl
theorem zr3 : zeroB Try.prog 3 = some (.int .i64 0) := by kernel_rfl
theorem zr32 : zeroB Try.prog 32 = some (.slice none 0 0) := by kernel_rfl
end TExactStateClasses
open TExactStateClasses

/-- slices.Equal[[]int,int] -/
theorem c_slices_Equal_int_int {w : World} {LL_a _B_a : Nat} {_v_a : Value} {a : List Int} (_h_a : Ls ics 1 w LL_a _B_a _v_a a) {LL_b _B_b : Nat} {_v_b : Value} {b : List Int} (_h_b : Ls ics 1 w LL_b _B_b _v_b b) :
    Ctr Try.prog 112 #[_v_a, _v_b] w (fun v w' => v = .bool (decide (a = b)) ∧ Ch [] w w') := by
  obtain ⟨_A_a, _C_a, _e1_a⟩ := _h_a.val
  subst _e1_a
  have _l_a := _h_a.len
  have _h_a := _h_a.here (by decide)
  obtain ⟨_A_b, _C_b, _e1_b⟩ := _h_b.val
  subst _e1_b
  have _l_b := _h_b.len
  have _h_b := _h_b.here (by decide)
  have E := Ch.refl [] w
  refine Ctr_of_W (N := 26) (vs0 := [(.slice _A_a a.length _C_a), (.slice _A_b b.length _C_b)]) Try.func112 rfl rfl rfl ?_
  refine W_seq fun _K_1 _hK_1 => ?_
  refine W_region ?_
  refine WL_step rfl rfl (r_assign rfl) ?_
  refine WL_nil ?_
  refine thn_nrm (_hK_1 _ _ ?_)
  clear _hK_1
  refine W_seq fun _K_2 _hK_2 => ?_
  refine W_seq fun _K_3 _hK_3 => ?_
  refine W_region ?_
  refine WL_step rfl rfl (r_move rfl) ?_
  refine WL_step rfl rfl (r_len (by rw [el32]; rfl) rfl) ?_
  refine WL_step rfl rfl (r_move rfl) ?_
  refine WL_step rfl rfl (r_len (by rw [el32]; rfl) rfl) ?_
  refine WL_step rfl rfl (r_neq rfl rfl) ?_
  refine WL_nil ?_
  refine thn_nrm (_hK_3 _ _ ?_)
  clear _hK_3
  refine W_cond rfl (fun _h10 => ?_) (fun _h10 => ?_)
  · have _kb_4 := _h10
    have _h10 := bf_d (bt_n _h10)
    refine W_seq fun _K_5 _hK_5 => ?_
    refine W_region ?_
    refine WL_step rfl rfl (r_assign rfl) ?_
    refine WL_nil ?_
    refine thn_nrm (_hK_5 _ _ ?_)
    clear _hK_5
    refine W_ret (thn_ret ?_)
    clear _hK_2
    exact ret_intro [_] ⟨rfl, trivial⟩ ⟨congrArg Value.bool (decide_eq_false (fun e => _h10 (by rw [e]))).symm, E⟩
  · have _kb_4 := _h10
    have _h10 := bt_d (bf_n _h10)
    refine W_skip ?_
    refine thn_nrm (_hK_2 _ _ ?_)
    clear _hK_2
    refine W_seq fun _K_6 _hK_6 => ?_
    refine W_seq fun _K_7 _hK_7 => ?_
    refine W_region ?_
    refine WL_step rfl rfl (r_move rfl) ?_
    refine WL_step rfl rfl (r_len (by rw [el32]; rfl) rfl) ?_
    refine WL_step rfl rfl (r_move rfl) ?_
    refine WL_nil ?_
    refine thn_nrm (_hK_7 _ _ ?_)
    clear _hK_7
    refine W_block ?_
    refine W_loop (σ := Nat) (fun (k : Nat) => [(0, (.slice _A_a a.length _C_a)), (1, (.slice _A_b b.length _C_b)), (12, (.int .i64 ((a.length : Nat) : Int))), (13, (.int .i64 ((k : Nat) : Int)))]) (fun (k : Nat) wx => Ch [] w wx ∧ w.heap.size ≤ wx.heap.size ∧ (k ≤ a.length) ∧ (a.take k = b.take k)) (fun (k : Nat) => a.length - k) 0 (Sub.cons rfl (Sub.cons rfl (Sub.cons rfl (Sub.cons rfl (Sub.nil _))))) ⟨E, (Nat.le_refl _), (by omega), rfl⟩ ?_
    rintro k _wr_8 ⟨E, _zz0, _hk, _ht⟩
    have _E0h := E
    have _E0hz := _E0h.size
    refine W_seq fun _K_9 _hK_9 => ?_
    refine W_region ?_
    refine WL_step rfl rfl (r_lss rfl rfl) ?_
    refine WL_nil ?_
    refine thn_nrm (_hK_9 _ _ ?_)
    clear _hK_9
    refine W_seq fun _K_10 _hK_10 => ?_
    refine W_cond rfl (fun _h14 => ?_) (fun _h14 => ?_)
    · have _kb_11 := _h14
      have _h14 := bt_d _h14
      refine W_skip ?_
      refine thn_nrm (_hK_10 _ _ ?_)
      clear _hK_10
      refine W_seq fun _K_12 _hK_12 => ?_
      refine W_block ?_
      refine W_seq fun _K_13 _hK_13 => ?_
      refine W_region ?_
      refine WL_step rfl rfl (r_move rfl) ?_
      refine WL_step rfl rfl (r_assign rfl) ?_
      refine WL_nil ?_
      refine thn_nrm (_hK_13 _ _ ?_)
      clear _hK_13
      refine W_seq fun _K_14 _hK_14 => ?_
      refine W_drawC [] 9 mixed rfl fun _w_15 _cw_15 => ?_
      have _cw_15z := _cw_15.size
      have E := E.trans _cw_15
      refine DR_s 0 rfl (by kernel_rfl) rfl rfl (t_v (fun _ => (r_move rfl)) ?_)
      refine DR_s 1 rfl (by kernel_rfl) rfl rfl (t_v (fun _ => (r_move rfl)) ?_)
      have _f_16 := ((_h_a.ch0 _E0h).ch0 _cw_15)
      refine DR_s 2 rfl (by kernel_rfl) rfl rfl (t_index _f_16 ics_len el32 sz3 rfl rfl rfl (by omega) fun _p18 _y18 _hy18 _a18 => ?_)
      refine DR_s 3 rfl (by kernel_rfl) rfl rfl (t_loadAt0 _a18 (fun i hi => absurd hi List.not_mem_nil) agg3 rfl rfl ?_)
      refine DR_s 4 rfl (by kernel_rfl) rfl rfl (t_v (fun _ => (r_move rfl)) ?_)
      refine DR_s 5 rfl (by kernel_rfl) rfl rfl (t_v (fun _ => (r_move rfl)) ?_)
      have _f_17 := ((_h_b.ch0 _E0h).ch0 _cw_15)
      refine DR_s 6 rfl (by kernel_rfl) rfl rfl (t_index _f_17 ics_len el32 sz3 rfl rfl rfl (by omega) fun _p22 _y22 _hy22 _a22 => ?_)
      refine DR_s 7 rfl (by kernel_rfl) rfl rfl (t_loadAt0 _a22 (fun i hi => absurd hi List.not_mem_nil) agg3 rfl rfl ?_)
      refine DR_s 8 rfl (by kernel_rfl) rfl rfl (t_v (fun _ => (r_neq rfl rfl)) ?_)
      refine DR_done (by kernel_rfl) ?_
      refine thn_nrm (_hK_14 _ _ ?_)
      clear _hK_14
      refine W_cond rfl (fun _h24 => ?_) (fun _h24 => ?_)
      · have _kb_18 := _h24
        have _h24 := bf_d (bt_n _h24)
        refine W_seq fun _K_19 _hK_19 => ?_
        refine W_region ?_
        refine WL_step rfl rfl (r_assign rfl) ?_
        refine WL_nil ?_
        refine thn_nrm (_hK_19 _ _ ?_)
        clear _hK_19
        refine W_ret (inB_ret (thn_ret (thn_ret (inB_ret (thn_ret ?_)))))
        clear _hK_6 _hK_12
        exact ret_intro [_] ⟨rfl, trivial⟩ ⟨congrArg Value.bool (decide_eq_false (ne_of_get _hy18 _hy22 _h24)).symm, E⟩
      · have _kb_18 := _h24
        have _h24 := bt_d (bf_n _h24)
        refine W_skip ?_
        refine inB_nrm ?_
        refine thn_nrm (_hK_12 _ _ ?_)
        clear _hK_12
        refine W_region ?_
        refine WL_step rfl rfl (r_add (by omega) rfl rfl) ?_
        refine WL_step rfl rfl (r_move rfl) ?_
        refine WL_nil ?_
        exact thn_nrm (Exists.intro (k + 1) ⟨⟨E, (by omega), (by omega), (take_eq_succ _ht _hy18 _hy22 _h24)⟩, Sub.cons rfl (Sub.cons rfl (Sub.cons rfl (Sub.cons rfl (Sub.nil _)))), (by first | omega | (dsimp only; omega))⟩)
    · have _kb_11 := _h14
      have _h14 := bf_d _h14
      refine W_exit (thn_exit (thn_exit (inB_hit ?_)))
      refine thn_nrm (_hK_6 _ _ ?_)
      clear _hK_6
      refine W_seq fun _K_20 _hK_20 => ?_
      refine W_region ?_
      refine WL_step rfl rfl (r_assign rfl) ?_
      refine WL_nil ?_
      refine thn_nrm (_hK_20 _ _ ?_)
      clear _hK_20
      refine W_ret ?_
      clear _hK_10
      exact ret_intro [_] ⟨rfl, trivial⟩ ⟨congrArg Value.bool (decide_eq_true (eq_of_take _ht (by omega) (by omega))).symm, E⟩

/-- impl.Automaton).refine$1 -/
theorem c_impl_Automaton_refine_1 {w : World} {LL_x _B_x : Nat} {_v_x : Value} {x : List Int} (_h_x : Ls ics 1 w LL_x _B_x _v_x x) {LL_q _B_q : Nat} {_v_q : Value} {q : List Int} (_h_q : Ls ics 1 w LL_q _B_q _v_q q) {b_q t_q : Nat} (_hb_q : Blk w b_q t_q [_v_q]) :
    Ctr Try.prog 111 #[_v_x, (.pointer (some ⟨b_q, 0, none⟩))] w (fun v w' => v = .bool (decide (x = q)) ∧ Ch [] w w') := by
  obtain ⟨_A_x, _C_x, _e1_x⟩ := _h_x.val
  subst _e1_x
  have _l_x := _h_x.len
  have _h_x := _h_x.here (by decide)
  obtain ⟨_A_q, _C_q, _e1_q⟩ := _h_q.val
  subst _e1_q
  have _l_q := _h_q.len
  have _h_q := _h_q.here (by decide)
  have E := Ch.refl [] w
  refine Ctr_of_W (N := 7) (vs0 := [(.slice _A_x x.length _C_x), (.pointer (some ⟨b_q, 0, none⟩))]) Try.func111 rfl rfl rfl ?_
  refine W_seq fun _K_1 _hK_1 => ?_
  refine W_region ?_
  refine WL_step rfl rfl (r_assign rfl) ?_
  refine WL_nil ?_
  refine thn_nrm (_hK_1 _ _ ?_)
  clear _hK_1
  refine W_seq fun _K_2 _hK_2 => ?_
  refine W_region ?_
  refine WL_step rfl rfl (r_move rfl) ?_
  refine WL_step rfl rfl (r_loadAt0 _hb_q.at_ agg32 rfl rfl) ?_
  refine WL_s rfl rfl ?_
  refine Step.call (r_call (xs := [.tmp 4, .tmp 5]) fk112 rfl) (c_slices_Equal_int_int _h_x _h_q ) fun _v6 _w_3 _q6 => ?_
  obtain ⟨rfl, _cw_3⟩ := _q6
  have _cw_3z := _cw_3.size
  have E := E.trans _cw_3
  refine WL_step rfl rfl (r_assign rfl) ?_
  refine WL_nil ?_
  refine thn_nrm (_hK_2 _ _ ?_)
  clear _hK_2
  refine W_ret ?_
  exact ret_intro [_] ⟨rfl, trivial⟩ ⟨congrArg Value.bool rfl, E⟩

/-- slices.IndexFunc[[][]int,[]int] -/
theorem c_slices_IndexFunc_int_int {w : World} {LL_sK _B_sK : Nat} {_v_sK : Value} {sK : List Sv} (_h_sK : Ls Sv.cs 1 w LL_sK _B_sK _v_sK sK) {LR_K BB_K : Nat} {K : List (List Int)} (_rd_K : Rd ics 1 w LR_K BB_K sK K) {LL_fc0 _B_fc0 : Nat} {_v_fc0 : Value} {fc0 : List Int} (_h_fc0 : Ls ics 1 w LL_fc0 _B_fc0 _v_fc0 fc0) {b_fc0 t_fc0 : Nat} (_hb_fc0 : Blk w b_fc0 t_fc0 [_v_fc0]) (hn : K.Nodup) :
    Ctr Try.prog 110 #[_v_sK, (.func (.func 111) #[] #[(.pointer (some ⟨b_fc0, 0, none⟩))])] w (fun v w' => v = .int .i64 (ixL K fc0) ∧ Ch [] w w') := by
  obtain ⟨_A_sK, _C_sK, _e1_sK⟩ := _h_sK.val
  subst _e1_sK
  have _l_sK := _h_sK.len
  have _h_sK := _h_sK.here (by decide)
  have _rd_K := _rd_K.here (by decide)
  have _rl_K := _rd_K.1
  obtain ⟨_A_fc0, _C_fc0, _e1_fc0⟩ := _h_fc0.val
  subst _e1_fc0
  have _l_fc0 := _h_fc0.len
  have _h_fc0 := _h_fc0.here (by decide)
  have E := Ch.refl [] w
  refine Ctr_of_W (N := 19) (vs0 := [(.slice _A_sK sK.length _C_sK), (.func (.func 111) #[] #[(.pointer (some ⟨b_fc0, 0, none⟩))])]) Try.func110 rfl rfl rfl ?_
  refine W_seq fun _K_1 _hK_1 => ?_
  refine W_region ?_
  refine WL_step rfl rfl (r_assign rfl) ?_
  refine WL_nil ?_
  refine thn_nrm (_hK_1 _ _ ?_)
  clear _hK_1
  refine W_seq fun _K_2 _hK_2 => ?_
  refine W_seq fun _K_3 _hK_3 => ?_
  refine W_region ?_
  refine WL_step rfl rfl (r_move rfl) ?_
  refine WL_step rfl rfl (r_len (by rw [el23]; rfl) rfl) ?_
  refine WL_step rfl rfl (r_move rfl) ?_
  refine WL_nil ?_
  refine thn_nrm (_hK_3 _ _ ?_)
  clear _hK_3
  refine W_block ?_
  refine W_loop (σ := Nat) (fun (k : Nat) => [(0, (.slice _A_sK sK.length _C_sK)), (1, (.func (.func 111) #[] #[(.pointer (some ⟨b_fc0, 0, none⟩))])), (7, (.int .i64 ((sK.length : Nat) : Int))), (8, (.int .i64 ((k : Nat) : Int)))]) (fun (k : Nat) wx => Ch [] w wx ∧ w.heap.size ≤ wx.heap.size ∧ (k ≤ K.length) ∧ (∀ i y, i < k → K[i]? = some y → y ≠ fc0)) (fun (k : Nat) => K.length - k) 0 (Sub.cons rfl (Sub.cons rfl (Sub.cons rfl (Sub.cons rfl (Sub.nil _))))) ⟨E, (Nat.le_refl _), (by omega), (fun _ _ h => absurd h (by omega))⟩ ?_
  rintro k _wr_4 ⟨E, _zz0, _hk, _ht⟩
  have _E0h := E
  have _E0hz := _E0h.size
  refine W_seq fun _K_5 _hK_5 => ?_
  refine W_region ?_
  refine WL_step rfl rfl (r_lss rfl rfl) ?_
  refine WL_nil ?_
  refine thn_nrm (_hK_5 _ _ ?_)
  clear _hK_5
  refine W_seq fun _K_6 _hK_6 => ?_
  refine W_cond rfl (fun _h9 => ?_) (fun _h9 => ?_)
  · have _kb_7 := _h9
    have _h9 := bt_d _h9
    refine W_skip ?_
    refine thn_nrm (_hK_6 _ _ ?_)
    clear _hK_6
    refine W_seq fun _K_8 _hK_8 => ?_
    refine W_block ?_
    refine W_seq fun _K_9 _hK_9 => ?_
    refine W_region ?_
    refine WL_step rfl rfl (r_move rfl) ?_
    refine WL_step rfl rfl (r_assign rfl) ?_
    refine WL_nil ?_
    refine thn_nrm (_hK_9 _ _ ?_)
    clear _hK_9
    refine W_seq fun _K_10 _hK_10 => ?_
    refine W_region ?_
    refine WL_step rfl rfl (r_move rfl) ?_
    refine WL_step rfl rfl (r_move rfl) ?_
    refine WL_step rfl rfl (r_move rfl) ?_
    refine WL_s rfl rfl ?_
    have _f_11 := (_h_sK.ch0 _E0h)
    refine (s_index _f_11 Sv.len el23 sz32 rfl rfl rfl (by omega) fun _p14 _y14 _hy14 _a14 => ?_)
    have _f_12 := (_rd_K.ch0 _E0h)
    obtain ⟨_ys14, _hys14, _fs14⟩ := _f_12.get _hy14
    obtain ⟨_A14, _n14, _C14⟩ := _y14
    obtain rfl := _fs14.eqn
    have _l14 := _fs14.len
    replace _fs14 : Ls ics 1 _wr_4 LR_K w.heap.size (.slice _A14 _ys14.length _C14) _ys14 := _fs14
    replace _a14 : At _wr_4 LL_sK w.heap.size _p14 ([(.slice _A14 _ys14.length _C14)]) := _a14
    refine WL_step rfl rfl (r_loadAt0 _a14 agg32 rfl rfl) ?_
    refine WL_s rfl rfl ?_
    have _f_13 := (_h_fc0.ch0 _E0h)
    have _f_14 := (_hb_fc0.ch0 _E0h)
    refine Step.call (r_callV (xs := [.tmp 15]) (as' := [(.slice _A14 _ys14.length _C14), (.pointer (some ⟨b_fc0, 0, none⟩))]) fk111 rfl rfl rfl) (c_impl_Automaton_refine_1 _fs14 _f_13 _f_14 ) fun _v16 _w_15 _q16 => ?_
    obtain ⟨rfl, _cw_15⟩ := _q16
    have _cw_15z := _cw_15.size
    have E := E.trans _cw_15
    refine WL_nil ?_
    refine thn_nrm (_hK_10 _ _ ?_)
    clear _hK_10
    refine W_cond rfl (fun _h16 => ?_) (fun _h16 => ?_)
    · have _kb_16 := _h16
      have _h16 := bt_d _h16
      refine W_seq fun _K_17 _hK_17 => ?_
      refine W_region ?_
      refine WL_step rfl rfl (r_move rfl) ?_
      refine WL_step rfl rfl (r_assign rfl) ?_
      refine WL_nil ?_
      refine thn_nrm (_hK_17 _ _ ?_)
      clear _hK_17
      refine W_ret (inB_ret (thn_ret (thn_ret (inB_ret (thn_ret ?_)))))
      clear _hK_2 _hK_8
      exact ret_intro [_] ⟨rfl, trivial⟩ ⟨congrArg (Value.int .i64) (by first | exact firstp_ix _ht _hys14 _h16 hn | exact nonep_ix _ht (by omega) hn), E⟩
    · have _kb_16 := _h16
      have _h16 := bf_d _h16
      refine W_skip ?_
      refine inB_nrm ?_
      refine thn_nrm (_hK_8 _ _ ?_)
      clear _hK_8
      refine W_region ?_
      refine WL_step rfl rfl (r_add (by omega) rfl rfl) ?_
      refine WL_step rfl rfl (r_move rfl) ?_
      refine WL_nil ?_
      exact thn_nrm (Exists.intro (k + 1) ⟨⟨E, (by omega), (by omega), (nep_step _ht _hys14 _h16)⟩, Sub.cons rfl (Sub.cons rfl (Sub.cons rfl (Sub.cons rfl (Sub.nil _)))), (by first | omega | (dsimp only; omega))⟩)
  · have _kb_7 := _h9
    have _h9 := bf_d _h9
    refine W_exit (thn_exit (thn_exit (inB_hit ?_)))
    refine thn_nrm (_hK_2 _ _ ?_)
    clear _hK_2
    refine W_seq fun _K_18 _hK_18 => ?_
    refine W_region ?_
    refine WL_step rfl rfl (r_assign rfl) ?_
    refine WL_nil ?_
    refine thn_nrm (_hK_18 _ _ ?_)
    clear _hK_18
    refine W_ret ?_
    clear _hK_6
    exact ret_intro [_] ⟨rfl, trivial⟩ ⟨congrArg (Value.int .i64) (by first | exact firstp_ix _ht _hys14 _h16 hn | exact nonep_ix _ht (by omega) hn), E⟩

/-- impl.Automaton).refine -/
theorem c_impl_Automaton_refine {w : World} (aS : Int) {LL_aA _B_aA : Nat} {_v_aA : Value} {aA : List Bool} (_h_aA : Ls bcs 1 w LL_aA _B_aA _v_aA aA) {LL_saN _B_saN : Nat} {_v_saN : Value} {saN : List Sv} (_h_saN : Ls Sv.cs 1 w LL_saN _B_saN _v_saN saN) {LR_aN BB_aN : Nat} {aN : List (List Int)} (_rd_aN : Rd ics 1 w LR_aN BB_aN saN aN) {LL_cl _B_cl : Nat} {_v_cl : Value} {cl : List Int} (_h_cl : Ls ics 1 w LL_cl _B_cl _v_cl cl) (hv : ValidA aS aA aN) (hl : cl.length = aA.length)  :
    Ctr Try.prog 109 #[(.agg #[(.int .i64 aS), _v_aA, _v_saN]), _v_cl] w (fun v w' => ∃ (_u0 : Value), v = .tuple #[_u0, .int .i64 (((rfn cl aN aA.length).1.length : Nat) : Int)] ∧ Ol ics 3 1 w' _u0 ((rfn cl aN aA.length).2) ∧ Lo w.heap.size _u0 ∧ Ch [] w w') := by
  obtain ⟨_A_aA, _C_aA, _e1_aA⟩ := _h_aA.val
  subst _e1_aA
  have _l_aA := _h_aA.len
  have _h_aA := _h_aA.here (by decide)
  obtain ⟨_A_saN, _C_saN, _e1_saN⟩ := _h_saN.val
  subst _e1_saN
  have _l_saN := _h_saN.len
  have _h_saN := _h_saN.here (by decide)
  have _rd_aN := _rd_aN.here (by decide)
  have _rl_aN := _rd_aN.1
  obtain ⟨_A_cl, _C_cl, _e1_cl⟩ := _h_cl.val
  subst _e1_cl
  have _l_cl := _h_cl.len
  have _h_cl := _h_cl.here (by decide)
  have E := Ch.refl [] w
  have hv2 := hv.2.2.1; have hv1 := hv.1
  refine Ctr_of_W (N := 70) (vs0 := [(.agg #[(.int .i64 aS), (.slice _A_aA aA.length _C_aA), (.slice _A_saN saN.length _C_saN)]), (.slice _A_cl cl.length _C_cl)]) Try.func109 rfl rfl rfl ?_
  refine W_seq fun _K_1 _hK_1 => ?_
  refine W_region ?_
  refine WL_s rfl rfl ?_
  refine s_box rfl fun _b2 _w_2 _m2 _cw_2 _e2 => ?_
  have _cw_2z := _cw_2.size
  have E := E.trans _cw_2
  have _z2 := _m2.lt
  replace _m2 : Blk _w_2 _b2 28 [(.int .i64 aS), (.slice _A_aA aA.length _C_aA), (.slice _A_saN saN.length _C_saN)] := _m2
  refine WL_step rfl rfl (r_assign rfl) ?_
  refine WL_step rfl rfl (r_assign rfl) ?_
  refine WL_nil ?_
  refine thn_nrm (_hK_1 _ _ ?_)
  clear _hK_1
  refine W_seq fun _K_3 _hK_3 => ?_
  refine W_region ?_
  refine WL_s rfl rfl ?_
  refine s_buildSlice0 (k := 1) Sv.cs el23 sz32 fun _v14 _w_4 _q14 _lo14 _cw_4 => ?_
  have _cw_4z := _cw_4.size
  have E := E.trans _cw_4
  obtain ⟨_Av14, _Cv14, _ev14⟩ := _q14.val
  subst _ev14
  have _lv14 := _q14.len
  have _hiv14 := _q14.lt
  refine WL_step rfl rfl (r_assign rfl) ?_
  refine WL_nil ?_
  refine thn_nrm (_hK_3 _ _ ?_)
  clear _hK_3
  refine W_seq fun _K_5 _hK_5 => ?_
  refine W_region ?_
  refine WL_s rfl rfl ?_
  refine s_buildSlice0 (k := 1) ics el32 sz3 fun _v15 _w_6 _q15 _lo15 _cw_6 => ?_
  have _cw_6z := _cw_6.size
  have E := E.trans _cw_6
  obtain ⟨_Av15, _Cv15, _ev15⟩ := _q15.val
  subst _ev15
  have _lv15 := _q15.len
  have _hiv15 := _q15.lt
  refine WL_step rfl rfl (r_assign rfl) ?_
  refine WL_nil ?_
  refine thn_nrm (_hK_5 _ _ ?_)
  clear _hK_5
  refine W_seq fun _K_7 _hK_7 => ?_
  refine W_seq fun _K_8 _hK_8 => ?_
  refine W_region ?_
  refine WL_step rfl rfl (r_move rfl) ?_
  refine WL_step rfl rfl (r_len (by rw [el32]; rfl) rfl) ?_
  refine WL_step rfl rfl (r_move rfl) ?_
  refine WL_nil ?_
  refine thn_nrm (_hK_8 _ _ ?_)
  clear _hK_8
  refine W_block ?_
  have _f_9 := (_q14.ch0 _cw_6)
  have _oi_10 : Ol Sv.cs 32 1 _w_6 (.slice _Av14 (([] : List Sv)).length _Cv14) (([] : List Sv)) := by
    have hx := _f_9
    exact hx
  have _oi_11 : Ol ics 3 1 _w_6 (.slice _Av15 (([] : List Int)).length _Cv15) ((rfn cl aN 0).2) := by
    have hx := _q15
    exact hx
  have _f_12 := ((_m2.ch0 _cw_4).ch0 _cw_6)
  refine W_loop (σ := Nat × List Sv × Value × Value) (fun ⟨i, vs, kv, ov⟩ => [(1, (.slice _A_cl cl.length _C_cl)), (2, (.pointer (some ⟨_b2, 0, none⟩))), (4, (.slice none 0 0)), (5, (.int .i64 0)), (6, kv), (7, ov), (16, (.slice _A_cl cl.length _C_cl)), (17, (.int .i64 ((cl.length : Nat) : Int))), (18, (.int .i64 ((i : Nat) : Int)))]) (fun ⟨i, vs, kv, ov⟩ wx => Ch [] w wx ∧ _w_6.heap.size ≤ wx.heap.size ∧ (i ≤ aA.length) ∧ (vs.length = (rfn cl aN i).1.length) ∧ Blk wx _b2 28 [(.int .i64 aS), (.slice _A_aA aA.length _C_aA), (.slice _A_saN saN.length _C_saN)] ∧ Ol Sv.cs 32 1 wx kv vs ∧ Lo _w_2.heap.size kv ∧ Ol ics 3 1 wx ov ((rfn cl aN i).2) ∧ Lo _w_4.heap.size ov ∧ Od ics 3 1 wx _w_6.heap.size wx.heap.size vs ((rfn cl aN i).1) ∧ (∀ g ∈ bl ov, g ∉ bl kv) ∧ (Sep kv vs) ∧ (Sep ov vs)) (fun ⟨i, vs, kv, ov⟩ => aA.length - i) (0, ([] : List Sv), (.slice _Av14 (([] : List Sv)).length _Cv14), (.slice _Av15 (([] : List Int)).length _Cv15)) (Sub.cons rfl (Sub.cons rfl (Sub.cons rfl (Sub.cons rfl (Sub.cons rfl (Sub.cons rfl (Sub.cons rfl (Sub.cons rfl (Sub.cons rfl (Sub.nil _)))))))))) ⟨E, (Nat.le_refl _), (by omega), rfl, _f_12, _oi_10, _lo14, _oi_11, _lo15, Od.nil, (fun g hm hg => by have _h1 := _lo15 _ hm; have _h2 := _hiv15 _ hm; have _h3 := _lo14 _ hg; have _h4 := _hiv14 _ hg; omega), (fun u hu => by cases hu), (fun u hu => by cases hu)⟩ ?_
  rintro ⟨i, vs, kv, ov⟩ _wr_13 ⟨E, _zz0, hi, hvl, _F0_1, _o0_6, _lo0_6, _o0_7, _lo0_7, od, _djl0_7_o6, _spl0_6, _spl0_7⟩
  have _E0h := E
  have _E0hz := _E0h.size
  have _F0_1z := _F0_1.lt
  obtain ⟨Akv, Ckv, ekv⟩ := _o0_6.val
  subst ekv
  have lkv := _o0_6.len
  have hikv := _o0_6.lt
  obtain ⟨Aov, Cov, eov⟩ := _o0_7.val
  subst eov
  have lov := _o0_7.len
  have hiov := _o0_7.lt
  have rl9 := rfn_len cl aN i
  refine W_seq fun _K_14 _hK_14 => ?_
  refine W_region ?_
  refine WL_step rfl rfl (r_lss rfl rfl) ?_
  refine WL_nil ?_
  refine thn_nrm (_hK_14 _ _ ?_)
  clear _hK_14
  refine W_seq fun _K_15 _hK_15 => ?_
  refine W_cond rfl (fun _h19 => ?_) (fun _h19 => ?_)
  · have _kb_16 := _h19
    have _h19 := bt_d _h19
    refine W_skip ?_
    refine thn_nrm (_hK_15 _ _ ?_)
    clear _hK_15
    refine W_seq fun _K_17 _hK_17 => ?_
    refine W_block ?_
    refine W_seq fun _K_18 _hK_18 => ?_
    refine W_region ?_
    refine WL_step rfl rfl (r_move rfl) ?_
    refine WL_s rfl rfl ?_
    have _f_19 := (_h_cl.ch0 _E0h)
    refine (s_index _f_19 ics_len el32 sz3 rfl rfl rfl (by omega) fun _p21 _y21 _hy21 _a21 => ?_)
    refine WL_step rfl rfl (r_loadAt0 _a21 agg3 rfl rfl) ?_
    refine WL_step rfl rfl (r_assign rfl) ?_
    refine WL_step rfl rfl (r_assign rfl) ?_
    refine WL_nil ?_
    refine thn_nrm (_hK_18 _ _ ?_)
    clear _hK_18
    refine W_seq fun _K_20 _hK_20 => ?_
    refine W_seq fun _K_21 _hK_21 => ?_
    refine W_region ?_
    refine WL_step rfl rfl (r_move rfl) ?_
    refine WL_step rfl rfl (r_lss rfl rfl) ?_
    refine WL_nil ?_
    refine thn_nrm (_hK_21 _ _ ?_)
    clear _hK_21
    refine W_cond rfl (fun _h24 => ?_) (fun _h24 => ?_)
    · have _kb_22 := _h24
      have _h24 := bt_d _h24
      refine W_seq fun _K_23 _hK_23 => ?_
      refine W_region ?_
      refine WL_step rfl rfl (r_move rfl) ?_
      refine WL_s rfl rfl ?_
      refine s_buildSlice (cs := ics) (parts := [(0, .const (Go.Value.int Go.IntKind.i64 (-1)))]) (0 : Int) [(-1)] el32 sz3 zr3 ics_len (by decide) rfl rfl rfl (by decide) (by decide) rfl fun _v26 _w_24 _q26 _lo26 _cw_24 => ?_
      have _cw_24z := _cw_24.size
      have E := E.trans _cw_24
      obtain ⟨_Av26, _Cv26, _ev26⟩ := _q26.val
      subst _ev26
      have _lv26 := _q26.len
      have _hiv26 := _q26.lt
      refine WL_s rfl rfl ?_
      have _f_26 := (_o0_7.ch0 _cw_24)
      refine s_append (cs := ics) el32 sz3 by3 zr3 rfl (by decide) ics_one _f_26 _q26.ls rfl rfl (by simp only [List.length_singleton]; omega) (by simp only [List.length_singleton]; omega) _lo0_7 (by omega) fun _v27 _w_25 _q27 _lo27 _ap27 _cw_25 => ?_
      have _cw_25z := _cw_25.size
      have E := E.step _cw_25 (fun i hi => .inl (by have _h1 := _lo0_7 _ hi; omega))
      obtain ⟨_Av27, _Cv27, _ev27⟩ := _q27.val
      subst _ev27
      have _lv27 := _q27.len
      have _hiv27 := _q27.lt
      refine WL_step rfl rfl (r_assign rfl) ?_
      refine WL_nil ?_
      refine thn_nrm (_hK_23 _ _ ?_)
      clear _hK_23
      refine W_exit (thn_exit (inB_hit ?_))
      refine thn_nrm (_hK_17 _ _ ?_)
      clear _hK_17
      refine W_region ?_
      refine WL_step rfl rfl (r_add (by omega) rfl rfl) ?_
      refine WL_step rfl rfl (r_move rfl) ?_
      refine WL_nil ?_
      have _f_28 := ((_o0_6.ch0 _cw_24).ch _cw_25 (fun g hg hm => by exact _djl0_7_o6 _ hm hg))
      have _on_27 : Ol Sv.cs 32 1 _w_25 (.slice Akv (vs).length Ckv) (vs) := by
        have hx := _f_28
        exact hx
      have _on_29 : Ol ics 3 1 _w_25 (.slice _Av27 (((rfn cl aN i).2 ++ [(-1)])).length _Cv27) ((rfn cl aN (i + 1)).2) := by
        have hx := _q27
        first | exact hx.eq (rfn2_n _hy21 (by omega)) | exact hx.eq (rf2_o _hy21 (by omega) (keyp_end (k := k) _hys33 (by omega)) rfl (by omega)) | exact hx.eq (rf2_new _hy21 (by omega) (keyp_end (k := k) _hys33 (by omega)) rfl (by omega) hvl)
      have _f_30 := ((od.ch0 _cw_24).chS _cw_25 _spl0_7)
      have _f_31 := ((_F0_1.ch0 _cw_24).ch _cw_25 (fun hm => by have _h1 := _lo0_7 _ hm; have _h2 := hiov _ hm; omega))
      exact thn_nrm (Exists.intro ((i + 1), vs, (.slice Akv (vs).length Ckv), (.slice _Av27 (((rfn cl aN i).2 ++ [(-1)])).length _Cv27)) ⟨⟨E, (by omega), (by omega), (by first | (rw [rfn1_n _hy21 (by omega)]; exact hvl) | (rw [rf1_o _hy21 (by omega) (keyp_end (k := k) _hys33 (by omega)) rfl (by omega)]; exact hvl)), _f_31, _on_27, (Lo.down _lo0_6 (by omega)), _on_29, (Lo.down _lo27 (by omega)), (by first | (rw [rfn1_n _hy21 (by omega)]; exact _f_30.up (Nat.le_refl _) (by omega)) | (rw [rf1_o _hy21 (by omega) (keyp_end (k := k) _hys33 (by omega)) rfl (by omega)]; exact _f_30.up (Nat.le_refl _) (by omega))), (fun g hm hg => by rcases _ap27 with ea | ea; (rw [ea] at hm; exact _djl0_7_o6 _ hm hg); (have z2hm := _hiv27 _ hm; rw [ea] at hm; have _z1 := List.mem_singleton.1 hm; have _h3 := _lo0_6 _ hg; have _h4 := hikv _ hg; omega)), (fun u hu g hg hm => by exact _spl0_6 _ hu _ hg hm), (fun u hu g hg hm => by rcases _ap27 with ea | ea; (rw [ea] at hm; exact _spl0_7 _ hu _ hg hm); (rw [ea] at hm; have _z1 := List.mem_singleton.1 hm; have _h9 := _f_30.rng hu hg; omega))⟩, Sub.cons rfl (Sub.cons rfl (Sub.cons rfl (Sub.cons rfl (Sub.cons rfl (Sub.cons rfl (Sub.cons rfl (Sub.cons rfl (Sub.cons rfl (Sub.nil _))))))))), (by first | omega | (dsimp only; omega))⟩)
    · have _kb_22 := _h24
      have _h24 := bf_d _h24
      refine W_skip ?_
      refine thn_nrm (_hK_20 _ _ ?_)
      clear _hK_20
      refine W_seq fun _K_32 _hK_32 => ?_
      refine W_region ?_
      refine WL_step rfl rfl (r_move rfl) ?_
      refine WL_s rfl rfl ?_
      refine s_buildSlice (cs := ics) (parts := [(0, .tmp 28)]) (0 : Int) [_y21] el32 sz3 zr3 ics_len (by decide) rfl rfl rfl (by decide) (by decide) rfl fun _v29 _w_33 _q29 _lo29 _cw_33 => ?_
      have _cw_33z := _cw_33.size
      have E := E.trans _cw_33
      obtain ⟨_Av29, _Cv29, _ev29⟩ := _q29.val
      subst _ev29
      have _lv29 := _q29.len
      have _hiv29 := _q29.lt
      refine WL_s rfl rfl ?_
      refine s_alloc zr32 fun _b10 _w_34 _m10 _cw_34 _e10 => ?_
      have _cw_34z := _cw_34.size
      have E := E.trans _cw_34
      have _z10 := _m10.lt
      replace _m10 : Blk _w_34 _b10 32 [(.slice none 0 0)] := _m10
      refine WL_s rfl rfl ?_
      refine s_store1 (off := 0) _m10 sz32 rfl rfl rfl rfl fun _w_35 _m_36 _cw_35 => ?_
      have _cw_35z := _cw_35.size
      have E := E.step _cw_35 (fun i hi => .inl (by have _h1 := List.mem_singleton.1 hi; omega))
      replace _m_36 : Blk _w_35 _b10 32 [(.slice _Av29 ([_y21]).length _Cv29)] := _m_36
      refine WL_nil ?_
      refine thn_nrm (_hK_32 _ _ ?_)
      clear _hK_32
      refine W_seq fun _K_37 _hK_37 => ?_
      refine W_seq fun _K_38 _hK_38 => ?_
      refine W_region ?_
      refine WL_step rfl rfl (r_fieldAddr fa28_2 rfl) ?_
      have _f_39 := (((_F0_1.ch0 _cw_33).ch0 _cw_34).ch _cw_35 (fun hm => by have _h1 := List.mem_singleton.1 hm; omega))
      refine WL_step rfl rfl (r_loadAt _f_39.at_ agg23 rfl rfl) ?_
      refine WL_step rfl rfl (r_move rfl) ?_
      refine WL_s rfl rfl ?_
      have _f_40 := ((((_h_saN.ch0 _E0h).ch0 _cw_33).ch0 _cw_34).ch _cw_35 (fun i hi => by have _h1 := List.mem_singleton.1 hi; omega))
      refine (s_index _f_40 Sv.len el23 sz32 rfl rfl rfl (by omega) fun _p33 _y33 _hy33 _a33 => ?_)
      have _f_41 := ((((_rd_aN.ch0 _E0h).ch0 _cw_33).ch0 _cw_34).ch _cw_35 (fun i hi => by have _h1 := List.mem_singleton.1 hi; omega))
      obtain ⟨_ys33, _hys33, _fs33⟩ := _f_41.get _hy33
      obtain ⟨_A33, _n33, _C33⟩ := _y33
      obtain rfl := _fs33.eqn
      have _l33 := _fs33.len
      replace _fs33 : Ls ics 1 _w_35 LR_aN w.heap.size (.slice _A33 _ys33.length _C33) _ys33 := _fs33
      replace _a33 : At _w_35 LL_saN w.heap.size _p33 ([(.slice _A33 _ys33.length _C33)]) := _a33
      have _e33 := (fits_row hv.2 _hys33).1
      refine WL_step rfl rfl (r_loadAt0 _a33 agg32 rfl rfl) ?_
      refine WL_step rfl rfl (r_len (by rw [el32]; rfl) rfl) ?_
      refine WL_step rfl rfl (r_move rfl) ?_
      refine WL_nil ?_
      refine thn_nrm (_hK_38 _ _ ?_)
      clear _hK_38
      refine W_block ?_
      have _f_42 := ((_q29.ch0 _cw_34).ch _cw_35 (fun g hg hm => by have _h0 := List.mem_singleton.1 hm; have _h2 := _lo29 _ hg; have _h3 := _hiv29 _ hg; omega))
      have _oi_43 : Ol ics 3 1 _w_35 (.slice _Av29 ([_y21]).length _Cv29) (keyP cl aN i 0) := by
        have hx := _f_42
        exact hx.eq (keyp_zero _hy21)
      have _f_44 := (((_f_19.ch0 _cw_33).ch0 _cw_34).ch _cw_35 (fun i hi => by have _h1 := List.mem_singleton.1 hi; omega))
      have _f_45 := (((_o0_6.ch0 _cw_33).ch0 _cw_34).ch _cw_35 (fun g hg hm => by have _h0 := List.mem_singleton.1 hm; have _h2 := _lo0_6 _ hg; have _h3 := hikv _ hg; omega))
      have _f_46 := (((_o0_7.ch0 _cw_33).ch0 _cw_34).ch _cw_35 (fun g hg hm => by have _h0 := List.mem_singleton.1 hm; have _h2 := _lo0_7 _ hg; have _h3 := hiov _ hg; omega))
      have _f_47 := (((od.ch0 _cw_33).ch0 _cw_34).ch _cw_35 (fun i hi => by have _h1 := List.mem_singleton.1 hi; omega))
      refine W_loop (σ := Nat × Value) (fun ⟨k, rv⟩ => [(1, (.slice _A_cl cl.length _C_cl)), (2, (.pointer (some ⟨_b2, 0, none⟩))), (4, (.slice none 0 0)), (5, (.int .i64 0)), (6, (.slice Akv (vs).length Ckv)), (7, (.slice Aov ((rfn cl aN i).2).length Cov)), (8, (.int .i64 ((i : Nat) : Int))), (9, (.int .i64 _y21)), (10, (.pointer (some ⟨_b10, 0, none⟩))), (16, (.slice _A_cl cl.length _C_cl)), (17, (.int .i64 ((cl.length : Nat) : Int))), (18, (.int .i64 ((i : Nat) : Int))), (19, (.bool (decide (((i : Nat) : Int) < ((cl.length : Nat) : Int))))), (24, (.bool (decide (_y21 < 0)))), (34, (.slice _A33 _ys33.length _C33)), (35, (.int .i64 ((_ys33.length : Nat) : Int))), (36, (.int .i64 ((k : Nat) : Int)))]) (fun ⟨k, rv⟩ wx => Ch [] w wx ∧ _w_35.heap.size ≤ wx.heap.size ∧ (k ≤ _ys33.length) ∧ Ls ics 1 wx LL_cl w.heap.size (.slice _A_cl cl.length _C_cl) cl ∧ Blk wx _b2 28 [(.int .i64 aS), (.slice _A_aA aA.length _C_aA), (.slice _A_saN saN.length _C_saN)] ∧ Ls Sv.cs 1 wx LL_saN w.heap.size (.slice _A_saN saN.length _C_saN) saN ∧ Rd ics 1 wx LR_aN w.heap.size saN aN ∧ Ol Sv.cs 32 1 wx (.slice Akv (vs).length Ckv) vs ∧ Ol ics 3 1 wx (.slice Aov ((rfn cl aN i).2).length Cov) ((rfn cl aN i).2) ∧ Ls ics 1 wx LR_aN w.heap.size (.slice _A33 _ys33.length _C33) _ys33 ∧ Od ics 3 1 wx _w_6.heap.size _wr_13.heap.size vs ((rfn cl aN i).1) ∧ Ol ics 3 1 wx rv (keyP cl aN i k) ∧ Lo _wr_13.heap.size rv ∧ Blk wx _b10 32 [rv] ∧ (_b10 ∉ bl rv)) (fun ⟨k, rv⟩ => _ys33.length - k) (0, (.slice _Av29 ([_y21]).length _Cv29)) (Sub.cons rfl (Sub.cons rfl (Sub.cons rfl (Sub.cons rfl (Sub.cons rfl (Sub.cons rfl (Sub.cons rfl (Sub.cons rfl (Sub.cons rfl (Sub.cons rfl (Sub.cons rfl (Sub.cons rfl (Sub.cons rfl (Sub.cons rfl (Sub.cons rfl (Sub.cons rfl (Sub.cons rfl (Sub.nil _)))))))))))))))))) ⟨E, (Nat.le_refl _), (by omega), _f_44, _f_39, _f_40, _f_41, _f_45, _f_46, _fs33, _f_47, _oi_43, _lo29, _m_36, (fun hm => by have _h1 := _lo29 _ hm; have _h2 := _hiv29 _ hm; omega)⟩ ?_
      rintro ⟨k, rv⟩ _wr_48 ⟨E, _zz1, _hk, _F1_0, _F1_1, _F1_3, _F1_4, _F1_5, _F1_6, _F1_7, _F1_8, _o1_10, _lo1_10, _m1_10, _nb1_10⟩
      have _E1h := E
      have _E1hz := _E1h.size
      have _F1_1z := _F1_1.lt
      obtain ⟨Arv, Crv, erv⟩ := _o1_10.val
      subst erv
      have lrv := _o1_10.len
      have hirv := _o1_10.lt
      refine W_seq fun _K_49 _hK_49 => ?_
      refine W_region ?_
      refine WL_step rfl rfl (r_lss rfl rfl) ?_
      refine WL_nil ?_
      refine thn_nrm (_hK_49 _ _ ?_)
      clear _hK_49
      refine W_seq fun _K_50 _hK_50 => ?_
      refine W_cond rfl (fun _h37 => ?_) (fun _h37 => ?_)
      · have _kb_51 := _h37
        have _h37 := bt_d _h37
        refine W_skip ?_
        refine thn_nrm (_hK_50 _ _ ?_)
        clear _hK_50
        refine W_seq fun _K_52 _hK_52 => ?_
        refine W_block ?_
        refine W_seq fun _K_53 _hK_53 => ?_
        refine W_region ?_
        refine WL_s rfl rfl ?_
        refine (s_index _F1_7 ics_len el32 sz3 rfl rfl rfl (by omega) fun _p38 _y38 _hy38 _a38 => ?_)
        have f38 := fits_el hv.2 _hys33 _hy38
        refine WL_step rfl rfl (r_loadAt0 _a38 agg3 rfl rfl) ?_
        refine WL_step rfl rfl (r_assign rfl) ?_
        refine WL_nil ?_
        refine thn_nrm (_hK_53 _ _ ?_)
        clear _hK_53
        refine W_seq fun _K_54 _hK_54 => ?_
        refine W_seq fun _K_55 _hK_55 => ?_
        refine W_region ?_
        refine WL_step rfl rfl (r_move rfl) ?_
        refine WL_step rfl rfl (r_geq rfl rfl) ?_
        refine WL_nil ?_
        refine thn_nrm (_hK_55 _ _ ?_)
        clear _hK_55
        refine W_cond rfl (fun _h41 => ?_) (fun _h41 => ?_)
        · have _kb_56 := _h41
          have _h41 := bt_d _h41
          refine W_region ?_
          refine WL_step rfl rfl (r_move rfl) ?_
          refine WL_step rfl rfl (r_move rfl) ?_
          refine WL_s rfl rfl ?_
          refine (s_index (j := _y38.toNat) _F1_0 ics_len el32 sz3 rfl rfl (by omega) (by omega) fun _p44 _y44 _hy44 _a44 => ?_)
          refine WL_step rfl rfl (r_loadAt0 _a44 agg3 rfl rfl) ?_
          refine WL_step rfl rfl (r_assign rfl) ?_
          refine WL_nil ?_
          refine thn_nrm (_hK_54 _ _ ?_)
          clear _hK_54
          refine W_region ?_
          refine WL_step rfl rfl (r_loadAt0 _m1_10.at_ agg32 rfl rfl) ?_
          refine WL_step rfl rfl (r_move rfl) ?_
          refine WL_s rfl rfl ?_
          refine s_buildSlice (cs := ics) (parts := [(0, .tmp 47)]) (0 : Int) [_y44] el32 sz3 zr3 ics_len (by decide) rfl rfl rfl (by decide) (by decide) rfl fun _v48 _w_57 _q48 _lo48 _cw_57 => ?_
          have _cw_57z := _cw_57.size
          have E := E.trans _cw_57
          obtain ⟨_Av48, _Cv48, _ev48⟩ := _q48.val
          subst _ev48
          have _lv48 := _q48.len
          have _hiv48 := _q48.lt
          refine WL_s rfl rfl ?_
          have _f_59 := (_o1_10.ch0 _cw_57)
          refine s_append (cs := ics) el32 sz3 by3 zr3 rfl (by decide) ics_one _f_59 _q48.ls rfl rfl (by have _h9 := keyp_len (C := cl) (N := aN) (s := i) (k := k); simp only [List.length_singleton]; omega) (by have _h9 := keyp_len (C := cl) (N := aN) (s := i) (k := k); simp only [List.length_singleton]; omega) _lo1_10 (by omega) fun _v49 _w_58 _q49 _lo49 _ap49 _cw_58 => ?_
          have _cw_58z := _cw_58.size
          have E := E.step _cw_58 (fun i hi => .inl (by have _h1 := _lo1_10 _ hi; omega))
          obtain ⟨_Av49, _Cv49, _ev49⟩ := _q49.val
          subst _ev49
          have _lv49 := _q49.len
          have _hiv49 := _q49.lt
          refine WL_s rfl rfl ?_
          have _f_60 := ((_m1_10.ch0 _cw_57).ch _cw_58 (fun hm => by exact _nb1_10 (by first | exact hm | exact _h0 ▸ hm)))
          refine s_store1 (off := 0) _f_60 sz32 rfl rfl rfl rfl fun _w_61 _m_62 _cw_61 => ?_
          have _cw_61z := _cw_61.size
          have E := E.step _cw_61 (fun i hi => .inl (by have _h1 := List.mem_singleton.1 hi; omega))
          replace _m_62 : Blk _w_61 _b10 32 [(.slice _Av49 ((keyP cl aN i k ++ [_y44])).length _Cv49)] := _m_62
          refine WL_nil ?_
          refine inB_nrm ?_
          refine thn_nrm (_hK_52 _ _ ?_)
          clear _hK_52
          refine W_region ?_
          refine WL_step rfl rfl (r_add (by omega) rfl rfl) ?_
          refine WL_step rfl rfl (r_move rfl) ?_
          refine WL_nil ?_
          have _f_64 := (_q49.ch _cw_61 (fun g hg hm => by have _h0 := List.mem_singleton.1 hm; rcases _ap49 with ea | ea; (rw [ea] at hg; exact _nb1_10 (by first | exact hg | exact _h0 ▸ hg)); (rw [ea] at hg; have _z1 := List.mem_singleton.1 hg; omega)))
          have _on_63 : Ol ics 3 1 _w_61 (.slice _Av49 ((keyP cl aN i k ++ [_y44])).length _Cv49) (keyP cl aN i (k + 1)) := by
            have hx := _f_64
            first | exact hx.eq (keyp_m _hys33 _hy38 (by omega) (by omega)) | exact hx.eq (keyp_y _hys33 _hy38 (by omega) _hy44)
          have _f_65 := (((_F1_0.ch0 _cw_57).ch _cw_58 (fun i hi => by have _h1 := _lo1_10 _ hi; omega)).ch _cw_61 (fun i hi => by have _h1 := List.mem_singleton.1 hi; omega))
          have _f_66 := (((_F1_1.ch0 _cw_57).ch _cw_58 (fun hm => by have _h1 := _lo1_10 _ hm; have _h2 := hirv _ hm; omega)).ch _cw_61 (fun hm => by have _h1 := List.mem_singleton.1 hm; omega))
          have _f_67 := (((_F1_3.ch0 _cw_57).ch _cw_58 (fun i hi => by have _h1 := _lo1_10 _ hi; omega)).ch _cw_61 (fun i hi => by have _h1 := List.mem_singleton.1 hi; omega))
          have _f_68 := (((_F1_4.ch0 _cw_57).ch _cw_58 (fun i hi => by have _h1 := _lo1_10 _ hi; omega)).ch _cw_61 (fun i hi => by have _h1 := List.mem_singleton.1 hi; omega))
          have _f_69 := (((_F1_5.ch0 _cw_57).ch _cw_58 (fun g hg hm => by have _h1 := _lo1_10 _ hm; have _h2 := hirv _ hm; have _h3 := _lo0_6 _ hg; have _h4 := hikv _ hg; omega)).ch _cw_61 (fun g hg hm => by have _h0 := List.mem_singleton.1 hm; have _h2 := _lo0_6 _ hg; have _h3 := hikv _ hg; omega))
          have _f_70 := (((_F1_6.ch0 _cw_57).ch _cw_58 (fun g hg hm => by have _h1 := _lo1_10 _ hm; have _h2 := hirv _ hm; have _h3 := _lo0_7 _ hg; have _h4 := hiov _ hg; omega)).ch _cw_61 (fun g hg hm => by have _h0 := List.mem_singleton.1 hm; have _h2 := _lo0_7 _ hg; have _h3 := hiov _ hg; omega))
          have _f_71 := (((_F1_7.ch0 _cw_57).ch _cw_58 (fun i hi => by have _h1 := _lo1_10 _ hi; omega)).ch _cw_61 (fun i hi => by have _h1 := List.mem_singleton.1 hi; omega))
          have _f_72 := (((_F1_8.ch0 _cw_57).ch _cw_58 (fun i hm => by have _h1 := _lo1_10 _ hm; have _h2 := hirv _ hm; omega)).ch _cw_61 (fun i hi => by have _h1 := List.mem_singleton.1 hi; omega))
          exact thn_nrm (Exists.intro ((k + 1), (.slice _Av49 ((keyP cl aN i k ++ [_y44])).length _Cv49)) ⟨⟨E, (by omega), (by omega), _f_65, _f_66, _f_67, _f_68, _f_69, _f_70, _f_71, _f_72, _on_63, (Lo.down _lo49 (by omega)), _m_62, (fun hm => by rcases _ap49 with ea | ea; (rw [ea] at hm; exact _nb1_10 (by first | exact hm | exact _h0 ▸ hm)); (rw [ea] at hm; have _z1 := List.mem_singleton.1 hm; omega))⟩, Sub.cons rfl (Sub.cons rfl (Sub.cons rfl (Sub.cons rfl (Sub.cons rfl (Sub.cons rfl (Sub.cons rfl (Sub.cons rfl (Sub.cons rfl (Sub.cons rfl (Sub.cons rfl (Sub.cons rfl (Sub.cons rfl (Sub.cons rfl (Sub.cons rfl (Sub.cons rfl (Sub.cons rfl (Sub.nil _))))))))))))))))), (by first | omega | (dsimp only; omega))⟩)
        · have _kb_56 := _h41
          have _h41 := bf_d _h41
          refine W_skip ?_
          refine thn_nrm (_hK_54 _ _ ?_)
          clear _hK_54
          refine W_region ?_
          refine WL_step rfl rfl (r_loadAt0 _m1_10.at_ agg32 rfl rfl) ?_
          refine WL_step rfl rfl (r_move rfl) ?_
          refine WL_s rfl rfl ?_
          refine s_buildSlice (cs := ics) (parts := [(0, .tmp 47)]) (0 : Int) [_y38] el32 sz3 zr3 ics_len (by decide) rfl rfl rfl (by decide) (by decide) rfl fun _v48 _w_73 _q48 _lo48 _cw_73 => ?_
          have _cw_73z := _cw_73.size
          have E := E.trans _cw_73
          obtain ⟨_Av48, _Cv48, _ev48⟩ := _q48.val
          subst _ev48
          have _lv48 := _q48.len
          have _hiv48 := _q48.lt
          refine WL_s rfl rfl ?_
          have _f_75 := (_o1_10.ch0 _cw_73)
          refine s_append (cs := ics) el32 sz3 by3 zr3 rfl (by decide) ics_one _f_75 _q48.ls rfl rfl (by have _h9 := keyp_len (C := cl) (N := aN) (s := i) (k := k); simp only [List.length_singleton]; omega) (by have _h9 := keyp_len (C := cl) (N := aN) (s := i) (k := k); simp only [List.length_singleton]; omega) _lo1_10 (by omega) fun _v49 _w_74 _q49 _lo49 _ap49 _cw_74 => ?_
          have _cw_74z := _cw_74.size
          have E := E.step _cw_74 (fun i hi => .inl (by have _h1 := _lo1_10 _ hi; omega))
          obtain ⟨_Av49, _Cv49, _ev49⟩ := _q49.val
          subst _ev49
          have _lv49 := _q49.len
          have _hiv49 := _q49.lt
          refine WL_s rfl rfl ?_
          have _f_76 := ((_m1_10.ch0 _cw_73).ch _cw_74 (fun hm => by exact _nb1_10 (by first | exact hm | exact _h0 ▸ hm)))
          refine s_store1 (off := 0) _f_76 sz32 rfl rfl rfl rfl fun _w_77 _m_78 _cw_77 => ?_
          have _cw_77z := _cw_77.size
          have E := E.step _cw_77 (fun i hi => .inl (by have _h1 := List.mem_singleton.1 hi; omega))
          replace _m_78 : Blk _w_77 _b10 32 [(.slice _Av49 ((keyP cl aN i k ++ [_y38])).length _Cv49)] := _m_78
          refine WL_nil ?_
          refine inB_nrm ?_
          refine thn_nrm (_hK_52 _ _ ?_)
          clear _hK_52
          refine W_region ?_
          refine WL_step rfl rfl (r_add (by omega) rfl rfl) ?_
          refine WL_step rfl rfl (r_move rfl) ?_
          refine WL_nil ?_
          have _f_80 := (_q49.ch _cw_77 (fun g hg hm => by have _h0 := List.mem_singleton.1 hm; rcases _ap49 with ea | ea; (rw [ea] at hg; exact _nb1_10 (by first | exact hg | exact _h0 ▸ hg)); (rw [ea] at hg; have _z1 := List.mem_singleton.1 hg; omega)))
          have _on_79 : Ol ics 3 1 _w_77 (.slice _Av49 ((keyP cl aN i k ++ [_y38])).length _Cv49) (keyP cl aN i (k + 1)) := by
            have hx := _f_80
            first | exact hx.eq (keyp_m _hys33 _hy38 (by omega) (by omega)) | exact hx.eq (keyp_y _hys33 _hy38 (by omega) _hy44)
          have _f_81 := (((_F1_0.ch0 _cw_73).ch _cw_74 (fun i hi => by have _h1 := _lo1_10 _ hi; omega)).ch _cw_77 (fun i hi => by have _h1 := List.mem_singleton.1 hi; omega))
          have _f_82 := (((_F1_1.ch0 _cw_73).ch _cw_74 (fun hm => by have _h1 := _lo1_10 _ hm; have _h2 := hirv _ hm; omega)).ch _cw_77 (fun hm => by have _h1 := List.mem_singleton.1 hm; omega))
          have _f_83 := (((_F1_3.ch0 _cw_73).ch _cw_74 (fun i hi => by have _h1 := _lo1_10 _ hi; omega)).ch _cw_77 (fun i hi => by have _h1 := List.mem_singleton.1 hi; omega))
          have _f_84 := (((_F1_4.ch0 _cw_73).ch _cw_74 (fun i hi => by have _h1 := _lo1_10 _ hi; omega)).ch _cw_77 (fun i hi => by have _h1 := List.mem_singleton.1 hi; omega))
          have _f_85 := (((_F1_5.ch0 _cw_73).ch _cw_74 (fun g hg hm => by have _h1 := _lo1_10 _ hm; have _h2 := hirv _ hm; have _h3 := _lo0_6 _ hg; have _h4 := hikv _ hg; omega)).ch _cw_77 (fun g hg hm => by have _h0 := List.mem_singleton.1 hm; have _h2 := _lo0_6 _ hg; have _h3 := hikv _ hg; omega))
          have _f_86 := (((_F1_6.ch0 _cw_73).ch _cw_74 (fun g hg hm => by have _h1 := _lo1_10 _ hm; have _h2 := hirv _ hm; have _h3 := _lo0_7 _ hg; have _h4 := hiov _ hg; omega)).ch _cw_77 (fun g hg hm => by have _h0 := List.mem_singleton.1 hm; have _h2 := _lo0_7 _ hg; have _h3 := hiov _ hg; omega))
          have _f_87 := (((_F1_7.ch0 _cw_73).ch _cw_74 (fun i hi => by have _h1 := _lo1_10 _ hi; omega)).ch _cw_77 (fun i hi => by have _h1 := List.mem_singleton.1 hi; omega))
          have _f_88 := (((_F1_8.ch0 _cw_73).ch _cw_74 (fun i hm => by have _h1 := _lo1_10 _ hm; have _h2 := hirv _ hm; omega)).ch _cw_77 (fun i hi => by have _h1 := List.mem_singleton.1 hi; omega))
          exact thn_nrm (Exists.intro ((k + 1), (.slice _Av49 ((keyP cl aN i k ++ [_y38])).length _Cv49)) ⟨⟨E, (by omega), (by omega), _f_81, _f_82, _f_83, _f_84, _f_85, _f_86, _f_87, _f_88, _on_79, (Lo.down _lo49 (by omega)), _m_78, (fun hm => by rcases _ap49 with ea | ea; (rw [ea] at hm; exact _nb1_10 (by first | exact hm | exact _h0 ▸ hm)); (rw [ea] at hm; have _z1 := List.mem_singleton.1 hm; omega))⟩, Sub.cons rfl (Sub.cons rfl (Sub.cons rfl (Sub.cons rfl (Sub.cons rfl (Sub.cons rfl (Sub.cons rfl (Sub.cons rfl (Sub.cons rfl (Sub.cons rfl (Sub.cons rfl (Sub.cons rfl (Sub.cons rfl (Sub.cons rfl (Sub.cons rfl (Sub.cons rfl (Sub.cons rfl (Sub.nil _))))))))))))))))), (by first | omega | (dsimp only; omega))⟩)
      · have _kb_51 := _h37
        have _h37 := bf_d _h37
        refine W_exit (thn_exit (thn_exit (inB_hit ?_)))
        refine thn_nrm (_hK_37 _ _ ?_)
        clear _hK_37
        refine W_seq fun _K_89 _hK_89 => ?_
        refine W_region ?_
        refine WL_step rfl rfl (r_move rfl) ?_
        refine WL_step rfl rfl (r_makeFunc (xs := []) (ys := [.tmp 10]) rfl rfl) ?_
        refine WL_s rfl rfl ?_
        refine Step.call (r_call (xs := [.tmp 51, .tmp 52]) fk110 rfl) (c_slices_IndexFunc_int_int _F1_5.ls _F1_8.rd _o1_10.ls _m1_10 (rfn_nodup _ _ _)) fun _v53 _w_90 _q53 => ?_
        obtain ⟨rfl, _cw_90⟩ := _q53
        have _cw_90z := _cw_90.size
        have E := E.trans _cw_90
        refine WL_step rfl rfl (r_assign rfl) ?_
        refine WL_nil ?_
        refine thn_nrm (_hK_89 _ _ ?_)
        clear _hK_89
        refine W_seq fun _K_91 _hK_91 => ?_
        refine W_seq fun _K_92 _hK_92 => ?_
        refine W_region ?_
        refine WL_step rfl rfl (r_move rfl) ?_
        refine WL_step rfl rfl (r_lss rfl rfl) ?_
        refine WL_nil ?_
        refine thn_nrm (_hK_92 _ _ ?_)
        clear _hK_92
        refine W_cond rfl (fun _h55 => ?_) (fun _h55 => ?_)
        · have _kb_93 := _h55
          have _h55 := bt_d _h55
          refine W_seq fun _K_94 _hK_94 => ?_
          refine W_region ?_
          refine WL_step rfl rfl (r_move rfl) ?_
          refine WL_step rfl rfl (r_len (by rw [el23]; rfl) rfl) ?_
          refine WL_step rfl rfl (r_assign rfl) ?_
          refine WL_nil ?_
          refine thn_nrm (_hK_94 _ _ ?_)
          clear _hK_94
          refine W_region ?_
          refine WL_step rfl rfl (r_move rfl) ?_
          have _f_95 := (_m1_10.ch0 _cw_90)
          refine WL_step rfl rfl (r_loadAt0 _f_95.at_ agg32 rfl rfl) ?_
          refine WL_s rfl rfl ?_
          refine s_buildSlice (cs := Sv.cs) (parts := [(0, .tmp 59)]) (⟨none, 0, 0⟩ : Sv) [(⟨Arv, (keyP cl aN i k).length, Crv⟩ : Sv)] el23 sz32 zr32 Sv.len (by decide) rfl rfl rfl (by decide) (by decide) rfl fun _v60 _w_96 _q60 _lo60 _cw_96 => ?_
          have _cw_96z := _cw_96.size
          have E := E.trans _cw_96
          obtain ⟨_Av60, _Cv60, _ev60⟩ := _q60.val
          subst _ev60
          have _lv60 := _q60.len
          have _hiv60 := _q60.lt
          have _f_97 := ((_o1_10.ch0 _cw_90).ch0 _cw_96)
          have _rd60 : Rd ics 1 _w_96 0 _w_96.heap.size ([(⟨Arv, (keyP cl aN i k).length, Crv⟩ : Sv)]) ([keyP cl aN i k]) := (Rd.cons (_f_97.ls.up (by omega) (by omega)) Rd.nil)
          refine WL_s rfl rfl ?_
          have _f_99 := ((_F1_5.ch0 _cw_90).ch0 _cw_96)
          refine s_append (cs := Sv.cs) el23 sz32 by32 zr32 rfl (by decide) Sv.one _f_99 _q60.ls rfl rfl (by simp only [List.length_singleton]; omega) (by simp only [List.length_singleton]; omega) _lo0_6 (by omega) fun _v61 _w_98 _q61 _lo61 _ap61 _cw_98 => ?_
          have _cw_98z := _cw_98.size
          have E := E.step _cw_98 (fun i hi => .inl (by have _h1 := _lo0_6 _ hi; omega))
          obtain ⟨_Av61, _Cv61, _ev61⟩ := _q61.val
          subst _ev61
          have _lv61 := _q61.len
          have _hiv61 := _q61.lt
          refine WL_step rfl rfl (r_assign rfl) ?_
          refine WL_nil ?_
          refine thn_nrm (_hK_91 _ _ ?_)
          clear _hK_91
          refine W_region ?_
          refine WL_step rfl rfl (r_move rfl) ?_
          refine WL_step rfl rfl (r_move rfl) ?_
          refine WL_s rfl rfl ?_
          refine s_buildSlice (cs := ics) (parts := [(0, .tmp 63)]) (0 : Int) [((vs.length : Nat) : Int)] el32 sz3 zr3 ics_len (by decide) rfl rfl rfl (by decide) (by decide) rfl fun _v64 _w_100 _q64 _lo64 _cw_100 => ?_
          have _cw_100z := _cw_100.size
          have E := E.trans _cw_100
          obtain ⟨_Av64, _Cv64, _ev64⟩ := _q64.val
          subst _ev64
          have _lv64 := _q64.len
          have _hiv64 := _q64.lt
          refine WL_s rfl rfl ?_
          have _f_102 := ((((_F1_6.ch0 _cw_90).ch0 _cw_96).ch _cw_98 (fun g hg hm => by exact _djl0_7_o6 _ hg hm)).ch0 _cw_100)
          refine s_append (cs := ics) el32 sz3 by3 zr3 rfl (by decide) ics_one _f_102 _q64.ls rfl rfl (by simp only [List.length_singleton]; omega) (by simp only [List.length_singleton]; omega) _lo0_7 (by omega) fun _v65 _w_101 _q65 _lo65 _ap65 _cw_101 => ?_
          have _cw_101z := _cw_101.size
          have E := E.step _cw_101 (fun i hi => .inl (by have _h1 := _lo0_7 _ hi; omega))
          obtain ⟨_Av65, _Cv65, _ev65⟩ := _q65.val
          subst _ev65
          have _lv65 := _q65.len
          have _hiv65 := _q65.lt
          refine WL_step rfl rfl (r_assign rfl) ?_
          refine WL_nil ?_
          refine inB_nrm ?_
          refine thn_nrm (_hK_17 _ _ ?_)
          clear _hK_17
          refine W_region ?_
          refine WL_step rfl rfl (r_add (by omega) rfl rfl) ?_
          refine WL_step rfl rfl (r_move rfl) ?_
          refine WL_nil ?_
          have _f_104 := ((_q61.ch0 _cw_100).ch _cw_101 (fun g hg hm => by rcases _ap61 with ea | ea; (rw [ea] at hg; exact _djl0_7_o6 _ hm hg); (rw [ea] at hg; have _z1 := List.mem_singleton.1 hg; have _h1 := _lo0_7 _ hm; have _h2 := hiov _ hm; omega)))
          have _on_103 : Ol Sv.cs 32 1 _w_101 (.slice _Av61 ((vs ++ [(⟨Arv, (keyP cl aN i k).length, Crv⟩ : Sv)])).length _Cv61) ((vs ++ [(⟨Arv, (keyP cl aN i k).length, Crv⟩ : Sv)])) := by
            have hx := _f_104
            exact hx
          have _on_105 : Ol ics 3 1 _w_101 (.slice _Av65 (((rfn cl aN i).2 ++ [((vs.length : Nat) : Int)])).length _Cv65) ((rfn cl aN (i + 1)).2) := by
            have hx := _q65
            first | exact hx.eq (rfn2_n _hy21 (by omega)) | exact hx.eq (rf2_o _hy21 (by omega) (keyp_end (k := k) _hys33 (by omega)) rfl (by omega)) | exact hx.eq (rf2_new _hy21 (by omega) (keyp_end (k := k) _hys33 (by omega)) rfl (by omega) hvl)
          have _f_106 := (((((_F1_8.ch0 _cw_90).ch0 _cw_96).chS _cw_98 _spl0_6).ch0 _cw_100).chS _cw_101 _spl0_7)
          have _f_107 := (((_f_97.ch _cw_98 (fun g hg hm => by have _h1 := _lo0_6 _ hm; have _h2 := hikv _ hm; have _h3 := _lo1_10 _ hg; have _h4 := hirv _ hg; omega)).ch0 _cw_100).ch _cw_101 (fun g hg hm => by have _h1 := _lo0_7 _ hm; have _h2 := hiov _ hm; have _h3 := _lo1_10 _ hg; have _h4 := hirv _ hg; omega))
          have _f_108 := (((((_F1_1.ch0 _cw_90).ch0 _cw_96).ch _cw_98 (fun hm => by have _h1 := _lo0_6 _ hm; have _h2 := hikv _ hm; omega)).ch0 _cw_100).ch _cw_101 (fun hm => by have _h1 := _lo0_7 _ hm; have _h2 := hiov _ hm; omega))
          exact thn_nrm (Exists.intro ((i + 1), (vs ++ [(⟨Arv, (keyP cl aN i k).length, Crv⟩ : Sv)]), (.slice _Av61 ((vs ++ [(⟨Arv, (keyP cl aN i k).length, Crv⟩ : Sv)])).length _Cv61), (.slice _Av65 (((rfn cl aN i).2 ++ [((vs.length : Nat) : Int)])).length _Cv65)) ⟨⟨E, (by omega), (by omega), (by rw [rf1_new _hy21 (by omega) (keyp_end (k := k) _hys33 (by omega)) rfl (by omega), List.length_append, List.length_append, hvl]; rfl), _f_108, _on_103, (Lo.down _lo61 (by omega)), _on_105, (Lo.down _lo65 (by omega)), (by rw [rf1_new _hy21 (by omega) (keyp_end (k := k) _hys33 (by omega)) rfl (by omega)]; exact Od.snoc _f_106 _f_107 (Lo.down _lo1_10 (by omega)) (fun g hg => by have _h1 := hirv g hg; omega) (by omega) (by omega)), (fun g hm hg => by rcases _ap65 with ea | ea; (rw [ea] at hm; rcases _ap61 with ea | ea; (rw [ea] at hg; exact _djl0_7_o6 _ hm hg); (have z2hg := _hiv61 _ hg; rw [ea] at hg; have _z1 := List.mem_singleton.1 hg; have _h1 := _lo0_7 _ hm; have _h2 := hiov _ hm; omega)); (have z2hm := _hiv65 _ hm; rw [ea] at hm; have _z1 := List.mem_singleton.1 hm; rcases _ap61 with ea | ea; (rw [ea] at hg; have _h3 := _lo0_6 _ hg; have _h4 := hikv _ hg; omega); (have z2hg := _hiv61 _ hg; rw [ea] at hg; have _z1 := List.mem_singleton.1 hg; omega))), (fun u hu g hg hm => by rcases List.mem_append.1 hu with hu | hu; (rcases _ap61 with ea | ea; (rw [ea] at hm; exact _spl0_6 _ hu _ hg hm); (rw [ea] at hm; have _z1 := List.mem_singleton.1 hm; have _h9 := _f_106.rng hu hg; omega)); (rw [List.mem_singleton.1 hu] at hg; rcases _ap61 with ea | ea; (rw [ea] at hm; have _h1 := _lo0_6 _ hm; have _h2 := hikv _ hm; have _h3 := _lo1_10 _ hg; have _h4 := hirv _ hg; omega); (rw [ea] at hm; have _z1 := List.mem_singleton.1 hm; have _h3 := _lo1_10 _ hg; have _h4 := hirv _ hg; omega))), (fun u hu g hg hm => by rcases List.mem_append.1 hu with hu | hu; (rcases _ap65 with ea | ea; (rw [ea] at hm; exact _spl0_7 _ hu _ hg hm); (rw [ea] at hm; have _z1 := List.mem_singleton.1 hm; have _h9 := _f_106.rng hu hg; omega)); (rw [List.mem_singleton.1 hu] at hg; rcases _ap65 with ea | ea; (rw [ea] at hm; have _h1 := _lo0_7 _ hm; have _h2 := hiov _ hm; have _h3 := _lo1_10 _ hg; have _h4 := hirv _ hg; omega); (rw [ea] at hm; have _z1 := List.mem_singleton.1 hm; have _h3 := _lo1_10 _ hg; have _h4 := hirv _ hg; omega)))⟩, Sub.cons rfl (Sub.cons rfl (Sub.cons rfl (Sub.cons rfl (Sub.cons rfl (Sub.cons rfl (Sub.cons rfl (Sub.cons rfl (Sub.cons rfl (Sub.nil _))))))))), (by first | omega | (dsimp only; omega))⟩)
        · have _kb_93 := _h55
          have _h55 := bf_d _h55
          refine W_skip ?_
          refine thn_nrm (_hK_91 _ _ ?_)
          clear _hK_91
          refine W_region ?_
          refine WL_step rfl rfl (r_move rfl) ?_
          refine WL_step rfl rfl (r_move rfl) ?_
          refine WL_s rfl rfl ?_
          refine s_buildSlice (cs := ics) (parts := [(0, .tmp 63)]) (0 : Int) [ixL ((rfn cl aN i).1) (keyP cl aN i k)] el32 sz3 zr3 ics_len (by decide) rfl rfl rfl (by decide) (by decide) rfl fun _v64 _w_109 _q64 _lo64 _cw_109 => ?_
          have _cw_109z := _cw_109.size
          have E := E.trans _cw_109
          obtain ⟨_Av64, _Cv64, _ev64⟩ := _q64.val
          subst _ev64
          have _lv64 := _q64.len
          have _hiv64 := _q64.lt
          refine WL_s rfl rfl ?_
          have _f_111 := ((_F1_6.ch0 _cw_90).ch0 _cw_109)
          refine s_append (cs := ics) el32 sz3 by3 zr3 rfl (by decide) ics_one _f_111 _q64.ls rfl rfl (by simp only [List.length_singleton]; omega) (by simp only [List.length_singleton]; omega) _lo0_7 (by omega) fun _v65 _w_110 _q65 _lo65 _ap65 _cw_110 => ?_
          have _cw_110z := _cw_110.size
          have E := E.step _cw_110 (fun i hi => .inl (by have _h1 := _lo0_7 _ hi; omega))
          obtain ⟨_Av65, _Cv65, _ev65⟩ := _q65.val
          subst _ev65
          have _lv65 := _q65.len
          have _hiv65 := _q65.lt
          refine WL_step rfl rfl (r_assign rfl) ?_
          refine WL_nil ?_
          refine inB_nrm ?_
          refine thn_nrm (_hK_17 _ _ ?_)
          clear _hK_17
          refine W_region ?_
          refine WL_step rfl rfl (r_add (by omega) rfl rfl) ?_
          refine WL_step rfl rfl (r_move rfl) ?_
          refine WL_nil ?_
          have _f_113 := (((_F1_5.ch0 _cw_90).ch0 _cw_109).ch _cw_110 (fun g hg hm => by exact _djl0_7_o6 _ hm hg))
          have _on_112 : Ol Sv.cs 32 1 _w_110 (.slice Akv (vs).length Ckv) (vs) := by
            have hx := _f_113
            exact hx
          have _on_114 : Ol ics 3 1 _w_110 (.slice _Av65 (((rfn cl aN i).2 ++ [ixL ((rfn cl aN i).1) (keyP cl aN i k)])).length _Cv65) ((rfn cl aN (i + 1)).2) := by
            have hx := _q65
            first | exact hx.eq (rfn2_n _hy21 (by omega)) | exact hx.eq (rf2_o _hy21 (by omega) (keyp_end (k := k) _hys33 (by omega)) rfl (by omega)) | exact hx.eq (rf2_new _hy21 (by omega) (keyp_end (k := k) _hys33 (by omega)) rfl (by omega) hvl)
          have _f_115 := (((_F1_8.ch0 _cw_90).ch0 _cw_109).chS _cw_110 _spl0_7)
          have _f_116 := (((_F1_1.ch0 _cw_90).ch0 _cw_109).ch _cw_110 (fun hm => by have _h1 := _lo0_7 _ hm; have _h2 := hiov _ hm; omega))
          exact thn_nrm (Exists.intro ((i + 1), vs, (.slice Akv (vs).length Ckv), (.slice _Av65 (((rfn cl aN i).2 ++ [ixL ((rfn cl aN i).1) (keyP cl aN i k)])).length _Cv65)) ⟨⟨E, (by omega), (by omega), (by first | (rw [rfn1_n _hy21 (by omega)]; exact hvl) | (rw [rf1_o _hy21 (by omega) (keyp_end (k := k) _hys33 (by omega)) rfl (by omega)]; exact hvl)), _f_116, _on_112, (Lo.down _lo0_6 (by omega)), _on_114, (Lo.down _lo65 (by omega)), (by first | (rw [rfn1_n _hy21 (by omega)]; exact _f_115.up (Nat.le_refl _) (by omega)) | (rw [rf1_o _hy21 (by omega) (keyp_end (k := k) _hys33 (by omega)) rfl (by omega)]; exact _f_115.up (Nat.le_refl _) (by omega))), (fun g hm hg => by rcases _ap65 with ea | ea; (rw [ea] at hm; exact _djl0_7_o6 _ hm hg); (have z2hm := _hiv65 _ hm; rw [ea] at hm; have _z1 := List.mem_singleton.1 hm; have _h3 := _lo0_6 _ hg; have _h4 := hikv _ hg; omega)), (fun u hu g hg hm => by exact _spl0_6 _ hu _ hg hm), (fun u hu g hg hm => by rcases _ap65 with ea | ea; (rw [ea] at hm; exact _spl0_7 _ hu _ hg hm); (rw [ea] at hm; have _z1 := List.mem_singleton.1 hm; have _h9 := _f_115.rng hu hg; omega))⟩, Sub.cons rfl (Sub.cons rfl (Sub.cons rfl (Sub.cons rfl (Sub.cons rfl (Sub.cons rfl (Sub.cons rfl (Sub.cons rfl (Sub.cons rfl (Sub.nil _))))))))), (by first | omega | (dsimp only; omega))⟩)
  · have _kb_16 := _h19
    have _h19 := bf_d _h19
    refine W_exit (thn_exit (thn_exit (inB_hit ?_)))
    refine thn_nrm (_hK_7 _ _ ?_)
    clear _hK_7
    refine W_seq fun _K_117 _hK_117 => ?_
    refine W_region ?_
    refine WL_step rfl rfl (r_move rfl) ?_
    refine WL_step rfl rfl (r_move rfl) ?_
    refine WL_step rfl rfl (r_len (by rw [el23]; rfl) rfl) ?_
    refine WL_step rfl rfl (r_assign rfl) ?_
    refine WL_step rfl rfl (r_assign rfl) ?_
    refine WL_nil ?_
    refine thn_nrm (_hK_117 _ _ ?_)
    clear _hK_117
    refine W_ret ?_
    clear _hK_15
    have _o_118 : Ol ics 3 1 _wr_13 (.slice Aov ((rfn cl aN i).2).length Cov) ((rfn cl aN aA.length).2) := by
      have hx := _o0_7
      exact hx.eq (by rw [show i = aA.length by omega])
    exact ret_intro [_, _] ⟨rfl, ⟨rfl, trivial⟩⟩ ⟨(.slice Aov ((rfn cl aN i).2).length Cov), (congrArg (fun zq => (Value.tuple #[(.slice Aov ((rfn cl aN i).2).length Cov), .int .i64 zq])) (by rw [hvl, show i = aA.length by omega])), _o_118, (Lo.down _lo0_7 (by omega)), E⟩

/-- impl.Automaton).classes -/
theorem c_impl_Automaton_classes {w : World} (aS : Int) {LL_aA _B_aA : Nat} {_v_aA : Value} {aA : List Bool} (_h_aA : Ls bcs 1 w LL_aA _B_aA _v_aA aA) {LL_saN _B_saN : Nat} {_v_saN : Value} {saN : List Sv} (_h_saN : Ls Sv.cs 1 w LL_saN _B_saN _v_saN saN) {LR_aN BB_aN : Nat} {aN : List (List Int)} (_rd_aN : Rd ics 1 w LR_aN BB_aN saN aN) (hv : ValidA aS aA aN)  :
    Ctr Try.prog 94 #[(.agg #[(.int .i64 aS), _v_aA, _v_saN])] w (fun v w' => Ol ics 3 1 w' v (clsF aN (clsI aA (liveL aA aN) aA.length) aA.length) ∧ Lo w.heap.size v ∧ Ch [] w w') := by
  obtain ⟨_A_aA, _C_aA, _e1_aA⟩ := _h_aA.val
  subst _e1_aA
  have _l_aA := _h_aA.len
  have _h_aA := _h_aA.here (by decide)
  obtain ⟨_A_saN, _C_saN, _e1_saN⟩ := _h_saN.val
  subst _e1_saN
  have _l_saN := _h_saN.len
  have _h_saN := _h_saN.here (by decide)
  have _rd_aN := _rd_aN.here (by decide)
  have _rl_aN := _rd_aN.1
  have E := Ch.refl [] w
  have hv2 := hv.2.2.1; have hv1 := hv.1; have _e11 := liveL_len aA aN
  refine Ctr_of_W (N := 49) (vs0 := [(.agg #[(.int .i64 aS), (.slice _A_aA aA.length _C_aA), (.slice _A_saN saN.length _C_saN)])]) Try.func94 rfl rfl rfl ?_
  refine W_seq fun _K_1 _hK_1 => ?_
  refine W_region ?_
  refine WL_s rfl rfl ?_
  refine s_box rfl fun _b1 _w_2 _m1 _cw_2 _e1 => ?_
  have _cw_2z := _cw_2.size
  have E := E.trans _cw_2
  have _z1 := _m1.lt
  replace _m1 : Blk _w_2 _b1 28 [(.int .i64 aS), (.slice _A_aA aA.length _C_aA), (.slice _A_saN saN.length _C_saN)] := _m1
  refine WL_step rfl rfl (r_assign rfl) ?_
  refine WL_nil ?_
  refine thn_nrm (_hK_1 _ _ ?_)
  clear _hK_1
  refine W_seq fun _K_3 _hK_3 => ?_
  refine W_region ?_
  refine WL_s rfl rfl ?_
  refine s_buildSlice0 (k := 1) ics el32 sz3 fun _v9 _w_4 _q9 _lo9 _cw_4 => ?_
  have _cw_4z := _cw_4.size
  have E := E.trans _cw_4
  obtain ⟨_Av9, _Cv9, _ev9⟩ := _q9.val
  subst _ev9
  have _lv9 := _q9.len
  have _hiv9 := _q9.lt
  refine WL_step rfl rfl (r_assign rfl) ?_
  refine WL_nil ?_
  refine thn_nrm (_hK_3 _ _ ?_)
  clear _hK_3
  refine W_seq fun _K_5 _hK_5 => ?_
  refine W_seq fun _K_6 _hK_6 => ?_
  refine W_region ?_
  have _f_7 := (_m1.ch0 _cw_4)
  refine WL_step rfl rfl (r_loadAtA0 _f_7.at_ agg28 sz28 rfl) ?_
  refine WL_s rfl rfl ?_
  have _f_8 := ((_h_aA.ch0 _cw_2).ch0 _cw_4)
  have _f_9 := ((_rd_aN.ch0 _cw_2).ch0 _cw_4)
  have _f_10 := ((_h_saN.ch0 _cw_2).ch0 _cw_4)
  refine Step.call (r_call (xs := [.tmp 10]) fk54 rfl) (c_impl_Automaton_live _ _f_8 _f_10 _f_9 hv) fun _v11 _w_11 _q11 => ?_
  obtain ⟨_q11, _lo11, _cw_11⟩ := _q11
  have _cw_11z := _cw_11.size
  have E := E.trans _cw_11
  obtain ⟨_Av11, _Cv11, _ev11⟩ := _q11.val
  subst _ev11
  have _lv11 := _q11.len
  have _hiv11 := _q11.lt
  refine WL_step rfl rfl (r_len (by rw [el22]; rfl) rfl) ?_
  refine WL_step rfl rfl (r_move rfl) ?_
  refine WL_nil ?_
  refine thn_nrm (_hK_6 _ _ ?_)
  clear _hK_6
  refine W_block ?_
  have _f_12 := (_q9.ch0 _cw_11)
  have _oi_13 : Ol ics 3 1 _w_11 (.slice _Av9 (([] : List Int)).length _Cv9) (clsI aA (liveL aA aN) 0) := by
    have hx := _f_12
    exact hx
  have _f_14 := (_f_7.ch0 _cw_11)
  have _f_15 := (_f_8.ch0 _cw_11)
  have _f_16 := (_f_10.ch0 _cw_11)
  have _f_17 := (_f_9.ch0 _cw_11)
  refine W_loop (σ := Nat × Value) (fun ⟨q, iv⟩ => [(1, (.pointer (some ⟨_b1, 0, none⟩))), (2, (.slice none 0 0)), (3, iv), (11, (.slice _Av11 (liveL aA aN).length _Cv11)), (12, (.int .i64 (((liveL aA aN).length : Nat) : Int))), (13, (.int .i64 ((q : Nat) : Int)))]) (fun ⟨q, iv⟩ wx => Ch [] w wx ∧ _w_11.heap.size ≤ wx.heap.size ∧ (q ≤ aA.length) ∧ Blk wx _b1 28 [(.int .i64 aS), (.slice _A_aA aA.length _C_aA), (.slice _A_saN saN.length _C_saN)] ∧ Ls bcs 1 wx LL_aA w.heap.size (.slice _A_aA aA.length _C_aA) aA ∧ Ls Sv.cs 1 wx LL_saN w.heap.size (.slice _A_saN saN.length _C_saN) saN ∧ Rd ics 1 wx LR_aN w.heap.size saN aN ∧ Ol bcs 4 1 wx (.slice _Av11 (liveL aA aN).length _Cv11) (liveL aA aN) ∧ Ol ics 3 1 wx iv (clsI aA (liveL aA aN) q) ∧ Lo _w_2.heap.size iv ∧ (∀ g ∈ bl iv, g ∉ bl (.slice _Av11 (liveL aA aN).length _Cv11))) (fun ⟨q, iv⟩ => aA.length - q) (0, (.slice _Av9 (([] : List Int)).length _Cv9)) (Sub.cons rfl (Sub.cons rfl (Sub.cons rfl (Sub.cons rfl (Sub.cons rfl (Sub.cons rfl (Sub.nil _))))))) ⟨E, (Nat.le_refl _), (by omega), _f_14, _f_15, _f_16, _f_17, _q11, _oi_13, _lo9, (fun g hm hg => by have _h1 := _lo9 _ hm; have _h2 := _hiv9 _ hm; have _h3 := _lo11 _ hg; have _h4 := _hiv11 _ hg; omega)⟩ ?_
  rintro ⟨q, iv⟩ _wr_18 ⟨E, _zz0, hq, _F0_0, _F0_1, _F0_2, _F0_3, _F0_4, _o0_3, _lo0_3, _djl0_3_11⟩
  have _E0h := E
  have _E0hz := _E0h.size
  have _F0_0z := _F0_0.lt
  obtain ⟨Aiv, Civ, eiv⟩ := _o0_3.val
  subst eiv
  have liv := _o0_3.len
  have hiiv := _o0_3.lt
  refine W_seq fun _K_19 _hK_19 => ?_
  refine W_region ?_
  refine WL_step rfl rfl (r_lss rfl rfl) ?_
  refine WL_nil ?_
  refine thn_nrm (_hK_19 _ _ ?_)
  clear _hK_19
  refine W_seq fun _K_20 _hK_20 => ?_
  refine W_cond rfl (fun _h14 => ?_) (fun _h14 => ?_)
  · have _kb_21 := _h14
    have _h14 := bt_d _h14
    refine W_skip ?_
    refine thn_nrm (_hK_20 _ _ ?_)
    clear _hK_20
    refine W_seq fun _K_22 _hK_22 => ?_
    refine W_block ?_
    refine W_seq fun _K_23 _hK_23 => ?_
    refine W_region ?_
    refine WL_step rfl rfl (r_move rfl) ?_
    refine WL_s rfl rfl ?_
    refine (s_index _F0_4.ls bcs_len el22 sz4 rfl rfl rfl (by omega) fun _p16 _y16 _hy16 _a16 => ?_)
    refine WL_step rfl rfl (r_loadAt0 _a16 agg4 rfl rfl) ?_
    refine WL_step rfl rfl (r_assign rfl) ?_
    refine WL_step rfl rfl (r_assign rfl) ?_
    refine WL_nil ?_
    refine thn_nrm (_hK_23 _ _ ?_)
    clear _hK_23
    refine W_block ?_
    refine W_seq fun _K_24 _hK_24 => ?_
    refine W_region ?_
    refine WL_step rfl rfl (r_move rfl) ?_
    refine WL_step rfl rfl (r_not rfl) ?_
    refine WL_step rfl rfl (r_assign rfl) ?_
    refine WL_nil ?_
    refine thn_nrm (_hK_24 _ _ ?_)
    clear _hK_24
    refine W_cond rfl (fun _h21 => ?_) (fun _h21 => ?_)
    · have _kb_25 := _h21
      refine W_region ?_
      refine WL_step rfl rfl (r_move rfl) ?_
      refine WL_s rfl rfl ?_
      refine s_buildSlice (cs := ics) (parts := [(0, .const (Go.Value.int Go.IntKind.i64 (-1)))]) (0 : Int) [(-1)] el32 sz3 zr3 ics_len (by decide) rfl rfl rfl (by decide) (by decide) rfl fun _v25 _w_26 _q25 _lo25 _cw_26 => ?_
      have _cw_26z := _cw_26.size
      have E := E.trans _cw_26
      obtain ⟨_Av25, _Cv25, _ev25⟩ := _q25.val
      subst _ev25
      have _lv25 := _q25.len
      have _hiv25 := _q25.lt
      refine WL_s rfl rfl ?_
      have _f_28 := (_o0_3.ch0 _cw_26)
      refine s_append (cs := ics) el32 sz3 by3 zr3 rfl (by decide) ics_one _f_28 _q25.ls rfl rfl (by have _h9 := clsi_len aA (liveL aA aN) q; simp only [List.length_singleton]; omega) (by have _h9 := clsi_len aA (liveL aA aN) q; simp only [List.length_singleton]; omega) _lo0_3 (by omega) fun _v26 _w_27 _q26 _lo26 _ap26 _cw_27 => ?_
      have _cw_27z := _cw_27.size
      have E := E.step _cw_27 (fun i hi => .inl (by have _h1 := _lo0_3 _ hi; omega))
      obtain ⟨_Av26, _Cv26, _ev26⟩ := _q26.val
      subst _ev26
      have _lv26 := _q26.len
      have _hiv26 := _q26.lt
      refine WL_step rfl rfl (r_assign rfl) ?_
      refine WL_nil ?_
      refine inB_nrm ?_
      refine inB_nrm ?_
      refine thn_nrm (_hK_22 _ _ ?_)
      clear _hK_22
      refine W_region ?_
      refine WL_step rfl rfl (r_add (by omega) rfl rfl) ?_
      refine WL_step rfl rfl (r_move rfl) ?_
      refine WL_nil ?_
      have _on_29 : Ol ics 3 1 _w_27 (.slice _Av26 ((clsI aA (liveL aA aN) q ++ [(-1)])).length _Cv26) (clsI aA (liveL aA aN) (q + 1)) := by
        have hx := _q26
        exact hx.eq (clsi_step2 _hy16 (by first | (left; simp_all; done) | (right; exact ⟨by simp_all, _, _hy31, by simp_all⟩)))
      have _f_30 := ((_F0_0.ch0 _cw_26).ch _cw_27 (fun hm => by have _h1 := _lo0_3 _ hm; have _h2 := hiiv _ hm; omega))
      have _f_31 := ((_F0_1.ch0 _cw_26).ch _cw_27 (fun i hi => by have _h1 := _lo0_3 _ hi; omega))
      have _f_32 := ((_F0_2.ch0 _cw_26).ch _cw_27 (fun i hi => by have _h1 := _lo0_3 _ hi; omega))
      have _f_33 := ((_F0_3.ch0 _cw_26).ch _cw_27 (fun i hi => by have _h1 := _lo0_3 _ hi; omega))
      have _f_34 := ((_F0_4.ch0 _cw_26).ch _cw_27 (fun g hg hm => by exact _djl0_3_11 _ hm hg))
      exact thn_nrm (Exists.intro ((q + 1), (.slice _Av26 ((clsI aA (liveL aA aN) q ++ [(-1)])).length _Cv26)) ⟨⟨E, (by omega), (by omega), _f_30, _f_31, _f_32, _f_33, _f_34, _on_29, (Lo.down _lo26 (by omega)), (fun g hm hg => by rcases _ap26 with ea | ea; (rw [ea] at hm; exact _djl0_3_11 _ hm hg); (have z2hm := _hiv26 _ hm; rw [ea] at hm; have _z1 := List.mem_singleton.1 hm; have _h3 := _lo11 _ hg; have _h4 := _hiv11 _ hg; omega))⟩, Sub.cons rfl (Sub.cons rfl (Sub.cons rfl (Sub.cons rfl (Sub.cons rfl (Sub.cons rfl (Sub.nil _)))))), (by first | omega | (dsimp only; omega))⟩)
    · have _kb_25 := _h21
      refine W_seq fun _K_35 _hK_35 => ?_
      refine W_region ?_
      refine WL_step rfl rfl (r_fieldAddr fa28_1 rfl) ?_
      refine WL_step rfl rfl (r_loadAt _F0_0.at_ agg22 rfl rfl) ?_
      refine WL_step rfl rfl (r_move rfl) ?_
      refine WL_s rfl rfl ?_
      refine (s_index _F0_1 bcs_len el22 sz4 rfl rfl rfl (by omega) fun _p31 _y31 _hy31 _a31 => ?_)
      refine WL_step rfl rfl (r_loadAt0 _a31 agg4 rfl rfl) ?_
      refine WL_step rfl rfl (r_assign rfl) ?_
      refine WL_nil ?_
      refine thn_nrm (_hK_35 _ _ ?_)
      clear _hK_35
      refine W_cond rfl (fun _h27 => ?_) (fun _h27 => ?_)
      · have _kb_36 := _h27
        refine W_region ?_
        refine WL_step rfl rfl (r_move rfl) ?_
        refine WL_s rfl rfl ?_
        refine s_buildSlice (cs := ics) (parts := [(0, .const (Go.Value.int Go.IntKind.i64 1))]) (0 : Int) [1] el32 sz3 zr3 ics_len (by decide) rfl rfl rfl (by decide) (by decide) rfl fun _v34 _w_37 _q34 _lo34 _cw_37 => ?_
        have _cw_37z := _cw_37.size
        have E := E.trans _cw_37
        obtain ⟨_Av34, _Cv34, _ev34⟩ := _q34.val
        subst _ev34
        have _lv34 := _q34.len
        have _hiv34 := _q34.lt
        refine WL_s rfl rfl ?_
        have _f_39 := (_o0_3.ch0 _cw_37)
        refine s_append (cs := ics) el32 sz3 by3 zr3 rfl (by decide) ics_one _f_39 _q34.ls rfl rfl (by have _h9 := clsi_len aA (liveL aA aN) q; simp only [List.length_singleton]; omega) (by have _h9 := clsi_len aA (liveL aA aN) q; simp only [List.length_singleton]; omega) _lo0_3 (by omega) fun _v35 _w_38 _q35 _lo35 _ap35 _cw_38 => ?_
        have _cw_38z := _cw_38.size
        have E := E.step _cw_38 (fun i hi => .inl (by have _h1 := _lo0_3 _ hi; omega))
        obtain ⟨_Av35, _Cv35, _ev35⟩ := _q35.val
        subst _ev35
        have _lv35 := _q35.len
        have _hiv35 := _q35.lt
        refine WL_step rfl rfl (r_assign rfl) ?_
        refine WL_nil ?_
        refine inB_nrm ?_
        refine inB_nrm ?_
        refine thn_nrm (_hK_22 _ _ ?_)
        clear _hK_22
        refine W_region ?_
        refine WL_step rfl rfl (r_add (by omega) rfl rfl) ?_
        refine WL_step rfl rfl (r_move rfl) ?_
        refine WL_nil ?_
        have _on_40 : Ol ics 3 1 _w_38 (.slice _Av35 ((clsI aA (liveL aA aN) q ++ [1])).length _Cv35) (clsI aA (liveL aA aN) (q + 1)) := by
          have hx := _q35
          exact hx.eq (clsi_step2 _hy16 (by first | (left; simp_all; done) | (right; exact ⟨by simp_all, _, _hy31, by simp_all⟩)))
        have _f_41 := ((_F0_0.ch0 _cw_37).ch _cw_38 (fun hm => by have _h1 := _lo0_3 _ hm; have _h2 := hiiv _ hm; omega))
        have _f_42 := ((_F0_1.ch0 _cw_37).ch _cw_38 (fun i hi => by have _h1 := _lo0_3 _ hi; omega))
        have _f_43 := ((_F0_2.ch0 _cw_37).ch _cw_38 (fun i hi => by have _h1 := _lo0_3 _ hi; omega))
        have _f_44 := ((_F0_3.ch0 _cw_37).ch _cw_38 (fun i hi => by have _h1 := _lo0_3 _ hi; omega))
        have _f_45 := ((_F0_4.ch0 _cw_37).ch _cw_38 (fun g hg hm => by exact _djl0_3_11 _ hm hg))
        exact thn_nrm (Exists.intro ((q + 1), (.slice _Av35 ((clsI aA (liveL aA aN) q ++ [1])).length _Cv35)) ⟨⟨E, (by omega), (by omega), _f_41, _f_42, _f_43, _f_44, _f_45, _on_40, (Lo.down _lo35 (by omega)), (fun g hm hg => by rcases _ap35 with ea | ea; (rw [ea] at hm; exact _djl0_3_11 _ hm hg); (have z2hm := _hiv35 _ hm; rw [ea] at hm; have _z1 := List.mem_singleton.1 hm; have _h3 := _lo11 _ hg; have _h4 := _hiv11 _ hg; omega))⟩, Sub.cons rfl (Sub.cons rfl (Sub.cons rfl (Sub.cons rfl (Sub.cons rfl (Sub.cons rfl (Sub.nil _)))))), (by first | omega | (dsimp only; omega))⟩)
      · have _kb_36 := _h27
        refine W_region ?_
        refine WL_step rfl rfl (r_move rfl) ?_
        refine WL_s rfl rfl ?_
        refine s_buildSlice (cs := ics) (parts := [(0, .const (Go.Value.int Go.IntKind.i64 0))]) (0 : Int) [0] el32 sz3 zr3 ics_len (by decide) rfl rfl rfl (by decide) (by decide) rfl fun _v19 _w_46 _q19 _lo19 _cw_46 => ?_
        have _cw_46z := _cw_46.size
        have E := E.trans _cw_46
        obtain ⟨_Av19, _Cv19, _ev19⟩ := _q19.val
        subst _ev19
        have _lv19 := _q19.len
        have _hiv19 := _q19.lt
        refine WL_s rfl rfl ?_
        have _f_48 := (_o0_3.ch0 _cw_46)
        refine s_append (cs := ics) el32 sz3 by3 zr3 rfl (by decide) ics_one _f_48 _q19.ls rfl rfl (by have _h9 := clsi_len aA (liveL aA aN) q; simp only [List.length_singleton]; omega) (by have _h9 := clsi_len aA (liveL aA aN) q; simp only [List.length_singleton]; omega) _lo0_3 (by omega) fun _v20 _w_47 _q20 _lo20 _ap20 _cw_47 => ?_
        have _cw_47z := _cw_47.size
        have E := E.step _cw_47 (fun i hi => .inl (by have _h1 := _lo0_3 _ hi; omega))
        obtain ⟨_Av20, _Cv20, _ev20⟩ := _q20.val
        subst _ev20
        have _lv20 := _q20.len
        have _hiv20 := _q20.lt
        refine WL_step rfl rfl (r_assign rfl) ?_
        refine WL_nil ?_
        refine inB_nrm ?_
        refine inB_nrm ?_
        refine thn_nrm (_hK_22 _ _ ?_)
        clear _hK_22
        refine W_region ?_
        refine WL_step rfl rfl (r_add (by omega) rfl rfl) ?_
        refine WL_step rfl rfl (r_move rfl) ?_
        refine WL_nil ?_
        have _on_49 : Ol ics 3 1 _w_47 (.slice _Av20 ((clsI aA (liveL aA aN) q ++ [0])).length _Cv20) (clsI aA (liveL aA aN) (q + 1)) := by
          have hx := _q20
          exact hx.eq (clsi_step2 _hy16 (by first | (left; simp_all; done) | (right; exact ⟨by simp_all, _, _hy31, by simp_all⟩)))
        have _f_50 := ((_F0_0.ch0 _cw_46).ch _cw_47 (fun hm => by have _h1 := _lo0_3 _ hm; have _h2 := hiiv _ hm; omega))
        have _f_51 := ((_F0_1.ch0 _cw_46).ch _cw_47 (fun i hi => by have _h1 := _lo0_3 _ hi; omega))
        have _f_52 := ((_F0_2.ch0 _cw_46).ch _cw_47 (fun i hi => by have _h1 := _lo0_3 _ hi; omega))
        have _f_53 := ((_F0_3.ch0 _cw_46).ch _cw_47 (fun i hi => by have _h1 := _lo0_3 _ hi; omega))
        have _f_54 := ((_F0_4.ch0 _cw_46).ch _cw_47 (fun g hg hm => by exact _djl0_3_11 _ hm hg))
        exact thn_nrm (Exists.intro ((q + 1), (.slice _Av20 ((clsI aA (liveL aA aN) q ++ [0])).length _Cv20)) ⟨⟨E, (by omega), (by omega), _f_50, _f_51, _f_52, _f_53, _f_54, _on_49, (Lo.down _lo20 (by omega)), (fun g hm hg => by rcases _ap20 with ea | ea; (rw [ea] at hm; exact _djl0_3_11 _ hm hg); (have z2hm := _hiv20 _ hm; rw [ea] at hm; have _z1 := List.mem_singleton.1 hm; have _h3 := _lo11 _ hg; have _h4 := _hiv11 _ hg; omega))⟩, Sub.cons rfl (Sub.cons rfl (Sub.cons rfl (Sub.cons rfl (Sub.cons rfl (Sub.cons rfl (Sub.nil _)))))), (by first | omega | (dsimp only; omega))⟩)
  · have _kb_21 := _h14
    have _h14 := bf_d _h14
    refine W_exit (thn_exit (thn_exit (inB_hit ?_)))
    refine thn_nrm (_hK_5 _ _ ?_)
    clear _hK_5
    refine W_seq fun _K_55 _hK_55 => ?_
    refine W_region ?_
    refine WL_step rfl rfl (r_assign rfl) ?_
    refine WL_nil ?_
    refine thn_nrm (_hK_55 _ _ ?_)
    clear _hK_55
    refine W_block ?_
    have _oi_56 : Ol ics 3 1 _wr_18 (.slice Aiv (clsI aA (liveL aA aN) q).length Civ) (clsD aN (clsI aA (liveL aA aN) aA.length) aA.length 0) := by
      have hx := _o0_3
      exact hx.eq (by rw [show q = aA.length by omega]; rfl)
    refine W_loop (σ := Nat × Int × Value) (fun ⟨j9, _m9, cv⟩ => [(1, (.pointer (some ⟨_b1, 0, none⟩))), (3, cv), (6, (.int .i64 _m9))]) (fun ⟨j9, _m9, cv⟩ wx => Ch [] w wx ∧ _wr_18.heap.size ≤ wx.heap.size ∧ (_m9 = prevC aN (clsI aA (liveL aA aN) aA.length) aA.length j9) ∧ Blk wx _b1 28 [(.int .i64 aS), (.slice _A_aA aA.length _C_aA), (.slice _A_saN saN.length _C_saN)] ∧ Ls bcs 1 wx LL_aA w.heap.size (.slice _A_aA aA.length _C_aA) aA ∧ Ls Sv.cs 1 wx LL_saN w.heap.size (.slice _A_saN saN.length _C_saN) saN ∧ Rd ics 1 wx LR_aN w.heap.size saN aN ∧ Ol ics 3 1 wx cv (clsD aN (clsI aA (liveL aA aN) aA.length) aA.length j9) ∧ Lo _w_2.heap.size cv) (fun ⟨j9, _m9, cv⟩ => (aA.length + 1 - _m9).toNat) (0, -1, (.slice Aiv (clsI aA (liveL aA aN) q).length Civ)) (Sub.cons rfl (Sub.cons rfl (Sub.cons rfl (Sub.nil _)))) ⟨E, (Nat.le_refl _), rfl, _F0_0, _F0_1, _F0_2, _F0_3, _oi_56, _lo0_3⟩ ?_
    rintro ⟨j9, _m9, cv⟩ _wr_57 ⟨E, _zz1, hn9, _F1_0, _F1_1, _F1_2, _F1_3, _o1_3, _lo1_3⟩
    have _E1h := E
    have _E1hz := _E1h.size
    have _F1_0z := _F1_0.lt
    obtain ⟨Acv, Ccv, ecv⟩ := _o1_3.val
    subst ecv
    have lcv := _o1_3.len
    have hicv := _o1_3.lt
    have d9 := clsi_len aA (liveL aA aN) aA.length
    have cl9 := clsD_len (N := aN) d9 j9
    have pm9 := prev_mono aN (clsI aA (liveL aA aN) aA.length) aA.length j9
    have pl9 := cls_le (N := aN) (D0 := (clsI aA (liveL aA aN) aA.length)) (n := aA.length) j9
    refine W_block ?_
    refine W_seq fun _K_58 _hK_58 => ?_
    refine W_region ?_
    refine WL_step rfl rfl (r_loadAtA0 _F1_0.at_ agg28 sz28 rfl) ?_
    refine WL_step rfl rfl (r_move rfl) ?_
    refine WL_s rfl rfl ?_
    refine Step.call (r_call (xs := [.tmp 38, .tmp 39]) fk109 rfl) (c_impl_Automaton_refine _ _F1_1 _F1_2 _F1_3 _o1_3.ls hv cl9) fun _v40 _w_59 _q40 => ?_
    obtain ⟨u40_0, rfl, _q_u40_0, _lo_u40_0, _cw_59⟩ := _q40
    have _cw_59z := _cw_59.size
    have E := E.trans _cw_59
    obtain ⟨Au40_0, Cu40_0, eu40_0⟩ := _q_u40_0.val
    subst eu40_0
    have lu40_0 := _q_u40_0.len
    have _hiu40_0 := _q_u40_0.lt
    refine WL_step rfl rfl (r_move rfl) ?_
    refine WL_step rfl rfl (r_extract rfl rfl) ?_
    refine WL_step rfl rfl (r_extract rfl rfl) ?_
    refine WL_step rfl rfl (r_assign rfl) ?_
    refine WL_step rfl rfl (r_assign rfl) ?_
    refine WL_nil ?_
    refine thn_nrm (_hK_58 _ _ ?_)
    clear _hK_58
    refine W_seq fun _K_60 _hK_60 => ?_
    refine W_seq fun _K_61 _hK_61 => ?_
    refine W_region ?_
    refine WL_step rfl rfl (r_move rfl) ?_
    refine WL_step rfl rfl (r_move rfl) ?_
    refine WL_step rfl rfl (r_eql rfl rfl) ?_
    refine WL_nil ?_
    refine thn_nrm (_hK_61 _ _ ?_)
    clear _hK_61
    refine W_cond rfl (fun _h45 => ?_) (fun _h45 => ?_)
    · have _kb_62 := _h45
      have _h45 := bt_d _h45
      refine W_seq fun _K_63 _hK_63 => ?_
      refine W_region ?_
      refine WL_step rfl rfl (r_move rfl) ?_
      refine WL_step rfl rfl (r_assign rfl) ?_
      refine WL_nil ?_
      refine thn_nrm (_hK_63 _ _ ?_)
      clear _hK_63
      refine W_ret (thn_ret (inB_ret (thn_ret (inB_ret ?_))))
      clear _hK_20 _hK_60
      have _o_64 : Ol ics 3 1 _w_59 (.slice Au40_0 ((rfn (clsD aN (clsI aA (liveL aA aN) aA.length) aA.length j9) aN aA.length).2).length Cu40_0) (clsF aN (clsI aA (liveL aA aN) aA.length) aA.length) := by
        have hx := _q_u40_0
        exact hx.eq (cls_ret d9 hn9 (by assumption))
      exact ret_intro [_] ⟨rfl, trivial⟩ ⟨_o_64, Lo.down _lo_u40_0 (by omega), E⟩
    · have _kb_62 := _h45
      have _h45 := bf_d _h45
      refine W_skip ?_
      refine thn_nrm (_hK_60 _ _ ?_)
      clear _hK_60
      refine W_region ?_
      refine WL_step rfl rfl (r_move rfl) ?_
      refine WL_step rfl rfl (r_move rfl) ?_
      refine WL_step rfl rfl (r_assign rfl) ?_
      refine WL_step rfl rfl (r_assign rfl) ?_
      refine WL_nil ?_
      refine inB_nrm ?_
      have _on_65 : Ol ics 3 1 _w_59 (.slice Au40_0 ((rfn (clsD aN (clsI aA (liveL aA aN) aA.length) aA.length j9) aN aA.length).2).length Cu40_0) (clsD aN (clsI aA (liveL aA aN) aA.length) aA.length (j9 + 1)) := by
        have hx := _q_u40_0
        exact hx
      have _f_66 := (_F1_0.ch0 _cw_59)
      have _f_67 := (_F1_1.ch0 _cw_59)
      have _f_68 := (_F1_2.ch0 _cw_59)
      have _f_69 := (_F1_3.ch0 _cw_59)
      exact thn_nrm (Exists.intro ((j9 + 1), (((rfn (clsD aN (clsI aA (liveL aA aN) aA.length) aA.length j9) aN aA.length).1.length : Nat) : Int), (.slice Au40_0 ((rfn (clsD aN (clsI aA (liveL aA aN) aA.length) aA.length j9) aN aA.length).2).length Cu40_0)) ⟨⟨E, (by omega), rfl, _f_66, _f_67, _f_68, _f_69, _on_65, (Lo.down _lo_u40_0 (by omega))⟩, Sub.cons rfl (Sub.cons rfl (Sub.cons rfl (Sub.nil _))), (by have pe9 : (rfn (clsD aN (clsI aA (liveL aA aN) aA.length) aA.length j9) aN aA.length).1.length = clsN aN (clsI aA (liveL aA aN) aA.length) aA.length j9 := rfl; dsimp only; omega)⟩)

/-- impl.StateClasses -/
theorem c_impl_StateClasses {w : World} (aS : Int) {LL_aA _B_aA : Nat} {_v_aA : Value} {aA : List Bool} (_h_aA : Ls bcs 1 w LL_aA _B_aA _v_aA aA) {LL_saN _B_saN : Nat} {_v_saN : Value} {saN : List Sv} (_h_saN : Ls Sv.cs 1 w LL_saN _B_saN _v_saN saN) {LR_aN BB_aN : Nat} {aN : List (List Int)} (_rd_aN : Rd ics 1 w LR_aN BB_aN saN aN) :
    Ctr Try.prog 46 #[(.agg #[(.int .i64 aS), _v_aA, _v_saN])] w (fun v w' => Ol ics 3 1 w' v (scR aS aA aN) ∧ Lo w.heap.size v ∧ Ch [] w w') := by
  obtain ⟨_A_aA, _C_aA, _e1_aA⟩ := _h_aA.val
  subst _e1_aA
  have _l_aA := _h_aA.len
  have _h_aA := _h_aA.here (by decide)
  obtain ⟨_A_saN, _C_saN, _e1_saN⟩ := _h_saN.val
  subst _e1_saN
  have _l_saN := _h_saN.len
  have _h_saN := _h_saN.here (by decide)
  have _rd_aN := _rd_aN.here (by decide)
  have _rl_aN := _rd_aN.1
  have E := Ch.refl [] w
  refine Ctr_of_W (N := 8) (vs0 := [(.agg #[(.int .i64 aS), (.slice _A_aA aA.length _C_aA), (.slice _A_saN saN.length _C_saN)])]) Try.func46 rfl rfl rfl ?_
  refine W_seq fun _K_1 _hK_1 => ?_
  refine W_region ?_
  refine WL_s rfl rfl ?_
  refine s_box rfl fun _b1 _w_2 _m1 _cw_2 _e1 => ?_
  have _cw_2z := _cw_2.size
  have E := E.trans _cw_2
  have _z1 := _m1.lt
  replace _m1 : Blk _w_2 _b1 28 [(.int .i64 aS), (.slice _A_aA aA.length _C_aA), (.slice _A_saN saN.length _C_saN)] := _m1
  refine WL_step rfl rfl (r_assign rfl) ?_
  refine WL_nil ?_
  refine thn_nrm (_hK_1 _ _ ?_)
  clear _hK_1
  refine W_seq fun _K_3 _hK_3 => ?_
  refine W_seq fun _K_4 _hK_4 => ?_
  refine W_region ?_
  refine WL_step rfl rfl (r_loadAtA0 _m1.at_ agg28 sz28 rfl) ?_
  refine WL_s rfl rfl ?_
  have _f_5 := (_h_aA.ch0 _cw_2)
  have _f_6 := (_rd_aN.ch0 _cw_2)
  have _f_7 := (_h_saN.ch0 _cw_2)
  refine Step.call (r_call (xs := [.tmp 3]) fk53 rfl) (c_impl_IsValidAutomaton _ _f_5 _f_7 _f_6 ) fun _v4 _w_8 _q4 => ?_
  obtain ⟨rfl, _cw_8⟩ := _q4
  have _cw_8z := _cw_8.size
  have E := E.trans _cw_8
  refine WL_step rfl rfl (r_not rfl) ?_
  refine WL_nil ?_
  refine thn_nrm (_hK_4 _ _ ?_)
  clear _hK_4
  refine W_cond rfl (fun _h5 => ?_) (fun _h5 => ?_)
  · have _kb_9 := _h5
    have _h5 := bf_t (bt_n _h5)
    refine W_seq fun _K_10 _hK_10 => ?_
    refine W_region ?_
    refine WL_step rfl rfl (r_assign rfl) ?_
    refine WL_nil ?_
    refine thn_nrm (_hK_10 _ _ ?_)
    clear _hK_10
    refine W_ret (thn_ret ?_)
    clear _hK_3
    have _o_11 : Ol ics 3 1 _w_8 (.slice none 0 0) (scR aS aA aN) := by
      have hx := (Ol.nil (cs := ics) (e := 3) (k := 1) _w_8)
      first | exact hx.eq (scR_n _h5) | exact hx.eq (scR_y _h5)
    exact ret_intro [_] ⟨rfl, trivial⟩ ⟨_o_11, Lo.nil _, E⟩
  · have _kb_9 := _h5
    have _h5 := bt_t (bf_n _h5)
    refine W_skip ?_
    refine thn_nrm (_hK_3 _ _ ?_)
    clear _hK_3
    refine W_seq fun _K_12 _hK_12 => ?_
    refine W_region ?_
    have _f_13 := (_m1.ch0 _cw_8)
    refine WL_step rfl rfl (r_loadAtA0 _f_13.at_ agg28 sz28 rfl) ?_
    refine WL_s rfl rfl ?_
    have _f_14 := (_f_5.ch0 _cw_8)
    have _f_15 := (_f_6.ch0 _cw_8)
    have _f_16 := (_f_7.ch0 _cw_8)
    refine Step.call (r_call (xs := [.tmp 6]) fk94 rfl) (c_impl_Automaton_classes _ _f_14 _f_16 _f_15 _h5) fun _v7 _w_17 _q7 => ?_
    obtain ⟨_q7, _lo7, _cw_17⟩ := _q7
    have _cw_17z := _cw_17.size
    have E := E.trans _cw_17
    obtain ⟨_Av7, _Cv7, _ev7⟩ := _q7.val
    subst _ev7
    have _lv7 := _q7.len
    have _hiv7 := _q7.lt
    refine WL_step rfl rfl (r_assign rfl) ?_
    refine WL_nil ?_
    refine thn_nrm (_hK_12 _ _ ?_)
    clear _hK_12
    refine W_ret ?_
    have _o_18 : Ol ics 3 1 _w_17 (.slice _Av7 (clsF aN (clsI aA (liveL aA aN) aA.length) aA.length).length _Cv7) (scR aS aA aN) := by
      have hx := _q7
      first | exact hx.eq (scR_n _h5) | exact hx.eq (scR_y _h5)
    exact ret_intro [_] ⟨rfl, trivial⟩ ⟨_o_18, Lo.down _lo7 (by omega), E⟩

/-- spec.l12Key -/
theorem c_spec_l12Key {w : World} (aS : Int) {LL_aA _B_aA : Nat} {_v_aA : Value} {aA : List Bool} (_h_aA : Ls bcs 1 w LL_aA _B_aA _v_aA aA) {LL_saN _B_saN : Nat} {_v_saN : Value} {saN : List Sv} (_h_saN : Ls Sv.cs 1 w LL_saN _B_saN _v_saN saN) {LR_aN BB_aN : Nat} {aN : List (List Int)} (_rd_aN : Rd ics 1 w LR_aN BB_aN saN aN) {LL_cl _B_cl : Nat} {_v_cl : Value} {cl : List Int} (_h_cl : Ls ics 1 w LL_cl _B_cl _v_cl cl) (s : Int) (hv : ValidA aS aA aN) (hl : cl.length = aA.length) (hs : 0 ≤ s ∧ s < aA.length) :
    Ctr Try.prog 107 #[(.agg #[(.int .i64 aS), _v_aA, _v_saN]), _v_cl, (.int .i64 s)] w (fun v w' => Ol ics 3 1 w' v (keyC cl (aN.getD s.toNat []) (cl.getD s.toNat 0)) ∧ Lo w.heap.size v ∧ Ch [] w w') := by
  obtain ⟨_A_aA, _C_aA, _e1_aA⟩ := _h_aA.val
  subst _e1_aA
  have _l_aA := _h_aA.len
  have _h_aA := _h_aA.here (by decide)
  obtain ⟨_A_saN, _C_saN, _e1_saN⟩ := _h_saN.val
  subst _e1_saN
  have _l_saN := _h_saN.len
  have _h_saN := _h_saN.here (by decide)
  have _rd_aN := _rd_aN.here (by decide)
  have _rl_aN := _rd_aN.1
  obtain ⟨_A_cl, _C_cl, _e1_cl⟩ := _h_cl.val
  subst _e1_cl
  have _l_cl := _h_cl.len
  have _h_cl := _h_cl.here (by decide)
  have E := Ch.refl [] w
  have hv2 := hv.2.2.1; have hv1 := hv.1; obtain ⟨r9, hr9⟩ := get_some (xs := aN) (j := s.toNat) (by omega); have _e9 := (fits_row hv.2 hr9).1
  refine Ctr_of_W (N := 40) (vs0 := [(.agg #[(.int .i64 aS), (.slice _A_aA aA.length _C_aA), (.slice _A_saN saN.length _C_saN)]), (.slice _A_cl cl.length _C_cl), (.int .i64 s)]) Try.func107 rfl rfl rfl ?_
  refine W_seq fun _K_1 _hK_1 => ?_
  refine W_region ?_
  refine WL_s rfl rfl ?_
  refine s_box rfl fun _b3 _w_2 _m3 _cw_2 _e3 => ?_
  have _cw_2z := _cw_2.size
  have E := E.trans _cw_2
  have _z3 := _m3.lt
  replace _m3 : Blk _w_2 _b3 28 [(.int .i64 aS), (.slice _A_aA aA.length _C_aA), (.slice _A_saN saN.length _C_saN)] := _m3
  refine WL_step rfl rfl (r_assign rfl) ?_
  refine WL_nil ?_
  refine thn_nrm (_hK_1 _ _ ?_)
  clear _hK_1
  refine W_seq fun _K_3 _hK_3 => ?_
  refine W_region ?_
  refine WL_step rfl rfl (r_move rfl) ?_
  refine WL_step rfl rfl (r_move rfl) ?_
  refine WL_s rfl rfl ?_
  have _f_4 := (_h_cl.ch0 _cw_2)
  refine (s_index (j := s.toNat) _f_4 ics_len el32 sz3 rfl rfl (by omega) (by omega) fun _p12 _y12 _hy12 _a12 => ?_)
  refine WL_step rfl rfl (r_loadAt0 _a12 agg3 rfl rfl) ?_
  refine WL_s rfl rfl ?_
  refine s_buildSlice (cs := ics) (parts := [(0, .tmp 13)]) (0 : Int) [_y12] el32 sz3 zr3 ics_len (by decide) rfl rfl rfl (by decide) (by decide) rfl fun _v14 _w_5 _q14 _lo14 _cw_5 => ?_
  have _cw_5z := _cw_5.size
  have E := E.trans _cw_5
  obtain ⟨_Av14, _Cv14, _ev14⟩ := _q14.val
  subst _ev14
  have _lv14 := _q14.len
  have _hiv14 := _q14.lt
  refine WL_step rfl rfl (r_assign rfl) ?_
  refine WL_nil ?_
  refine thn_nrm (_hK_3 _ _ ?_)
  clear _hK_3
  refine W_seq fun _K_6 _hK_6 => ?_
  refine W_seq fun _K_7 _hK_7 => ?_
  refine W_region ?_
  refine WL_step rfl rfl (r_assign rfl) ?_
  refine WL_nil ?_
  refine thn_nrm (_hK_7 _ _ ?_)
  clear _hK_7
  refine W_block ?_
  have _oi_8 : Ol ics 3 1 _w_5 (.slice _Av14 ([_y12]).length _Cv14) (keyP cl aN s.toNat 0) := by
    have hx := _q14
    exact hx.eq (keyp_zero _hy12)
  have _f_9 := (_f_4.ch0 _cw_5)
  have _f_10 := (_m3.ch0 _cw_5)
  refine W_loop (σ := Nat × Value) (fun ⟨k, kv⟩ => [(1, (.slice _A_cl cl.length _C_cl)), (2, (.int .i64 s)), (3, (.pointer (some ⟨_b3, 0, none⟩))), (6, (.slice none 0 0)), (7, kv), (8, (.int .i64 ((k : Nat) : Int)))]) (fun ⟨k, kv⟩ wx => Ch [] w wx ∧ _w_5.heap.size ≤ wx.heap.size ∧ (k ≤ 9) ∧ Ls ics 1 wx LL_cl w.heap.size (.slice _A_cl cl.length _C_cl) cl ∧ Blk wx _b3 28 [(.int .i64 aS), (.slice _A_aA aA.length _C_aA), (.slice _A_saN saN.length _C_saN)] ∧ Ol ics 3 1 wx kv (keyP cl aN s.toNat k) ∧ Lo _w_2.heap.size kv) (fun ⟨k, kv⟩ => 9 - k) (0, (.slice _Av14 ([_y12]).length _Cv14)) (Sub.cons rfl (Sub.cons rfl (Sub.cons rfl (Sub.cons rfl (Sub.cons rfl (Sub.cons rfl (Sub.nil _))))))) ⟨E, (Nat.le_refl _), (by omega), _f_9, _f_10, _oi_8, _lo14⟩ ?_
  rintro ⟨k, kv⟩ _wr_11 ⟨E, _zz0, _hk, _F0_0, _F0_1, _o0_7, _lo0_7⟩
  have _E0h := E
  have _E0hz := _E0h.size
  have _F0_1z := _F0_1.lt
  obtain ⟨Akv, Ckv, ekv⟩ := _o0_7.val
  subst ekv
  have lkv := _o0_7.len
  have hikv := _o0_7.lt
  refine W_seq fun _K_12 _hK_12 => ?_
  refine W_seq fun _K_13 _hK_13 => ?_
  refine W_region ?_
  refine WL_step rfl rfl (r_move rfl) ?_
  refine WL_step rfl rfl (r_lss rfl rfl) ?_
  refine WL_nil ?_
  refine thn_nrm (_hK_13 _ _ ?_)
  clear _hK_13
  refine W_cond rfl (fun _h16 => ?_) (fun _h16 => ?_)
  · have _kb_14 := _h16
    have _h16 := bt_d _h16
    refine W_skip ?_
    refine thn_nrm (_hK_12 _ _ ?_)
    clear _hK_12
    refine W_seq fun _K_15 _hK_15 => ?_
    refine W_block ?_
    refine W_seq fun _K_16 _hK_16 => ?_
    refine W_region ?_
    refine WL_step rfl rfl (r_fieldAddr fa28_2 rfl) ?_
    refine WL_step rfl rfl (r_loadAt _F0_1.at_ agg23 rfl rfl) ?_
    refine WL_step rfl rfl (r_move rfl) ?_
    refine WL_s rfl rfl ?_
    have _f_17 := (_h_saN.ch0 _E0h)
    refine (s_index (j := s.toNat) _f_17 Sv.len el23 sz32 rfl rfl (by omega) (by omega) fun _p22 _y22 _hy22 _a22 => ?_)
    have _f_18 := (_rd_aN.ch0 _E0h)
    obtain ⟨_ys22, _hys22, _fs22⟩ := _f_18.get _hy22
    obtain ⟨_A22, _n22, _C22⟩ := _y22
    obtain rfl := _fs22.eqn
    have _l22 := _fs22.len
    replace _fs22 : Ls ics 1 _wr_11 LR_aN w.heap.size (.slice _A22 _ys22.length _C22) _ys22 := _fs22
    replace _a22 : At _wr_11 LL_saN w.heap.size _p22 ([(.slice _A22 _ys22.length _C22)]) := _a22
    have _e22 := (fits_row hv.2 _hys22).1
    refine WL_step rfl rfl (r_loadAt0 _a22 agg32 rfl rfl) ?_
    refine WL_step rfl rfl (r_move rfl) ?_
    refine WL_s rfl rfl ?_
    refine (s_index _fs22 ics_len el32 sz3 rfl rfl rfl (by omega) fun _p25 _y25 _hy25 _a25 => ?_)
    have f25 := fits_el hv.2 _hys22 _hy25
    refine WL_step rfl rfl (r_loadAt0 _a25 agg3 rfl rfl) ?_
    refine WL_step rfl rfl (r_assign rfl) ?_
    refine WL_nil ?_
    refine thn_nrm (_hK_16 _ _ ?_)
    clear _hK_16
    refine W_seq fun _K_19 _hK_19 => ?_
    refine W_region ?_
    refine WL_step rfl rfl (r_move rfl) ?_
    refine WL_step rfl rfl (r_lss rfl rfl) ?_
    refine WL_nil ?_
    refine thn_nrm (_hK_19 _ _ ?_)
    clear _hK_19
    refine W_cond rfl (fun _h28 => ?_) (fun _h28 => ?_)
    · have _kb_20 := _h28
      have _h28 := bt_d _h28
      refine W_region ?_
      refine WL_step rfl rfl (r_move rfl) ?_
      refine WL_s rfl rfl ?_
      refine s_buildSlice (cs := ics) (parts := [(0, .const (Go.Value.int Go.IntKind.i64 (-1)))]) (0 : Int) [(-1)] el32 sz3 zr3 ics_len (by decide) rfl rfl rfl (by decide) (by decide) rfl fun _v30 _w_21 _q30 _lo30 _cw_21 => ?_
      have _cw_21z := _cw_21.size
      have E := E.trans _cw_21
      obtain ⟨_Av30, _Cv30, _ev30⟩ := _q30.val
      subst _ev30
      have _lv30 := _q30.len
      have _hiv30 := _q30.lt
      refine WL_s rfl rfl ?_
      have _f_23 := (_o0_7.ch0 _cw_21)
      refine s_append (cs := ics) el32 sz3 by3 zr3 rfl (by decide) ics_one _f_23 _q30.ls rfl rfl (by have _h9 := keyp_len (C := cl) (N := aN) (s := s.toNat) (k := k); simp only [List.length_singleton]; omega) (by have _h9 := keyp_len (C := cl) (N := aN) (s := s.toNat) (k := k); simp only [List.length_singleton]; omega) _lo0_7 (by omega) fun _v31 _w_22 _q31 _lo31 _ap31 _cw_22 => ?_
      have _cw_22z := _cw_22.size
      have E := E.step _cw_22 (fun i hi => .inl (by have _h1 := _lo0_7 _ hi; omega))
      obtain ⟨_Av31, _Cv31, _ev31⟩ := _q31.val
      subst _ev31
      have _lv31 := _q31.len
      have _hiv31 := _q31.lt
      refine WL_step rfl rfl (r_assign rfl) ?_
      refine WL_nil ?_
      refine inB_nrm ?_
      refine thn_nrm (_hK_15 _ _ ?_)
      clear _hK_15
      refine W_region ?_
      refine WL_step rfl rfl (r_move rfl) ?_
      refine WL_step rfl rfl (r_add (by omega) rfl rfl) ?_
      refine WL_step rfl rfl (r_assign rfl) ?_
      refine WL_nil ?_
      have _on_24 : Ol ics 3 1 _w_22 (.slice _Av31 ((keyP cl aN s.toNat k ++ [(-1)])).length _Cv31) (keyP cl aN s.toNat (k + 1)) := by
        have hx := _q31
        first | exact hx.eq (keyp_n _hys22 _hy25 (by omega)) | exact hx.eq (keyp_y _hys22 _hy25 (by omega) _hy35)
      have _f_25 := ((_F0_0.ch0 _cw_21).ch _cw_22 (fun i hi => by have _h1 := _lo0_7 _ hi; omega))
      have _f_26 := ((_F0_1.ch0 _cw_21).ch _cw_22 (fun hm => by have _h1 := _lo0_7 _ hm; have _h2 := hikv _ hm; omega))
      exact thn_nrm (Exists.intro ((k + 1), (.slice _Av31 ((keyP cl aN s.toNat k ++ [(-1)])).length _Cv31)) ⟨⟨E, (by omega), (by omega), _f_25, _f_26, _on_24, (Lo.down _lo31 (by omega))⟩, Sub.cons rfl (Sub.cons rfl (Sub.cons rfl (Sub.cons rfl (Sub.cons rfl (Sub.cons rfl (Sub.nil _)))))), (by first | omega | (dsimp only; omega))⟩)
    · have _kb_20 := _h28
      have _h28 := bf_d _h28
      refine W_region ?_
      refine WL_step rfl rfl (r_move rfl) ?_
      refine WL_step rfl rfl (r_move rfl) ?_
      refine WL_step rfl rfl (r_move rfl) ?_
      refine WL_s rfl rfl ?_
      refine (s_index (j := _y25.toNat) _F0_0 ics_len el32 sz3 rfl rfl (by omega) (by omega) fun _p35 _y35 _hy35 _a35 => ?_)
      refine WL_step rfl rfl (r_loadAt0 _a35 agg3 rfl rfl) ?_
      refine WL_s rfl rfl ?_
      refine s_buildSlice (cs := ics) (parts := [(0, .tmp 36)]) (0 : Int) [_y35] el32 sz3 zr3 ics_len (by decide) rfl rfl rfl (by decide) (by decide) rfl fun _v37 _w_27 _q37 _lo37 _cw_27 => ?_
      have _cw_27z := _cw_27.size
      have E := E.trans _cw_27
      obtain ⟨_Av37, _Cv37, _ev37⟩ := _q37.val
      subst _ev37
      have _lv37 := _q37.len
      have _hiv37 := _q37.lt
      refine WL_s rfl rfl ?_
      have _f_29 := (_o0_7.ch0 _cw_27)
      refine s_append (cs := ics) el32 sz3 by3 zr3 rfl (by decide) ics_one _f_29 _q37.ls rfl rfl (by have _h9 := keyp_len (C := cl) (N := aN) (s := s.toNat) (k := k); simp only [List.length_singleton]; omega) (by have _h9 := keyp_len (C := cl) (N := aN) (s := s.toNat) (k := k); simp only [List.length_singleton]; omega) _lo0_7 (by omega) fun _v38 _w_28 _q38 _lo38 _ap38 _cw_28 => ?_
      have _cw_28z := _cw_28.size
      have E := E.step _cw_28 (fun i hi => .inl (by have _h1 := _lo0_7 _ hi; omega))
      obtain ⟨_Av38, _Cv38, _ev38⟩ := _q38.val
      subst _ev38
      have _lv38 := _q38.len
      have _hiv38 := _q38.lt
      refine WL_step rfl rfl (r_assign rfl) ?_
      refine WL_nil ?_
      refine inB_nrm ?_
      refine thn_nrm (_hK_15 _ _ ?_)
      clear _hK_15
      refine W_region ?_
      refine WL_step rfl rfl (r_move rfl) ?_
      refine WL_step rfl rfl (r_add (by omega) rfl rfl) ?_
      refine WL_step rfl rfl (r_assign rfl) ?_
      refine WL_nil ?_
      have _on_30 : Ol ics 3 1 _w_28 (.slice _Av38 ((keyP cl aN s.toNat k ++ [_y35])).length _Cv38) (keyP cl aN s.toNat (k + 1)) := by
        have hx := _q38
        first | exact hx.eq (keyp_n _hys22 _hy25 (by omega)) | exact hx.eq (keyp_y _hys22 _hy25 (by omega) _hy35)
      have _f_31 := ((_F0_0.ch0 _cw_27).ch _cw_28 (fun i hi => by have _h1 := _lo0_7 _ hi; omega))
      have _f_32 := ((_F0_1.ch0 _cw_27).ch _cw_28 (fun hm => by have _h1 := _lo0_7 _ hm; have _h2 := hikv _ hm; omega))
      exact thn_nrm (Exists.intro ((k + 1), (.slice _Av38 ((keyP cl aN s.toNat k ++ [_y35])).length _Cv38)) ⟨⟨E, (by omega), (by omega), _f_31, _f_32, _on_30, (Lo.down _lo38 (by omega))⟩, Sub.cons rfl (Sub.cons rfl (Sub.cons rfl (Sub.cons rfl (Sub.cons rfl (Sub.cons rfl (Sub.nil _)))))), (by first | omega | (dsimp only; omega))⟩)
  · have _kb_14 := _h16
    have _h16 := bf_d _h16
    refine W_exit (thn_exit (thn_exit (inB_hit ?_)))
    refine thn_nrm (_hK_6 _ _ ?_)
    clear _hK_6
    refine W_seq fun _K_33 _hK_33 => ?_
    refine W_region ?_
    refine WL_step rfl rfl (r_move rfl) ?_
    refine WL_step rfl rfl (r_assign rfl) ?_
    refine WL_nil ?_
    refine thn_nrm (_hK_33 _ _ ?_)
    clear _hK_33
    refine W_ret ?_
    clear _hK_12
    have _o_34 : Ol ics 3 1 _wr_11 (.slice Akv (keyP cl aN s.toNat k).length Ckv) (keyC cl (aN.getD s.toNat []) (cl.getD s.toNat 0)) := by
      have hx := _o0_7
      exact hx.eq (keyp_end hr9 (by omega))
    exact ret_intro [_] ⟨rfl, trivial⟩ ⟨_o_34, Lo.down _lo0_7 (by omega), E⟩

/-- spec.l2Cmp -/
theorem c_spec_l2Cmp {w : World} {LL_a _B_a : Nat} {_v_a : Value} {a : List Int} (_h_a : Ls ics 1 w LL_a _B_a _v_a a) {LL_b _B_b : Nat} {_v_b : Value} {b : List Int} (_h_b : Ls ics 1 w LL_b _B_b _v_b b) :
    Ctr Try.prog 108 #[_v_a, _v_b] w (fun v w' => v = .int .i64 (cmpL a b) ∧ Ch [] w w') := by
  obtain ⟨_A_a, _C_a, _e1_a⟩ := _h_a.val
  subst _e1_a
  have _l_a := _h_a.len
  have _h_a := _h_a.here (by decide)
  obtain ⟨_A_b, _C_b, _e1_b⟩ := _h_b.val
  subst _e1_b
  have _l_b := _h_b.len
  have _h_b := _h_b.here (by decide)
  have E := Ch.refl [] w
  refine Ctr_of_W (N := 46) (vs0 := [(.slice _A_a a.length _C_a), (.slice _A_b b.length _C_b)]) Try.func108 rfl rfl rfl ?_
  refine W_seq fun _K_1 _hK_1 => ?_
  refine W_region ?_
  refine WL_step rfl rfl (r_assign rfl) ?_
  refine WL_nil ?_
  refine thn_nrm (_hK_1 _ _ ?_)
  clear _hK_1
  refine W_seq fun _K_2 _hK_2 => ?_
  refine W_seq fun _K_3 _hK_3 => ?_
  refine W_region ?_
  refine WL_step rfl rfl (r_assign rfl) ?_
  refine WL_nil ?_
  refine thn_nrm (_hK_3 _ _ ?_)
  clear _hK_3
  refine W_block ?_
  refine W_loop (σ := Nat) (fun (k : Nat) => [(0, (.slice _A_a a.length _C_a)), (1, (.slice _A_b b.length _C_b)), (5, (.int .i64 ((k : Nat) : Int)))]) (fun (k : Nat) wx => Ch [] w wx ∧ w.heap.size ≤ wx.heap.size ∧ (k ≤ a.length) ∧ (k ≤ b.length) ∧ (a.take k = b.take k)) (fun (k : Nat) => a.length - k) 0 (Sub.cons rfl (Sub.cons rfl (Sub.cons rfl (Sub.nil _)))) ⟨E, (Nat.le_refl _), (by omega), (by omega), rfl⟩ ?_
  rintro k _wr_4 ⟨E, _zz0, _hk, _hk2, _ht⟩
  have _E0h := E
  have _E0hz := _E0h.size
  refine W_seq fun _K_5 _hK_5 => ?_
  refine W_seq fun _K_6 _hK_6 => ?_
  refine W_region ?_
  refine WL_step rfl rfl (r_move rfl) ?_
  refine WL_step rfl rfl (r_move rfl) ?_
  refine WL_step rfl rfl (r_len (by rw [el32]; rfl) rfl) ?_
  refine WL_step rfl rfl (r_lss rfl rfl) ?_
  refine WL_step rfl rfl (r_move rfl) ?_
  refine WL_split (d := 10) rfl (fun _h10 => ?_) (fun _h10 => ?_)
  · have _kb_7 := _h10
    have _h10 := bt_d _h10
    refine WL_step rfl rfl (r_move rfl) ?_
    refine WL_step rfl rfl (r_move rfl) ?_
    refine WL_step rfl rfl (r_len (by rw [el32]; rfl) rfl) ?_
    refine WL_step rfl rfl (r_lss rfl rfl) ?_
    refine WL_step rfl rfl (r_pickT rfl rfl) ?_
    refine WL_nil ?_
    refine thn_nrm (_hK_6 _ _ ?_)
    clear _hK_6
    refine W_cond rfl (fun _h15 => ?_) (fun _h15 => ?_)
    · have _kb_8 := _h15
      have _h15 := bt_d _h15
      refine W_skip ?_
      refine thn_nrm (_hK_5 _ _ ?_)
      clear _hK_5
      refine W_seq fun _K_9 _hK_9 => ?_
      refine W_block ?_
      refine W_seq fun _K_10 _hK_10 => ?_
      refine W_seq fun _K_11 _hK_11 => ?_
      refine W_drawC [] 9 mixed rfl fun _w_12 _cw_12 => ?_
      have _cw_12z := _cw_12.size
      have E := E.trans _cw_12
      refine DR_s 0 rfl (by kernel_rfl) rfl rfl (t_v (fun _ => (r_move rfl)) ?_)
      refine DR_s 1 rfl (by kernel_rfl) rfl rfl (t_v (fun _ => (r_move rfl)) ?_)
      have _f_13 := ((_h_a.ch0 _E0h).ch0 _cw_12)
      refine DR_s 2 rfl (by kernel_rfl) rfl rfl (t_index _f_13 ics_len el32 sz3 rfl rfl rfl (by omega) fun _p20 _y20 _hy20 _a20 => ?_)
      refine DR_s 3 rfl (by kernel_rfl) rfl rfl (t_loadAt0 _a20 (fun i hi => absurd hi List.not_mem_nil) agg3 rfl rfl ?_)
      refine DR_s 4 rfl (by kernel_rfl) rfl rfl (t_v (fun _ => (r_move rfl)) ?_)
      refine DR_s 5 rfl (by kernel_rfl) rfl rfl (t_v (fun _ => (r_move rfl)) ?_)
      have _f_14 := ((_h_b.ch0 _E0h).ch0 _cw_12)
      refine DR_s 6 rfl (by kernel_rfl) rfl rfl (t_index _f_14 ics_len el32 sz3 rfl rfl rfl (by omega) fun _p24 _y24 _hy24 _a24 => ?_)
      refine DR_s 7 rfl (by kernel_rfl) rfl rfl (t_loadAt0 _a24 (fun i hi => absurd hi List.not_mem_nil) agg3 rfl rfl ?_)
      refine DR_s 8 rfl (by kernel_rfl) rfl rfl (t_v (fun _ => (r_lss rfl rfl)) ?_)
      refine DR_done (by kernel_rfl) ?_
      refine thn_nrm (_hK_11 _ _ ?_)
      clear _hK_11
      refine W_cond rfl (fun _h26 => ?_) (fun _h26 => ?_)
      · have _kb_15 := _h26
        have _h26 := bt_d _h26
        refine W_seq fun _K_16 _hK_16 => ?_
        refine W_region ?_
        refine WL_step rfl rfl (r_assign rfl) ?_
        refine WL_nil ?_
        refine thn_nrm (_hK_16 _ _ ?_)
        clear _hK_16
        refine W_ret (thn_ret (inB_ret (thn_ret (thn_ret (inB_ret (thn_ret ?_))))))
        clear _hK_2 _hK_9 _hK_10
        exact ret_intro [_] ⟨rfl, trivial⟩ ⟨congrArg (Value.int .i64) (by first | exact cmpL_lt _ht _hy20 _hy24 _h26 | exact cmpL_gt _ht _hy29 _hy33 _h35 | (have hc := cmpL_end _ht (by omega) (by omega) (by omega); rw [hc]; first | (rw [if_pos (by omega)]; done) | (rw [if_neg (by omega), if_pos (by omega)]; done) | (rw [if_neg (by omega), if_neg (by omega)]; done))), E⟩
      · have _kb_15 := _h26
        have _h26 := bf_d _h26
        refine W_skip ?_
        refine thn_nrm (_hK_10 _ _ ?_)
        clear _hK_10
        refine W_seq fun _K_17 _hK_17 => ?_
        refine W_drawC [] 9 mixed rfl fun _w_18 _cw_18 => ?_
        have _cw_18z := _cw_18.size
        have E := E.trans _cw_18
        refine DR_s 0 rfl (by kernel_rfl) rfl rfl (t_v (fun _ => (r_move rfl)) ?_)
        refine DR_s 1 rfl (by kernel_rfl) rfl rfl (t_v (fun _ => (r_move rfl)) ?_)
        have _f_19 := (_f_13.ch0 _cw_18)
        refine DR_s 2 rfl (by kernel_rfl) rfl rfl (t_index _f_19 ics_len el32 sz3 rfl rfl rfl (by omega) fun _p29 _y29 _hy29 _a29 => ?_)
        refine DR_s 3 rfl (by kernel_rfl) rfl rfl (t_loadAt0 _a29 (fun i hi => absurd hi List.not_mem_nil) agg3 rfl rfl ?_)
        refine DR_s 4 rfl (by kernel_rfl) rfl rfl (t_v (fun _ => (r_move rfl)) ?_)
        refine DR_s 5 rfl (by kernel_rfl) rfl rfl (t_v (fun _ => (r_move rfl)) ?_)
        have _f_20 := (_f_14.ch0 _cw_18)
        refine DR_s 6 rfl (by kernel_rfl) rfl rfl (t_index _f_20 ics_len el32 sz3 rfl rfl rfl (by omega) fun _p33 _y33 _hy33 _a33 => ?_)
        refine DR_s 7 rfl (by kernel_rfl) rfl rfl (t_loadAt0 _a33 (fun i hi => absurd hi List.not_mem_nil) agg3 rfl rfl ?_)
        refine DR_s 8 rfl (by kernel_rfl) rfl rfl (t_v (fun _ => (r_gtr rfl rfl)) ?_)
        refine DR_done (by kernel_rfl) ?_
        refine thn_nrm (_hK_17 _ _ ?_)
        clear _hK_17
        refine W_cond rfl (fun _h35 => ?_) (fun _h35 => ?_)
        · have _kb_21 := _h35
          have _h35 := bt_d _h35
          refine W_seq fun _K_22 _hK_22 => ?_
          refine W_region ?_
          refine WL_step rfl rfl (r_assign rfl) ?_
          refine WL_nil ?_
          refine thn_nrm (_hK_22 _ _ ?_)
          clear _hK_22
          refine W_ret (inB_ret (thn_ret (thn_ret (inB_ret (thn_ret ?_)))))
          clear _hK_2 _hK_9
          exact ret_intro [_] ⟨rfl, trivial⟩ ⟨congrArg (Value.int .i64) (by first | exact cmpL_lt _ht _hy20 _hy24 _h26 | exact cmpL_gt _ht _hy29 _hy33 _h35 | (have hc := cmpL_end _ht (by omega) (by omega) (by omega); rw [hc]; first | (rw [if_pos (by omega)]; done) | (rw [if_neg (by omega), if_pos (by omega)]; done) | (rw [if_neg (by omega), if_neg (by omega)]; done))), E⟩
        · have _kb_21 := _h35
          have _h35 := bf_d _h35
          refine W_skip ?_
          refine inB_nrm ?_
          refine thn_nrm (_hK_9 _ _ ?_)
          clear _hK_9
          refine W_region ?_
          refine WL_step rfl rfl (r_move rfl) ?_
          refine WL_step rfl rfl (r_add (by omega) rfl rfl) ?_
          refine WL_step rfl rfl (r_assign rfl) ?_
          refine WL_nil ?_
          exact thn_nrm (Exists.intro (k + 1) ⟨⟨E, (by omega), (by omega), (by omega), (take_eq_succ _ht _hy20 _hy24 (by have _e1 := get_uniq _hy20 _hy29; have _e2 := get_uniq _hy24 _hy33; omega))⟩, Sub.cons rfl (Sub.cons rfl (Sub.cons rfl (Sub.nil _))), (by first | omega | (dsimp only; omega))⟩)
    · have _kb_8 := _h15
      have _h15 := bf_d _h15
      refine W_exit (thn_exit (thn_exit (inB_hit ?_)))
      refine thn_nrm (_hK_2 _ _ ?_)
      clear _hK_2
      refine W_seq fun _K_23 _hK_23 => ?_
      refine W_seq fun _K_24 _hK_24 => ?_
      refine W_region ?_
      refine WL_step rfl rfl (r_move rfl) ?_
      refine WL_step rfl rfl (r_len (by rw [el32]; rfl) rfl) ?_
      refine WL_step rfl rfl (r_move rfl) ?_
      refine WL_step rfl rfl (r_len (by rw [el32]; rfl) rfl) ?_
      refine WL_step rfl rfl (r_lss rfl rfl) ?_
      refine WL_nil ?_
      refine thn_nrm (_hK_24 _ _ ?_)
      clear _hK_24
      refine W_cond rfl (fun _h40 => ?_) (fun _h40 => ?_)
      · have _kb_25 := _h40
        have _h40 := bt_d _h40
        refine W_seq fun _K_26 _hK_26 => ?_
        refine W_region ?_
        refine WL_step rfl rfl (r_assign rfl) ?_
        refine WL_nil ?_
        refine thn_nrm (_hK_26 _ _ ?_)
        clear _hK_26
        refine W_ret (thn_ret ?_)
        clear _hK_5 _hK_23
        exact ret_intro [_] ⟨rfl, trivial⟩ ⟨congrArg (Value.int .i64) (by first | exact cmpL_lt _ht _hy20 _hy24 _h26 | exact cmpL_gt _ht _hy29 _hy33 _h35 | (have hc := cmpL_end _ht (by omega) (by omega) (by omega); rw [hc]; first | (rw [if_pos (by omega)]; done) | (rw [if_neg (by omega), if_pos (by omega)]; done) | (rw [if_neg (by omega), if_neg (by omega)]; done))), E⟩
      · have _kb_25 := _h40
        have _h40 := bf_d _h40
        refine W_skip ?_
        refine thn_nrm (_hK_23 _ _ ?_)
        clear _hK_23
        refine W_seq fun _K_27 _hK_27 => ?_
        refine W_seq fun _K_28 _hK_28 => ?_
        refine W_region ?_
        refine WL_step rfl rfl (r_move rfl) ?_
        refine WL_step rfl rfl (r_len (by rw [el32]; rfl) rfl) ?_
        refine WL_step rfl rfl (r_move rfl) ?_
        refine WL_step rfl rfl (r_len (by rw [el32]; rfl) rfl) ?_
        refine WL_step rfl rfl (r_gtr rfl rfl) ?_
        refine WL_nil ?_
        refine thn_nrm (_hK_28 _ _ ?_)
        clear _hK_28
        refine W_cond rfl (fun _h45 => ?_) (fun _h45 => ?_)
        · have _kb_29 := _h45
          have _h45 := bt_d _h45
          refine W_seq fun _K_30 _hK_30 => ?_
          refine W_region ?_
          refine WL_step rfl rfl (r_assign rfl) ?_
          refine WL_nil ?_
          refine thn_nrm (_hK_30 _ _ ?_)
          clear _hK_30
          refine W_ret (thn_ret ?_)
          clear _hK_5 _hK_27
          exact ret_intro [_] ⟨rfl, trivial⟩ ⟨congrArg (Value.int .i64) (by first | exact cmpL_lt _ht _hy20 _hy24 _h26 | exact cmpL_gt _ht _hy29 _hy33 _h35 | (have hc := cmpL_end _ht (by omega) (by omega) (by omega); rw [hc]; first | (rw [if_pos (by omega)]; done) | (rw [if_neg (by omega), if_pos (by omega)]; done) | (rw [if_neg (by omega), if_neg (by omega)]; done))), E⟩
        · have _kb_29 := _h45
          have _h45 := bf_d _h45
          refine W_skip ?_
          refine thn_nrm (_hK_27 _ _ ?_)
          clear _hK_27
          refine W_seq fun _K_31 _hK_31 => ?_
          refine W_region ?_
          refine WL_step rfl rfl (r_assign rfl) ?_
          refine WL_nil ?_
          refine thn_nrm (_hK_31 _ _ ?_)
          clear _hK_31
          refine W_ret ?_
          clear _hK_5
          exact ret_intro [_] ⟨rfl, trivial⟩ ⟨congrArg (Value.int .i64) (by first | exact cmpL_lt _ht _hy20 _hy24 _h26 | exact cmpL_gt _ht _hy29 _hy33 _h35 | (have hc := cmpL_end _ht (by omega) (by omega) (by omega); rw [hc]; first | (rw [if_pos (by omega)]; done) | (rw [if_neg (by omega), if_pos (by omega)]; done) | (rw [if_neg (by omega), if_neg (by omega)]; done))), E⟩
  · have _kb_7 := _h10
    have _h10 := bf_d _h10
    refine WL_skip rfl rfl ?_
    refine WL_skip rfl rfl ?_
    refine WL_skip rfl rfl ?_
    refine WL_skip rfl rfl ?_
    refine WL_step rfl rfl (r_pickF rfl rfl) ?_
    refine WL_nil ?_
    refine thn_nrm (_hK_6 _ _ ?_)
    clear _hK_6
    refine W_condF rfl ?_
    refine W_exit (thn_exit (thn_exit (inB_hit ?_)))
    refine thn_nrm (_hK_2 _ _ ?_)
    clear _hK_2
    refine W_seq fun _K_32 _hK_32 => ?_
    refine W_seq fun _K_33 _hK_33 => ?_
    refine W_region ?_
    refine WL_step rfl rfl (r_move rfl) ?_
    refine WL_step rfl rfl (r_len (by rw [el32]; rfl) rfl) ?_
    refine WL_step rfl rfl (r_move rfl) ?_
    refine WL_step rfl rfl (r_len (by rw [el32]; rfl) rfl) ?_
    refine WL_step rfl rfl (r_lss rfl rfl) ?_
    refine WL_nil ?_
    refine thn_nrm (_hK_33 _ _ ?_)
    clear _hK_33
    refine W_cond rfl (fun _h40 => ?_) (fun _h40 => ?_)
    · have _kb_34 := _h40
      have _h40 := bt_d _h40
      refine W_seq fun _K_35 _hK_35 => ?_
      refine W_region ?_
      refine WL_step rfl rfl (r_assign rfl) ?_
      refine WL_nil ?_
      refine thn_nrm (_hK_35 _ _ ?_)
      clear _hK_35
      refine W_ret (thn_ret ?_)
      clear _hK_5 _hK_32
      exact ret_intro [_] ⟨rfl, trivial⟩ ⟨congrArg (Value.int .i64) (by first | exact cmpL_lt _ht _hy20 _hy24 _h26 | exact cmpL_gt _ht _hy29 _hy33 _h35 | (have hc := cmpL_end _ht (by omega) (by omega) (by omega); rw [hc]; first | (rw [if_pos (by omega)]; done) | (rw [if_neg (by omega), if_pos (by omega)]; done) | (rw [if_neg (by omega), if_neg (by omega)]; done))), E⟩
    · have _kb_34 := _h40
      have _h40 := bf_d _h40
      refine W_skip ?_
      refine thn_nrm (_hK_32 _ _ ?_)
      clear _hK_32
      refine W_seq fun _K_36 _hK_36 => ?_
      refine W_seq fun _K_37 _hK_37 => ?_
      refine W_region ?_
      refine WL_step rfl rfl (r_move rfl) ?_
      refine WL_step rfl rfl (r_len (by rw [el32]; rfl) rfl) ?_
      refine WL_step rfl rfl (r_move rfl) ?_
      refine WL_step rfl rfl (r_len (by rw [el32]; rfl) rfl) ?_
      refine WL_step rfl rfl (r_gtr rfl rfl) ?_
      refine WL_nil ?_
      refine thn_nrm (_hK_37 _ _ ?_)
      clear _hK_37
      refine W_cond rfl (fun _h45 => ?_) (fun _h45 => ?_)
      · have _kb_38 := _h45
        have _h45 := bt_d _h45
        refine W_seq fun _K_39 _hK_39 => ?_
        refine W_region ?_
        refine WL_step rfl rfl (r_assign rfl) ?_
        refine WL_nil ?_
        refine thn_nrm (_hK_39 _ _ ?_)
        clear _hK_39
        refine W_ret (thn_ret ?_)
        clear _hK_5 _hK_36
        exact ret_intro [_] ⟨rfl, trivial⟩ ⟨congrArg (Value.int .i64) (by first | exact cmpL_lt _ht _hy20 _hy24 _h26 | exact cmpL_gt _ht _hy29 _hy33 _h35 | (have hc := cmpL_end _ht (by omega) (by omega) (by omega); rw [hc]; first | (rw [if_pos (by omega)]; done) | (rw [if_neg (by omega), if_pos (by omega)]; done) | (rw [if_neg (by omega), if_neg (by omega)]; done))), E⟩
      · have _kb_38 := _h45
        have _h45 := bf_d _h45
        refine W_skip ?_
        refine thn_nrm (_hK_36 _ _ ?_)
        clear _hK_36
        refine W_seq fun _K_40 _hK_40 => ?_
        refine W_region ?_
        refine WL_step rfl rfl (r_assign rfl) ?_
        refine WL_nil ?_
        refine thn_nrm (_hK_40 _ _ ?_)
        clear _hK_40
        refine W_ret ?_
        clear _hK_5
        exact ret_intro [_] ⟨rfl, trivial⟩ ⟨congrArg (Value.int .i64) (by first | exact cmpL_lt _ht _hy20 _hy24 _h26 | exact cmpL_gt _ht _hy29 _hy33 _h35 | (have hc := cmpL_end _ht (by omega) (by omega) (by omega); rw [hc]; first | (rw [if_pos (by omega)]; done) | (rw [if_neg (by omega), if_pos (by omega)]; done) | (rw [if_neg (by omega), if_neg (by omega)]; done))), E⟩

/-- spec.l12Classes -/
theorem c_spec_l12Classes {w : World} (aS : Int) {LL_aA _B_aA : Nat} {_v_aA : Value} {aA : List Bool} (_h_aA : Ls bcs 1 w LL_aA _B_aA _v_aA aA) {LL_saN _B_saN : Nat} {_v_saN : Value} {saN : List Sv} (_h_saN : Ls Sv.cs 1 w LL_saN _B_saN _v_saN saN) {LR_aN BB_aN : Nat} {aN : List (List Int)} (_rd_aN : Rd ics 1 w LR_aN BB_aN saN aN) (hv : ValidA aS aA aN)  :
    Ctr Try.prog 93 #[(.agg #[(.int .i64 aS), _v_aA, _v_saN])] w (fun v w' => Ol ics 3 1 w' v (clsF aN (clsI aA (liveL aA aN) aA.length) aA.length) ∧ Lo w.heap.size v ∧ Ch [] w w') := by
  obtain ⟨_A_aA, _C_aA, _e1_aA⟩ := _h_aA.val
  subst _e1_aA
  have _l_aA := _h_aA.len
  have _h_aA := _h_aA.here (by decide)
  obtain ⟨_A_saN, _C_saN, _e1_saN⟩ := _h_saN.val
  subst _e1_saN
  have _l_saN := _h_saN.len
  have _h_saN := _h_saN.here (by decide)
  have _rd_aN := _rd_aN.here (by decide)
  have _rl_aN := _rd_aN.1
  have E := Ch.refl [] w
  have hv2 := hv.2.2.1; have hv1 := hv.1; have _e15 := liveL_len aA aN
  refine Ctr_of_W (N := 99) (vs0 := [(.agg #[(.int .i64 aS), (.slice _A_aA aA.length _C_aA), (.slice _A_saN saN.length _C_saN)])]) Try.func93 rfl rfl rfl ?_
  refine W_seq fun _K_1 _hK_1 => ?_
  refine W_region ?_
  refine WL_s rfl rfl ?_
  refine s_box rfl fun _b1 _w_2 _m1 _cw_2 _e1 => ?_
  have _cw_2z := _cw_2.size
  have E := E.trans _cw_2
  have _z1 := _m1.lt
  replace _m1 : Blk _w_2 _b1 28 [(.int .i64 aS), (.slice _A_aA aA.length _C_aA), (.slice _A_saN saN.length _C_saN)] := _m1
  refine WL_step rfl rfl (r_assign rfl) ?_
  refine WL_nil ?_
  refine thn_nrm (_hK_1 _ _ ?_)
  clear _hK_1
  refine W_seq fun _K_3 _hK_3 => ?_
  refine W_region ?_
  refine WL_step rfl rfl (r_loadAtA0 _m1.at_ agg28 sz28 rfl) ?_
  refine WL_s rfl rfl ?_
  have _f_4 := (_h_aA.ch0 _cw_2)
  have _f_5 := (_rd_aN.ch0 _cw_2)
  have _f_6 := (_h_saN.ch0 _cw_2)
  refine Step.call (r_call (xs := [.tmp 14]) fk50 rfl) (c_spec_l11Live _ _f_4 _f_6 _f_5 hv) fun _v15 _w_7 _q15 => ?_
  obtain ⟨_q15, _lo15, _cw_7⟩ := _q15
  have _cw_7z := _cw_7.size
  have E := E.trans _cw_7
  obtain ⟨_Av15, _Cv15, _ev15⟩ := _q15.val
  subst _ev15
  have _lv15 := _q15.len
  have _hiv15 := _q15.lt
  refine WL_step rfl rfl (r_assign rfl) ?_
  refine WL_nil ?_
  refine thn_nrm (_hK_3 _ _ ?_)
  clear _hK_3
  refine W_seq fun _K_8 _hK_8 => ?_
  refine W_region ?_
  refine WL_s rfl rfl ?_
  refine s_buildSlice0 (k := 1) ics el32 sz3 fun _v16 _w_9 _q16 _lo16 _cw_9 => ?_
  have _cw_9z := _cw_9.size
  have E := E.trans _cw_9
  obtain ⟨_Av16, _Cv16, _ev16⟩ := _q16.val
  subst _ev16
  have _lv16 := _q16.len
  have _hiv16 := _q16.lt
  refine WL_step rfl rfl (r_assign rfl) ?_
  refine WL_nil ?_
  refine thn_nrm (_hK_8 _ _ ?_)
  clear _hK_8
  refine W_seq fun _K_10 _hK_10 => ?_
  refine W_seq fun _K_11 _hK_11 => ?_
  refine W_region ?_
  refine WL_step rfl rfl (r_assign rfl) ?_
  refine WL_nil ?_
  refine thn_nrm (_hK_11 _ _ ?_)
  clear _hK_11
  refine W_block ?_
  have _oi_12 : Ol ics 3 1 _w_9 (.slice _Av16 (([] : List Int)).length _Cv16) (clsI aA (liveL aA aN) 0) := by
    have hx := _q16
    exact hx
  have _f_13 := ((_m1.ch0 _cw_7).ch0 _cw_9)
  have _f_14 := ((_f_4.ch0 _cw_7).ch0 _cw_9)
  have _f_15 := ((_f_6.ch0 _cw_7).ch0 _cw_9)
  have _f_16 := ((_f_5.ch0 _cw_7).ch0 _cw_9)
  have _f_17 := (_q15.ch0 _cw_9)
  refine W_loop (σ := Nat × Value) (fun ⟨q, iv⟩ => [(1, (.pointer (some ⟨_b1, 0, none⟩))), (2, (.slice none 0 0)), (3, (.slice _Av15 (liveL aA aN).length _Cv15)), (4, iv), (5, (.int .i64 ((q : Nat) : Int)))]) (fun ⟨q, iv⟩ wx => Ch [] w wx ∧ _w_9.heap.size ≤ wx.heap.size ∧ (q ≤ aA.length) ∧ Blk wx _b1 28 [(.int .i64 aS), (.slice _A_aA aA.length _C_aA), (.slice _A_saN saN.length _C_saN)] ∧ Ls bcs 1 wx LL_aA w.heap.size (.slice _A_aA aA.length _C_aA) aA ∧ Ls Sv.cs 1 wx LL_saN w.heap.size (.slice _A_saN saN.length _C_saN) saN ∧ Rd ics 1 wx LR_aN w.heap.size saN aN ∧ Ol bcs 4 1 wx (.slice _Av15 (liveL aA aN).length _Cv15) (liveL aA aN) ∧ Ol ics 3 1 wx iv (clsI aA (liveL aA aN) q) ∧ Lo _w_7.heap.size iv) (fun ⟨q, iv⟩ => aA.length - q) (0, (.slice _Av16 (([] : List Int)).length _Cv16)) (Sub.cons rfl (Sub.cons rfl (Sub.cons rfl (Sub.cons rfl (Sub.cons rfl (Sub.nil _)))))) ⟨E, (Nat.le_refl _), (by omega), _f_13, _f_14, _f_15, _f_16, _f_17, _oi_12, _lo16⟩ ?_
  rintro ⟨q, iv⟩ _wr_18 ⟨E, _zz0, hq, _F0_0, _F0_1, _F0_2, _F0_3, _F0_4, _o0_4, _lo0_4⟩
  have _E0h := E
  have _E0hz := _E0h.size
  have _F0_0z := _F0_0.lt
  obtain ⟨Aiv, Civ, eiv⟩ := _o0_4.val
  subst eiv
  have liv := _o0_4.len
  have hiiv := _o0_4.lt
  refine W_seq fun _K_19 _hK_19 => ?_
  refine W_seq fun _K_20 _hK_20 => ?_
  refine W_region ?_
  refine WL_step rfl rfl (r_move rfl) ?_
  refine WL_step rfl rfl (r_fieldAddr fa28_1 rfl) ?_
  refine WL_step rfl rfl (r_loadAt _F0_0.at_ agg22 rfl rfl) ?_
  refine WL_step rfl rfl (r_len (by rw [el22]; rfl) rfl) ?_
  refine WL_step rfl rfl (r_lss rfl rfl) ?_
  refine WL_nil ?_
  refine thn_nrm (_hK_20 _ _ ?_)
  clear _hK_20
  refine W_cond rfl (fun _h21 => ?_) (fun _h21 => ?_)
  · have _kb_21 := _h21
    have _h21 := bt_d _h21
    refine W_skip ?_
    refine thn_nrm (_hK_19 _ _ ?_)
    clear _hK_19
    refine W_seq fun _K_22 _hK_22 => ?_
    refine W_block ?_
    refine W_seq fun _K_23 _hK_23 => ?_
    refine W_region ?_
    refine WL_step rfl rfl (r_assign rfl) ?_
    refine WL_nil ?_
    refine thn_nrm (_hK_23 _ _ ?_)
    clear _hK_23
    refine W_seq fun _K_24 _hK_24 => ?_
    refine W_seq fun _K_25 _hK_25 => ?_
    refine W_region ?_
    refine WL_step rfl rfl (r_fieldAddr fa28_1 rfl) ?_
    refine WL_step rfl rfl (r_loadAt _F0_0.at_ agg22 rfl rfl) ?_
    refine WL_step rfl rfl (r_move rfl) ?_
    refine WL_s rfl rfl ?_
    refine (s_index _F0_1 bcs_len el22 sz4 rfl rfl rfl (by omega) fun _p27 _y27 _hy27 _a27 => ?_)
    refine WL_step rfl rfl (r_loadAt0 _a27 agg4 rfl rfl) ?_
    refine WL_nil ?_
    refine thn_nrm (_hK_25 _ _ ?_)
    clear _hK_25
    refine W_cond rfl (fun _h28 => ?_) (fun _h28 => ?_)
    · have _kb_26 := _h28
      refine W_region ?_
      refine WL_step rfl rfl (r_assign rfl) ?_
      refine WL_nil ?_
      refine thn_nrm (_hK_24 _ _ ?_)
      clear _hK_24
      refine W_seq fun _K_27 _hK_27 => ?_
      refine W_seq fun _K_28 _hK_28 => ?_
      refine W_region ?_
      refine WL_step rfl rfl (r_move rfl) ?_
      refine WL_step rfl rfl (r_move rfl) ?_
      refine WL_s rfl rfl ?_
      refine (s_index _F0_4.ls bcs_len el22 sz4 rfl rfl rfl (by omega) fun _p31 _y31 _hy31 _a31 => ?_)
      refine WL_step rfl rfl (r_loadAt0 _a31 agg4 rfl rfl) ?_
      refine WL_step rfl rfl (r_not rfl) ?_
      refine WL_nil ?_
      refine thn_nrm (_hK_28 _ _ ?_)
      clear _hK_28
      refine W_cond rfl (fun _h33 => ?_) (fun _h33 => ?_)
      · have _kb_29 := _h33
        refine W_region ?_
        refine WL_step rfl rfl (r_assign rfl) ?_
        refine WL_nil ?_
        refine thn_nrm (_hK_27 _ _ ?_)
        clear _hK_27
        refine W_region ?_
        refine WL_step rfl rfl (r_move rfl) ?_
        refine WL_step rfl rfl (r_move rfl) ?_
        refine WL_s rfl rfl ?_
        refine s_buildSlice (cs := ics) (parts := [(0, .tmp 35)]) (0 : Int) [(-1)] el32 sz3 zr3 ics_len (by decide) rfl rfl rfl (by decide) (by decide) rfl fun _v36 _w_30 _q36 _lo36 _cw_30 => ?_
        have _cw_30z := _cw_30.size
        have E := E.trans _cw_30
        obtain ⟨_Av36, _Cv36, _ev36⟩ := _q36.val
        subst _ev36
        have _lv36 := _q36.len
        have _hiv36 := _q36.lt
        refine WL_s rfl rfl ?_
        have _f_32 := (_o0_4.ch0 _cw_30)
        refine s_append (cs := ics) el32 sz3 by3 zr3 rfl (by decide) ics_one _f_32 _q36.ls rfl rfl (by have _h9 := clsi_len aA (liveL aA aN) q; simp only [List.length_singleton]; omega) (by have _h9 := clsi_len aA (liveL aA aN) q; simp only [List.length_singleton]; omega) _lo0_4 (by omega) fun _v37 _w_31 _q37 _lo37 _ap37 _cw_31 => ?_
        have _cw_31z := _cw_31.size
        have E := E.step _cw_31 (fun i hi => .inl (by have _h1 := _lo0_4 _ hi; omega))
        obtain ⟨_Av37, _Cv37, _ev37⟩ := _q37.val
        subst _ev37
        have _lv37 := _q37.len
        have _hiv37 := _q37.lt
        refine WL_step rfl rfl (r_assign rfl) ?_
        refine WL_nil ?_
        refine inB_nrm ?_
        refine thn_nrm (_hK_22 _ _ ?_)
        clear _hK_22
        refine W_region ?_
        refine WL_step rfl rfl (r_move rfl) ?_
        refine WL_step rfl rfl (r_add (by omega) rfl rfl) ?_
        refine WL_step rfl rfl (r_assign rfl) ?_
        refine WL_nil ?_
        have _on_33 : Ol ics 3 1 _w_31 (.slice _Av37 ((clsI aA (liveL aA aN) q ++ [(-1)])).length _Cv37) (clsI aA (liveL aA aN) (q + 1)) := by
          have hx := _q37
          exact hx.eq (clsi_step _hy27 _hy31 (by simp_all))
        have _f_34 := ((_F0_0.ch0 _cw_30).ch _cw_31 (fun hm => by have _h1 := _lo0_4 _ hm; have _h2 := hiiv _ hm; omega))
        have _f_35 := ((_F0_1.ch0 _cw_30).ch _cw_31 (fun i hi => by have _h1 := _lo0_4 _ hi; omega))
        have _f_36 := ((_F0_2.ch0 _cw_30).ch _cw_31 (fun i hi => by have _h1 := _lo0_4 _ hi; omega))
        have _f_37 := ((_F0_3.ch0 _cw_30).ch _cw_31 (fun i hi => by have _h1 := _lo0_4 _ hi; omega))
        have _f_38 := ((_F0_4.ch0 _cw_30).ch _cw_31 (fun g hg hm => by have _h1 := _lo0_4 _ hm; have _h2 := hiiv _ hm; have _h3 := _lo15 _ hg; have _h4 := _hiv15 _ hg; omega))
        exact thn_nrm (Exists.intro ((q + 1), (.slice _Av37 ((clsI aA (liveL aA aN) q ++ [(-1)])).length _Cv37)) ⟨⟨E, (by omega), (by omega), _f_34, _f_35, _f_36, _f_37, _f_38, _on_33, (Lo.down _lo37 (by omega))⟩, Sub.cons rfl (Sub.cons rfl (Sub.cons rfl (Sub.cons rfl (Sub.cons rfl (Sub.nil _))))), (by first | omega | (dsimp only; omega))⟩)
      · have _kb_29 := _h33
        refine W_skip ?_
        refine thn_nrm (_hK_27 _ _ ?_)
        clear _hK_27
        refine W_region ?_
        refine WL_step rfl rfl (r_move rfl) ?_
        refine WL_step rfl rfl (r_move rfl) ?_
        refine WL_s rfl rfl ?_
        refine s_buildSlice (cs := ics) (parts := [(0, .tmp 35)]) (0 : Int) [1] el32 sz3 zr3 ics_len (by decide) rfl rfl rfl (by decide) (by decide) rfl fun _v36 _w_39 _q36 _lo36 _cw_39 => ?_
        have _cw_39z := _cw_39.size
        have E := E.trans _cw_39
        obtain ⟨_Av36, _Cv36, _ev36⟩ := _q36.val
        subst _ev36
        have _lv36 := _q36.len
        have _hiv36 := _q36.lt
        refine WL_s rfl rfl ?_
        have _f_41 := (_o0_4.ch0 _cw_39)
        refine s_append (cs := ics) el32 sz3 by3 zr3 rfl (by decide) ics_one _f_41 _q36.ls rfl rfl (by have _h9 := clsi_len aA (liveL aA aN) q; simp only [List.length_singleton]; omega) (by have _h9 := clsi_len aA (liveL aA aN) q; simp only [List.length_singleton]; omega) _lo0_4 (by omega) fun _v37 _w_40 _q37 _lo37 _ap37 _cw_40 => ?_
        have _cw_40z := _cw_40.size
        have E := E.step _cw_40 (fun i hi => .inl (by have _h1 := _lo0_4 _ hi; omega))
        obtain ⟨_Av37, _Cv37, _ev37⟩ := _q37.val
        subst _ev37
        have _lv37 := _q37.len
        have _hiv37 := _q37.lt
        refine WL_step rfl rfl (r_assign rfl) ?_
        refine WL_nil ?_
        refine inB_nrm ?_
        refine thn_nrm (_hK_22 _ _ ?_)
        clear _hK_22
        refine W_region ?_
        refine WL_step rfl rfl (r_move rfl) ?_
        refine WL_step rfl rfl (r_add (by omega) rfl rfl) ?_
        refine WL_step rfl rfl (r_assign rfl) ?_
        refine WL_nil ?_
        have _on_42 : Ol ics 3 1 _w_40 (.slice _Av37 ((clsI aA (liveL aA aN) q ++ [1])).length _Cv37) (clsI aA (liveL aA aN) (q + 1)) := by
          have hx := _q37
          exact hx.eq (clsi_step _hy27 _hy31 (by simp_all))
        have _f_43 := ((_F0_0.ch0 _cw_39).ch _cw_40 (fun hm => by have _h1 := _lo0_4 _ hm; have _h2 := hiiv _ hm; omega))
        have _f_44 := ((_F0_1.ch0 _cw_39).ch _cw_40 (fun i hi => by have _h1 := _lo0_4 _ hi; omega))
        have _f_45 := ((_F0_2.ch0 _cw_39).ch _cw_40 (fun i hi => by have _h1 := _lo0_4 _ hi; omega))
        have _f_46 := ((_F0_3.ch0 _cw_39).ch _cw_40 (fun i hi => by have _h1 := _lo0_4 _ hi; omega))
        have _f_47 := ((_F0_4.ch0 _cw_39).ch _cw_40 (fun g hg hm => by have _h1 := _lo0_4 _ hm; have _h2 := hiiv _ hm; have _h3 := _lo15 _ hg; have _h4 := _hiv15 _ hg; omega))
        exact thn_nrm (Exists.intro ((q + 1), (.slice _Av37 ((clsI aA (liveL aA aN) q ++ [1])).length _Cv37)) ⟨⟨E, (by omega), (by omega), _f_43, _f_44, _f_45, _f_46, _f_47, _on_42, (Lo.down _lo37 (by omega))⟩, Sub.cons rfl (Sub.cons rfl (Sub.cons rfl (Sub.cons rfl (Sub.cons rfl (Sub.nil _))))), (by first | omega | (dsimp only; omega))⟩)
    · have _kb_26 := _h28
      refine W_skip ?_
      refine thn_nrm (_hK_24 _ _ ?_)
      clear _hK_24
      refine W_seq fun _K_48 _hK_48 => ?_
      refine W_seq fun _K_49 _hK_49 => ?_
      refine W_region ?_
      refine WL_step rfl rfl (r_move rfl) ?_
      refine WL_step rfl rfl (r_move rfl) ?_
      refine WL_s rfl rfl ?_
      refine (s_index _F0_4.ls bcs_len el22 sz4 rfl rfl rfl (by omega) fun _p31 _y31 _hy31 _a31 => ?_)
      refine WL_step rfl rfl (r_loadAt0 _a31 agg4 rfl rfl) ?_
      refine WL_step rfl rfl (r_not rfl) ?_
      refine WL_nil ?_
      refine thn_nrm (_hK_49 _ _ ?_)
      clear _hK_49
      refine W_cond rfl (fun _h33 => ?_) (fun _h33 => ?_)
      · have _kb_50 := _h33
        refine W_region ?_
        refine WL_step rfl rfl (r_assign rfl) ?_
        refine WL_nil ?_
        refine thn_nrm (_hK_48 _ _ ?_)
        clear _hK_48
        refine W_region ?_
        refine WL_step rfl rfl (r_move rfl) ?_
        refine WL_step rfl rfl (r_move rfl) ?_
        refine WL_s rfl rfl ?_
        refine s_buildSlice (cs := ics) (parts := [(0, .tmp 35)]) (0 : Int) [(-1)] el32 sz3 zr3 ics_len (by decide) rfl rfl rfl (by decide) (by decide) rfl fun _v36 _w_51 _q36 _lo36 _cw_51 => ?_
        have _cw_51z := _cw_51.size
        have E := E.trans _cw_51
        obtain ⟨_Av36, _Cv36, _ev36⟩ := _q36.val
        subst _ev36
        have _lv36 := _q36.len
        have _hiv36 := _q36.lt
        refine WL_s rfl rfl ?_
        have _f_53 := (_o0_4.ch0 _cw_51)
        refine s_append (cs := ics) el32 sz3 by3 zr3 rfl (by decide) ics_one _f_53 _q36.ls rfl rfl (by have _h9 := clsi_len aA (liveL aA aN) q; simp only [List.length_singleton]; omega) (by have _h9 := clsi_len aA (liveL aA aN) q; simp only [List.length_singleton]; omega) _lo0_4 (by omega) fun _v37 _w_52 _q37 _lo37 _ap37 _cw_52 => ?_
        have _cw_52z := _cw_52.size
        have E := E.step _cw_52 (fun i hi => .inl (by have _h1 := _lo0_4 _ hi; omega))
        obtain ⟨_Av37, _Cv37, _ev37⟩ := _q37.val
        subst _ev37
        have _lv37 := _q37.len
        have _hiv37 := _q37.lt
        refine WL_step rfl rfl (r_assign rfl) ?_
        refine WL_nil ?_
        refine inB_nrm ?_
        refine thn_nrm (_hK_22 _ _ ?_)
        clear _hK_22
        refine W_region ?_
        refine WL_step rfl rfl (r_move rfl) ?_
        refine WL_step rfl rfl (r_add (by omega) rfl rfl) ?_
        refine WL_step rfl rfl (r_assign rfl) ?_
        refine WL_nil ?_
        have _on_54 : Ol ics 3 1 _w_52 (.slice _Av37 ((clsI aA (liveL aA aN) q ++ [(-1)])).length _Cv37) (clsI aA (liveL aA aN) (q + 1)) := by
          have hx := _q37
          exact hx.eq (clsi_step _hy27 _hy31 (by simp_all))
        have _f_55 := ((_F0_0.ch0 _cw_51).ch _cw_52 (fun hm => by have _h1 := _lo0_4 _ hm; have _h2 := hiiv _ hm; omega))
        have _f_56 := ((_F0_1.ch0 _cw_51).ch _cw_52 (fun i hi => by have _h1 := _lo0_4 _ hi; omega))
        have _f_57 := ((_F0_2.ch0 _cw_51).ch _cw_52 (fun i hi => by have _h1 := _lo0_4 _ hi; omega))
        have _f_58 := ((_F0_3.ch0 _cw_51).ch _cw_52 (fun i hi => by have _h1 := _lo0_4 _ hi; omega))
        have _f_59 := ((_F0_4.ch0 _cw_51).ch _cw_52 (fun g hg hm => by have _h1 := _lo0_4 _ hm; have _h2 := hiiv _ hm; have _h3 := _lo15 _ hg; have _h4 := _hiv15 _ hg; omega))
        exact thn_nrm (Exists.intro ((q + 1), (.slice _Av37 ((clsI aA (liveL aA aN) q ++ [(-1)])).length _Cv37)) ⟨⟨E, (by omega), (by omega), _f_55, _f_56, _f_57, _f_58, _f_59, _on_54, (Lo.down _lo37 (by omega))⟩, Sub.cons rfl (Sub.cons rfl (Sub.cons rfl (Sub.cons rfl (Sub.cons rfl (Sub.nil _))))), (by first | omega | (dsimp only; omega))⟩)
      · have _kb_50 := _h33
        refine W_skip ?_
        refine thn_nrm (_hK_48 _ _ ?_)
        clear _hK_48
        refine W_region ?_
        refine WL_step rfl rfl (r_move rfl) ?_
        refine WL_step rfl rfl (r_move rfl) ?_
        refine WL_s rfl rfl ?_
        refine s_buildSlice (cs := ics) (parts := [(0, .tmp 35)]) (0 : Int) [0] el32 sz3 zr3 ics_len (by decide) rfl rfl rfl (by decide) (by decide) rfl fun _v36 _w_60 _q36 _lo36 _cw_60 => ?_
        have _cw_60z := _cw_60.size
        have E := E.trans _cw_60
        obtain ⟨_Av36, _Cv36, _ev36⟩ := _q36.val
        subst _ev36
        have _lv36 := _q36.len
        have _hiv36 := _q36.lt
        refine WL_s rfl rfl ?_
        have _f_62 := (_o0_4.ch0 _cw_60)
        refine s_append (cs := ics) el32 sz3 by3 zr3 rfl (by decide) ics_one _f_62 _q36.ls rfl rfl (by have _h9 := clsi_len aA (liveL aA aN) q; simp only [List.length_singleton]; omega) (by have _h9 := clsi_len aA (liveL aA aN) q; simp only [List.length_singleton]; omega) _lo0_4 (by omega) fun _v37 _w_61 _q37 _lo37 _ap37 _cw_61 => ?_
        have _cw_61z := _cw_61.size
        have E := E.step _cw_61 (fun i hi => .inl (by have _h1 := _lo0_4 _ hi; omega))
        obtain ⟨_Av37, _Cv37, _ev37⟩ := _q37.val
        subst _ev37
        have _lv37 := _q37.len
        have _hiv37 := _q37.lt
        refine WL_step rfl rfl (r_assign rfl) ?_
        refine WL_nil ?_
        refine inB_nrm ?_
        refine thn_nrm (_hK_22 _ _ ?_)
        clear _hK_22
        refine W_region ?_
        refine WL_step rfl rfl (r_move rfl) ?_
        refine WL_step rfl rfl (r_add (by omega) rfl rfl) ?_
        refine WL_step rfl rfl (r_assign rfl) ?_
        refine WL_nil ?_
        have _on_63 : Ol ics 3 1 _w_61 (.slice _Av37 ((clsI aA (liveL aA aN) q ++ [0])).length _Cv37) (clsI aA (liveL aA aN) (q + 1)) := by
          have hx := _q37
          exact hx.eq (clsi_step _hy27 _hy31 (by simp_all))
        have _f_64 := ((_F0_0.ch0 _cw_60).ch _cw_61 (fun hm => by have _h1 := _lo0_4 _ hm; have _h2 := hiiv _ hm; omega))
        have _f_65 := ((_F0_1.ch0 _cw_60).ch _cw_61 (fun i hi => by have _h1 := _lo0_4 _ hi; omega))
        have _f_66 := ((_F0_2.ch0 _cw_60).ch _cw_61 (fun i hi => by have _h1 := _lo0_4 _ hi; omega))
        have _f_67 := ((_F0_3.ch0 _cw_60).ch _cw_61 (fun i hi => by have _h1 := _lo0_4 _ hi; omega))
        have _f_68 := ((_F0_4.ch0 _cw_60).ch _cw_61 (fun g hg hm => by have _h1 := _lo0_4 _ hm; have _h2 := hiiv _ hm; have _h3 := _lo15 _ hg; have _h4 := _hiv15 _ hg; omega))
        exact thn_nrm (Exists.intro ((q + 1), (.slice _Av37 ((clsI aA (liveL aA aN) q ++ [0])).length _Cv37)) ⟨⟨E, (by omega), (by omega), _f_64, _f_65, _f_66, _f_67, _f_68, _on_63, (Lo.down _lo37 (by omega))⟩, Sub.cons rfl (Sub.cons rfl (Sub.cons rfl (Sub.cons rfl (Sub.cons rfl (Sub.nil _))))), (by first | omega | (dsimp only; omega))⟩)
  · have _kb_21 := _h21
    have _h21 := bf_d _h21
    refine W_exit (thn_exit (thn_exit (inB_hit ?_)))
    refine thn_nrm (_hK_10 _ _ ?_)
    clear _hK_10
    refine W_seq fun _K_69 _hK_69 => ?_
    refine W_seq fun _K_70 _hK_70 => ?_
    refine W_region ?_
    refine WL_step rfl rfl (r_assign rfl) ?_
    refine WL_nil ?_
    refine thn_nrm (_hK_70 _ _ ?_)
    clear _hK_70
    refine W_block ?_
    have _oi_71 : Ol ics 3 1 _wr_18 (.slice Aiv (clsI aA (liveL aA aN) q).length Civ) (clsD aN (clsI aA (liveL aA aN) aA.length) aA.length 0) := by
      have hx := _o0_4
      exact hx.eq (by rw [show q = aA.length by omega]; rfl)
    refine W_loop (σ := Nat × Value) (fun ⟨_n9, cv⟩ => [(1, (.pointer (some ⟨_b1, 0, none⟩))), (4, cv), (7, (.int .i64 ((_n9 : Nat) : Int)))]) (fun ⟨_n9, cv⟩ wx => Ch [] w wx ∧ _wr_18.heap.size ≤ wx.heap.size ∧ (_n9 ≤ aA.length + 1) ∧ Blk wx _b1 28 [(.int .i64 aS), (.slice _A_aA aA.length _C_aA), (.slice _A_saN saN.length _C_saN)] ∧ Ls bcs 1 wx LL_aA w.heap.size (.slice _A_aA aA.length _C_aA) aA ∧ Ls Sv.cs 1 wx LL_saN w.heap.size (.slice _A_saN saN.length _C_saN) saN ∧ Rd ics 1 wx LR_aN w.heap.size saN aN ∧ Ol ics 3 1 wx cv (clsD aN (clsI aA (liveL aA aN) aA.length) aA.length _n9) ∧ Lo _w_7.heap.size cv) (fun ⟨_n9, cv⟩ => aA.length + 1 - _n9) (0, (.slice Aiv (clsI aA (liveL aA aN) q).length Civ)) (Sub.cons rfl (Sub.cons rfl (Sub.cons rfl (Sub.nil _)))) ⟨E, (Nat.le_refl _), (by omega), _F0_0, _F0_1, _F0_2, _F0_3, _oi_71, _lo0_4⟩ ?_
    rintro ⟨_n9, cv⟩ _wr_72 ⟨E, _zz1, hn9, _F1_0, _F1_1, _F1_2, _F1_3, _o1_4, _lo1_4⟩
    have _E1h := E
    have _E1hz := _E1h.size
    have _F1_0z := _F1_0.lt
    obtain ⟨Acv, Ccv, ecv⟩ := _o1_4.val
    subst ecv
    have lcv := _o1_4.len
    have hicv := _o1_4.lt
    have d9 := clsi_len aA (liveL aA aN) aA.length
    have cl9 := clsD_len (N := aN) d9 _n9
    refine W_seq fun _K_73 _hK_73 => ?_
    refine W_seq fun _K_74 _hK_74 => ?_
    refine W_region ?_
    refine WL_step rfl rfl (r_move rfl) ?_
    refine WL_step rfl rfl (r_fieldAddr fa28_1 rfl) ?_
    refine WL_step rfl rfl (r_loadAt _F1_0.at_ agg22 rfl rfl) ?_
    refine WL_step rfl rfl (r_len (by rw [el22]; rfl) rfl) ?_
    refine WL_step rfl rfl (r_leq rfl rfl) ?_
    refine WL_nil ?_
    refine thn_nrm (_hK_74 _ _ ?_)
    clear _hK_74
    refine W_cond rfl (fun _h42 => ?_) (fun _h42 => ?_)
    · have _kb_75 := _h42
      have _h42 := bt_d _h42
      refine W_skip ?_
      refine thn_nrm (_hK_73 _ _ ?_)
      clear _hK_73
      refine W_seq fun _K_76 _hK_76 => ?_
      refine W_block ?_
      refine W_seq fun _K_77 _hK_77 => ?_
      refine W_region ?_
      refine WL_s rfl rfl ?_
      refine s_buildSlice0 (k := 1) Sv.cs el23 sz32 fun _v45 _w_78 _q45 _lo45 _cw_78 => ?_
      have _cw_78z := _cw_78.size
      have E := E.trans _cw_78
      obtain ⟨_Av45, _Cv45, _ev45⟩ := _q45.val
      subst _ev45
      have _lv45 := _q45.len
      have _hiv45 := _q45.lt
      refine WL_step rfl rfl (r_assign rfl) ?_
      refine WL_nil ?_
      refine thn_nrm (_hK_77 _ _ ?_)
      clear _hK_77
      refine W_seq fun _K_79 _hK_79 => ?_
      refine W_region ?_
      refine WL_s rfl rfl ?_
      refine s_buildSlice0 (k := 1) ics el32 sz3 fun _v46 _w_80 _q46 _lo46 _cw_80 => ?_
      have _cw_80z := _cw_80.size
      have E := E.trans _cw_80
      obtain ⟨_Av46, _Cv46, _ev46⟩ := _q46.val
      subst _ev46
      have _lv46 := _q46.len
      have _hiv46 := _q46.lt
      refine WL_step rfl rfl (r_assign rfl) ?_
      refine WL_nil ?_
      refine thn_nrm (_hK_79 _ _ ?_)
      clear _hK_79
      refine W_seq fun _K_81 _hK_81 => ?_
      refine W_seq fun _K_82 _hK_82 => ?_
      refine W_region ?_
      refine WL_step rfl rfl (r_assign rfl) ?_
      refine WL_nil ?_
      refine thn_nrm (_hK_82 _ _ ?_)
      clear _hK_82
      refine W_block ?_
      have _f_83 := (_q45.ch0 _cw_80)
      have _oi_84 : Ol Sv.cs 32 1 _w_80 (.slice _Av45 (([] : List Sv)).length _Cv45) (([] : List Sv)) := by
        have hx := _f_83
        exact hx
      have _oi_85 : Ol ics 3 1 _w_80 (.slice _Av46 (([] : List Int)).length _Cv46) ((rfn (clsD aN (clsI aA (liveL aA aN) aA.length) aA.length _n9) aN 0).2) := by
        have hx := _q46
        exact hx
      have _f_86 := ((_F1_0.ch0 _cw_78).ch0 _cw_80)
      have _f_87 := ((_F1_1.ch0 _cw_78).ch0 _cw_80)
      have _f_88 := ((_F1_2.ch0 _cw_78).ch0 _cw_80)
      have _f_89 := ((_F1_3.ch0 _cw_78).ch0 _cw_80)
      have _f_90 := ((_o1_4.ch0 _cw_78).ch0 _cw_80)
      refine W_loop (σ := Nat × List Sv × Value × Value) (fun ⟨i, vs, kv, ov⟩ => [(1, (.pointer (some ⟨_b1, 0, none⟩))), (4, (.slice Acv (clsD aN (clsI aA (liveL aA aN) aA.length) aA.length _n9).length Ccv)), (7, (.int .i64 ((_n9 : Nat) : Int))), (8, kv), (9, ov), (10, (.int .i64 ((i : Nat) : Int))), (42, (.bool (decide (((_n9 : Nat) : Int) ≤ ((aA.length : Nat) : Int)))))]) (fun ⟨i, vs, kv, ov⟩ wx => Ch [] w wx ∧ _w_80.heap.size ≤ wx.heap.size ∧ (i ≤ aA.length) ∧ (vs.length = (rfn (clsD aN (clsI aA (liveL aA aN) aA.length) aA.length _n9) aN i).1.length) ∧ Blk wx _b1 28 [(.int .i64 aS), (.slice _A_aA aA.length _C_aA), (.slice _A_saN saN.length _C_saN)] ∧ Ls bcs 1 wx LL_aA w.heap.size (.slice _A_aA aA.length _C_aA) aA ∧ Ls Sv.cs 1 wx LL_saN w.heap.size (.slice _A_saN saN.length _C_saN) saN ∧ Rd ics 1 wx LR_aN w.heap.size saN aN ∧ Ol ics 3 1 wx (.slice Acv (clsD aN (clsI aA (liveL aA aN) aA.length) aA.length _n9).length Ccv) (clsD aN (clsI aA (liveL aA aN) aA.length) aA.length _n9) ∧ Ol Sv.cs 32 1 wx kv vs ∧ Lo _wr_72.heap.size kv ∧ Ol ics 3 1 wx ov ((rfn (clsD aN (clsI aA (liveL aA aN) aA.length) aA.length _n9) aN i).2) ∧ Lo _w_78.heap.size ov ∧ Od ics 3 1 wx _w_80.heap.size wx.heap.size vs ((rfn (clsD aN (clsI aA (liveL aA aN) aA.length) aA.length _n9) aN i).1) ∧ (∀ g ∈ bl ov, g ∉ bl kv) ∧ (Sep kv vs) ∧ (Sep ov vs)) (fun ⟨i, vs, kv, ov⟩ => aA.length - i) (0, ([] : List Sv), (.slice _Av45 (([] : List Sv)).length _Cv45), (.slice _Av46 (([] : List Int)).length _Cv46)) (Sub.cons rfl (Sub.cons rfl (Sub.cons rfl (Sub.cons rfl (Sub.cons rfl (Sub.cons rfl (Sub.cons rfl (Sub.nil _)))))))) ⟨E, (Nat.le_refl _), (by omega), rfl, _f_86, _f_87, _f_88, _f_89, _f_90, _oi_84, _lo45, _oi_85, _lo46, Od.nil, (fun g hm hg => by have _h1 := _lo46 _ hm; have _h2 := _hiv46 _ hm; have _h3 := _lo45 _ hg; have _h4 := _hiv45 _ hg; omega), (fun u hu => by cases hu), (fun u hu => by cases hu)⟩ ?_
      rintro ⟨i, vs, kv, ov⟩ _wr_91 ⟨E, _zz2, hi, hvl, _F2_0, _F2_1, _F2_2, _F2_3, _F2_4, _o2_8, _lo2_8, _o2_9, _lo2_9, od, _djl2_9_o8, _spl2_8, _spl2_9⟩
      have _E2h := E
      have _E2hz := _E2h.size
      have _F2_0z := _F2_0.lt
      obtain ⟨Akv, Ckv, ekv⟩ := _o2_8.val
      subst ekv
      have lkv := _o2_8.len
      have hikv := _o2_8.lt
      obtain ⟨Aov, Cov, eov⟩ := _o2_9.val
      subst eov
      have lov := _o2_9.len
      have hiov := _o2_9.lt
      have rl9 := rfn_len (clsD aN (clsI aA (liveL aA aN) aA.length) aA.length _n9) aN i
      refine W_seq fun _K_92 _hK_92 => ?_
      refine W_seq fun _K_93 _hK_93 => ?_
      refine W_region ?_
      refine WL_step rfl rfl (r_move rfl) ?_
      refine WL_step rfl rfl (r_fieldAddr fa28_1 rfl) ?_
      refine WL_step rfl rfl (r_loadAt _F2_0.at_ agg22 rfl rfl) ?_
      refine WL_step rfl rfl (r_len (by rw [el22]; rfl) rfl) ?_
      refine WL_step rfl rfl (r_lss rfl rfl) ?_
      refine WL_nil ?_
      refine thn_nrm (_hK_93 _ _ ?_)
      clear _hK_93
      refine W_cond rfl (fun _h51 => ?_) (fun _h51 => ?_)
      · have _kb_94 := _h51
        have _h51 := bt_d _h51
        refine W_skip ?_
        refine thn_nrm (_hK_92 _ _ ?_)
        clear _hK_92
        refine W_seq fun _K_95 _hK_95 => ?_
        refine W_block ?_
        refine W_seq fun _K_96 _hK_96 => ?_
        refine W_seq fun _K_97 _hK_97 => ?_
        refine W_region ?_
        refine WL_step rfl rfl (r_move rfl) ?_
        refine WL_step rfl rfl (r_move rfl) ?_
        refine WL_s rfl rfl ?_
        refine (s_index _F2_4.ls ics_len el32 sz3 rfl rfl rfl (by omega) fun _p56 _y56 _hy56 _a56 => ?_)
        refine WL_step rfl rfl (r_loadAt0 _a56 agg3 rfl rfl) ?_
        refine WL_step rfl rfl (r_lss rfl rfl) ?_
        refine WL_nil ?_
        refine thn_nrm (_hK_97 _ _ ?_)
        clear _hK_97
        refine W_cond rfl (fun _h58 => ?_) (fun _h58 => ?_)
        · have _kb_98 := _h58
          have _h58 := bt_d _h58
          refine W_seq fun _K_99 _hK_99 => ?_
          refine W_region ?_
          refine WL_step rfl rfl (r_move rfl) ?_
          refine WL_s rfl rfl ?_
          refine s_buildSlice (cs := ics) (parts := [(0, .const (Go.Value.int Go.IntKind.i64 (-1)))]) (0 : Int) [(-1)] el32 sz3 zr3 ics_len (by decide) rfl rfl rfl (by decide) (by decide) rfl fun _v60 _w_100 _q60 _lo60 _cw_100 => ?_
          have _cw_100z := _cw_100.size
          have E := E.trans _cw_100
          obtain ⟨_Av60, _Cv60, _ev60⟩ := _q60.val
          subst _ev60
          have _lv60 := _q60.len
          have _hiv60 := _q60.lt
          refine WL_s rfl rfl ?_
          have _f_102 := (_o2_9.ch0 _cw_100)
          refine s_append (cs := ics) el32 sz3 by3 zr3 rfl (by decide) ics_one _f_102 _q60.ls rfl rfl (by simp only [List.length_singleton]; omega) (by simp only [List.length_singleton]; omega) _lo2_9 (by omega) fun _v61 _w_101 _q61 _lo61 _ap61 _cw_101 => ?_
          have _cw_101z := _cw_101.size
          have E := E.step _cw_101 (fun i hi => .inl (by have _h1 := _lo2_9 _ hi; omega))
          obtain ⟨_Av61, _Cv61, _ev61⟩ := _q61.val
          subst _ev61
          have _lv61 := _q61.len
          have _hiv61 := _q61.lt
          refine WL_step rfl rfl (r_assign rfl) ?_
          refine WL_nil ?_
          refine thn_nrm (_hK_99 _ _ ?_)
          clear _hK_99
          refine W_exit (thn_exit (inB_hit ?_))
          refine thn_nrm (_hK_95 _ _ ?_)
          clear _hK_95
          refine W_region ?_
          refine WL_step rfl rfl (r_move rfl) ?_
          refine WL_step rfl rfl (r_add (by omega) rfl rfl) ?_
          refine WL_step rfl rfl (r_assign rfl) ?_
          refine WL_nil ?_
          have _f_104 := ((_o2_8.ch0 _cw_100).ch _cw_101 (fun g hg hm => by exact _djl2_9_o8 _ hm hg))
          have _on_103 : Ol Sv.cs 32 1 _w_101 (.slice Akv (vs).length Ckv) (vs) := by
            have hx := _f_104
            exact hx
          have _on_105 : Ol ics 3 1 _w_101 (.slice _Av61 (((rfn (clsD aN (clsI aA (liveL aA aN) aA.length) aA.length _n9) aN i).2 ++ [(-1)])).length _Cv61) ((rfn (clsD aN (clsI aA (liveL aA aN) aA.length) aA.length _n9) aN (i + 1)).2) := by
            have hx := _q61
            first | exact hx.eq (rfn2_n _hy56 (by omega)) | exact hx.eq (rf2_o _hy56 (by omega) rfl (lastp_ix hat (by omega) (rfn_nodup _ _ _)) (by omega)) | exact hx.eq (rf2_new _hy56 (by omega) rfl (lastp_ix hat (by omega) (rfn_nodup _ _ _)) (by omega) hvl)
          have _f_106 := ((od.ch0 _cw_100).chS _cw_101 _spl2_9)
          have _f_107 := ((_F2_0.ch0 _cw_100).ch _cw_101 (fun hm => by have _h1 := _lo2_9 _ hm; have _h2 := hiov _ hm; omega))
          have _f_108 := ((_F2_1.ch0 _cw_100).ch _cw_101 (fun i hi => by have _h1 := _lo2_9 _ hi; omega))
          have _f_109 := ((_F2_2.ch0 _cw_100).ch _cw_101 (fun i hi => by have _h1 := _lo2_9 _ hi; omega))
          have _f_110 := ((_F2_3.ch0 _cw_100).ch _cw_101 (fun i hi => by have _h1 := _lo2_9 _ hi; omega))
          have _f_111 := ((_F2_4.ch0 _cw_100).ch _cw_101 (fun g hg hm => by have _h1 := _lo2_9 _ hm; have _h2 := hiov _ hm; have _h3 := _lo1_4 _ hg; have _h4 := hicv _ hg; omega))
          exact thn_nrm (Exists.intro ((i + 1), vs, (.slice Akv (vs).length Ckv), (.slice _Av61 (((rfn (clsD aN (clsI aA (liveL aA aN) aA.length) aA.length _n9) aN i).2 ++ [(-1)])).length _Cv61)) ⟨⟨E, (by omega), (by omega), (by first | (rw [rfn1_n _hy56 (by omega)]; exact hvl) | (rw [rf1_o _hy56 (by omega) rfl (lastp_ix hat (by omega) (rfn_nodup _ _ _)) (by omega)]; exact hvl)), _f_107, _f_108, _f_109, _f_110, _f_111, _on_103, (Lo.down _lo2_8 (by omega)), _on_105, (Lo.down _lo61 (by omega)), (by first | (rw [rfn1_n _hy56 (by omega)]; exact _f_106.up (Nat.le_refl _) (by omega)) | (rw [rf1_o _hy56 (by omega) rfl (lastp_ix hat (by omega) (rfn_nodup _ _ _)) (by omega)]; exact _f_106.up (Nat.le_refl _) (by omega))), (fun g hm hg => by rcases _ap61 with ea | ea; (rw [ea] at hm; exact _djl2_9_o8 _ hm hg); (have z2hm := _hiv61 _ hm; rw [ea] at hm; have _z1 := List.mem_singleton.1 hm; have _h3 := _lo2_8 _ hg; have _h4 := hikv _ hg; omega)), (fun u hu g hg hm => by exact _spl2_8 _ hu _ hg hm), (fun u hu g hg hm => by rcases _ap61 with ea | ea; (rw [ea] at hm; exact _spl2_9 _ hu _ hg hm); (rw [ea] at hm; have _z1 := List.mem_singleton.1 hm; have _h9 := _f_106.rng hu hg; omega))⟩, Sub.cons rfl (Sub.cons rfl (Sub.cons rfl (Sub.cons rfl (Sub.cons rfl (Sub.cons rfl (Sub.cons rfl (Sub.nil _))))))), (by first | omega | (dsimp only; omega))⟩)
        · have _kb_98 := _h58
          have _h58 := bf_d _h58
          refine W_skip ?_
          refine thn_nrm (_hK_96 _ _ ?_)
          clear _hK_96
          refine W_seq fun _K_112 _hK_112 => ?_
          refine W_region ?_
          refine WL_step rfl rfl (r_loadAtA0 _F2_0.at_ agg28 sz28 rfl) ?_
          refine WL_step rfl rfl (r_move rfl) ?_
          refine WL_step rfl rfl (r_move rfl) ?_
          refine WL_s rfl rfl ?_
          refine Step.call (r_call (xs := [.tmp 62, .tmp 63, .tmp 64]) fk107 rfl) (c_spec_l12Key _ _F2_1 _F2_2 _F2_3 _F2_4.ls _ hv cl9 (by omega)) fun _v65 _w_113 _q65 => ?_
          obtain ⟨_q65, _lo65, _cw_113⟩ := _q65
          have _cw_113z := _cw_113.size
          have E := E.trans _cw_113
          obtain ⟨_Av65, _Cv65, _ev65⟩ := _q65.val
          subst _ev65
          have _lv65 := _q65.len
          have _hiv65 := _q65.lt
          refine WL_step rfl rfl (r_assign rfl) ?_
          refine WL_nil ?_
          refine thn_nrm (_hK_112 _ _ ?_)
          clear _hK_112
          refine W_seq fun _K_114 _hK_114 => ?_
          refine W_region ?_
          refine WL_step rfl rfl (r_assign rfl) ?_
          refine WL_nil ?_
          refine thn_nrm (_hK_114 _ _ ?_)
          clear _hK_114
          refine W_seq fun _K_115 _hK_115 => ?_
          refine W_seq fun _K_116 _hK_116 => ?_
          refine W_region ?_
          refine WL_step rfl rfl (r_assign rfl) ?_
          refine WL_nil ?_
          refine thn_nrm (_hK_116 _ _ ?_)
          clear _hK_116
          refine W_block ?_
          have _f_117 := (_F2_0.ch0 _cw_113)
          have _f_118 := (_F2_1.ch0 _cw_113)
          have _f_119 := (_F2_2.ch0 _cw_113)
          have _f_120 := (_F2_3.ch0 _cw_113)
          have _f_121 := (_F2_4.ch0 _cw_113)
          have _f_122 := (_o2_8.ch0 _cw_113)
          have _f_123 := (_o2_9.ch0 _cw_113)
          have _f_124 := (od.ch0 _cw_113)
          refine W_loop (σ := Nat × Int) (fun ⟨k, at9⟩ => [(1, (.pointer (some ⟨_b1, 0, none⟩))), (4, (.slice Acv (clsD aN (clsI aA (liveL aA aN) aA.length) aA.length _n9).length Ccv)), (7, (.int .i64 ((_n9 : Nat) : Int))), (8, (.slice Akv (vs).length Ckv)), (9, (.slice Aov ((rfn (clsD aN (clsI aA (liveL aA aN) aA.length) aA.length _n9) aN i).2).length Cov)), (10, (.int .i64 ((i : Nat) : Int))), (11, (.slice _Av65 (keyC (clsD aN (clsI aA (liveL aA aN) aA.length) aA.length _n9) (aN.getD ((i : Nat) : Int).toNat []) ((clsD aN (clsI aA (liveL aA aN) aA.length) aA.length _n9).getD ((i : Nat) : Int).toNat 0)).length _Cv65)), (12, (.int .i64 at9)), (13, (.int .i64 ((k : Nat) : Int))), (42, (.bool (decide (((_n9 : Nat) : Int) ≤ ((aA.length : Nat) : Int))))), (51, (.bool (decide (((i : Nat) : Int) < ((aA.length : Nat) : Int))))), (58, (.bool (decide (_y56 < 0))))]) (fun ⟨k, at9⟩ wx => Ch [] w wx ∧ _w_113.heap.size ≤ wx.heap.size ∧ (k ≤ vs.length) ∧ (LastP (rfn (clsD aN (clsI aA (liveL aA aN) aA.length) aA.length _n9) aN i).1 (keyC (clsD aN (clsI aA (liveL aA aN) aA.length) aA.length _n9) (aN.getD i []) ((clsD aN (clsI aA (liveL aA aN) aA.length) aA.length _n9).getD i 0)) k at9) ∧ Blk wx _b1 28 [(.int .i64 aS), (.slice _A_aA aA.length _C_aA), (.slice _A_saN saN.length _C_saN)] ∧ Ls bcs 1 wx LL_aA w.heap.size (.slice _A_aA aA.length _C_aA) aA ∧ Ls Sv.cs 1 wx LL_saN w.heap.size (.slice _A_saN saN.length _C_saN) saN ∧ Rd ics 1 wx LR_aN w.heap.size saN aN ∧ Ol ics 3 1 wx (.slice Acv (clsD aN (clsI aA (liveL aA aN) aA.length) aA.length _n9).length Ccv) (clsD aN (clsI aA (liveL aA aN) aA.length) aA.length _n9) ∧ Ol Sv.cs 32 1 wx (.slice Akv (vs).length Ckv) vs ∧ Ol ics 3 1 wx (.slice Aov ((rfn (clsD aN (clsI aA (liveL aA aN) aA.length) aA.length _n9) aN i).2).length Cov) ((rfn (clsD aN (clsI aA (liveL aA aN) aA.length) aA.length _n9) aN i).2) ∧ Ol ics 3 1 wx (.slice _Av65 (keyC (clsD aN (clsI aA (liveL aA aN) aA.length) aA.length _n9) (aN.getD ((i : Nat) : Int).toNat []) ((clsD aN (clsI aA (liveL aA aN) aA.length) aA.length _n9).getD ((i : Nat) : Int).toNat 0)).length _Cv65) (keyC (clsD aN (clsI aA (liveL aA aN) aA.length) aA.length _n9) (aN.getD ((i : Nat) : Int).toNat []) ((clsD aN (clsI aA (liveL aA aN) aA.length) aA.length _n9).getD ((i : Nat) : Int).toNat 0)) ∧ Od ics 3 1 wx _w_80.heap.size _wr_91.heap.size vs ((rfn (clsD aN (clsI aA (liveL aA aN) aA.length) aA.length _n9) aN i).1)) (fun ⟨k, at9⟩ => vs.length - k) (0, -1) (Sub.cons rfl (Sub.cons rfl (Sub.cons rfl (Sub.cons rfl (Sub.cons rfl (Sub.cons rfl (Sub.cons rfl (Sub.cons rfl (Sub.cons rfl (Sub.cons rfl (Sub.cons rfl (Sub.cons rfl (Sub.nil _))))))))))))) ⟨E, (Nat.le_refl _), (by omega), (lastp_zero _ _), _f_117, _f_118, _f_119, _f_120, _f_121, _f_122, _f_123, _q65, _f_124⟩ ?_
          rintro ⟨k, at9⟩ _wr_125 ⟨E, _zz3, _hk, hat, _F3_0, _F3_1, _F3_2, _F3_3, _F3_4, _F3_5, _F3_6, _F3_7, _F3_8⟩
          have _E3h := E
          have _E3hz := _E3h.size
          have _F3_0z := _F3_0.lt
          refine W_seq fun _K_126 _hK_126 => ?_
          refine W_seq fun _K_127 _hK_127 => ?_
          refine W_region ?_
          refine WL_step rfl rfl (r_move rfl) ?_
          refine WL_step rfl rfl (r_move rfl) ?_
          refine WL_step rfl rfl (r_len (by rw [el23]; rfl) rfl) ?_
          refine WL_step rfl rfl (r_lss rfl rfl) ?_
          refine WL_nil ?_
          refine thn_nrm (_hK_127 _ _ ?_)
          clear _hK_127
          refine W_cond rfl (fun _h69 => ?_) (fun _h69 => ?_)
          · have _kb_128 := _h69
            have _h69 := bt_d _h69
            refine W_skip ?_
            refine thn_nrm (_hK_126 _ _ ?_)
            clear _hK_126
            refine W_seq fun _K_129 _hK_129 => ?_
            refine W_block ?_
            refine W_seq fun _K_130 _hK_130 => ?_
            refine W_region ?_
            refine WL_step rfl rfl (r_move rfl) ?_
            refine WL_step rfl rfl (r_move rfl) ?_
            refine WL_s rfl rfl ?_
            refine (s_index _F3_5.ls Sv.len el23 sz32 rfl rfl rfl (by omega) fun _p74 _y74 _hy74 _a74 => ?_)
            obtain ⟨_ys74, _hys74, _fs74⟩ := _F3_8.get _hy74
            obtain ⟨_A74, _n74, _C74⟩ := _y74
            obtain rfl := _fs74.eqn
            have _l74 := _fs74.len
            replace _fs74 : Ls ics 1 _wr_125 0 _wr_125.heap.size (.slice _A74 _ys74.length _C74) _ys74 := _fs74
            replace _a74 : At _wr_125 0 _wr_125.heap.size _p74 ([(.slice _A74 _ys74.length _C74)]) := _a74
            refine WL_step rfl rfl (r_loadAt0 _a74 agg32 rfl rfl) ?_
            refine WL_step rfl rfl (r_move rfl) ?_
            refine WL_s rfl rfl ?_
            refine Step.call (r_call (xs := [.tmp 75, .tmp 76]) fk108 rfl) (c_spec_l2Cmp _fs74 _F3_7.ls ) fun _v77 _w_131 _q77 => ?_
            obtain ⟨rfl, _cw_131⟩ := _q77
            have _cw_131z := _cw_131.size
            have E := E.trans _cw_131
            refine WL_step rfl rfl (r_eql rfl rfl) ?_
            refine WL_nil ?_
            refine thn_nrm (_hK_130 _ _ ?_)
            clear _hK_130
            refine W_cond rfl (fun _h78 => ?_) (fun _h78 => ?_)
            · have _kb_132 := _h78
              have _h78 := bt_d _h78
              refine W_region ?_
              refine WL_step rfl rfl (r_move rfl) ?_
              refine WL_step rfl rfl (r_assign rfl) ?_
              refine WL_nil ?_
              refine inB_nrm ?_
              refine thn_nrm (_hK_129 _ _ ?_)
              clear _hK_129
              refine W_region ?_
              refine WL_step rfl rfl (r_move rfl) ?_
              refine WL_step rfl rfl (r_add (by omega) rfl rfl) ?_
              refine WL_step rfl rfl (r_assign rfl) ?_
              refine WL_nil ?_
              have _f_133 := (_F3_0.ch0 _cw_131)
              have _f_134 := (_F3_1.ch0 _cw_131)
              have _f_135 := (_F3_2.ch0 _cw_131)
              have _f_136 := (_F3_3.ch0 _cw_131)
              have _f_137 := (_F3_4.ch0 _cw_131)
              have _f_138 := (_F3_5.ch0 _cw_131)
              have _f_139 := (_F3_6.ch0 _cw_131)
              have _f_140 := (_F3_7.ch0 _cw_131)
              have _f_141 := (_F3_8.ch0 _cw_131)
              exact thn_nrm (Exists.intro ((k + 1), ((k : Nat) : Int)) ⟨⟨E, (by omega), (by omega), (by first | exact lastp_hit _hys74 (cmpL_eq.1 (by assumption)) | exact lastp_miss hat _hys74 (fun e => (by assumption : ¬ _) (cmpL_eq.2 e))), _f_133, _f_134, _f_135, _f_136, _f_137, _f_138, _f_139, _f_140, _f_141⟩, Sub.cons rfl (Sub.cons rfl (Sub.cons rfl (Sub.cons rfl (Sub.cons rfl (Sub.cons rfl (Sub.cons rfl (Sub.cons rfl (Sub.cons rfl (Sub.cons rfl (Sub.cons rfl (Sub.cons rfl (Sub.nil _)))))))))))), (by first | omega | (dsimp only; omega))⟩)
            · have _kb_132 := _h78
              have _h78 := bf_d _h78
              refine W_skip ?_
              refine inB_nrm ?_
              refine thn_nrm (_hK_129 _ _ ?_)
              clear _hK_129
              refine W_region ?_
              refine WL_step rfl rfl (r_move rfl) ?_
              refine WL_step rfl rfl (r_add (by omega) rfl rfl) ?_
              refine WL_step rfl rfl (r_assign rfl) ?_
              refine WL_nil ?_
              have _f_142 := (_F3_0.ch0 _cw_131)
              have _f_143 := (_F3_1.ch0 _cw_131)
              have _f_144 := (_F3_2.ch0 _cw_131)
              have _f_145 := (_F3_3.ch0 _cw_131)
              have _f_146 := (_F3_4.ch0 _cw_131)
              have _f_147 := (_F3_5.ch0 _cw_131)
              have _f_148 := (_F3_6.ch0 _cw_131)
              have _f_149 := (_F3_7.ch0 _cw_131)
              have _f_150 := (_F3_8.ch0 _cw_131)
              exact thn_nrm (Exists.intro ((k + 1), at9) ⟨⟨E, (by omega), (by omega), (by first | exact lastp_hit _hys74 (cmpL_eq.1 (by assumption)) | exact lastp_miss hat _hys74 (fun e => (by assumption : ¬ _) (cmpL_eq.2 e))), _f_142, _f_143, _f_144, _f_145, _f_146, _f_147, _f_148, _f_149, _f_150⟩, Sub.cons rfl (Sub.cons rfl (Sub.cons rfl (Sub.cons rfl (Sub.cons rfl (Sub.cons rfl (Sub.cons rfl (Sub.cons rfl (Sub.cons rfl (Sub.cons rfl (Sub.cons rfl (Sub.cons rfl (Sub.nil _)))))))))))), (by first | omega | (dsimp only; omega))⟩)
          · have _kb_128 := _h69
            have _h69 := bf_d _h69
            refine W_exit (thn_exit (thn_exit (inB_hit ?_)))
            refine thn_nrm (_hK_115 _ _ ?_)
            clear _hK_115
            refine W_seq fun _K_151 _hK_151 => ?_
            refine W_seq fun _K_152 _hK_152 => ?_
            refine W_region ?_
            refine WL_step rfl rfl (r_move rfl) ?_
            refine WL_step rfl rfl (r_lss rfl rfl) ?_
            refine WL_nil ?_
            refine thn_nrm (_hK_152 _ _ ?_)
            clear _hK_152
            refine W_cond rfl (fun _h81 => ?_) (fun _h81 => ?_)
            · have _kb_153 := _h81
              have _h81 := bt_d _h81
              refine W_seq fun _K_154 _hK_154 => ?_
              refine W_region ?_
              refine WL_step rfl rfl (r_move rfl) ?_
              refine WL_step rfl rfl (r_len (by rw [el23]; rfl) rfl) ?_
              refine WL_step rfl rfl (r_assign rfl) ?_
              refine WL_nil ?_
              refine thn_nrm (_hK_154 _ _ ?_)
              clear _hK_154
              refine W_region ?_
              refine WL_step rfl rfl (r_move rfl) ?_
              refine WL_step rfl rfl (r_move rfl) ?_
              refine WL_s rfl rfl ?_
              refine s_buildSlice (cs := Sv.cs) (parts := [(0, .tmp 85)]) (⟨none, 0, 0⟩ : Sv) [(⟨_Av65, (keyC (clsD aN (clsI aA (liveL aA aN) aA.length) aA.length _n9) (aN.getD ((i : Nat) : Int).toNat []) ((clsD aN (clsI aA (liveL aA aN) aA.length) aA.length _n9).getD ((i : Nat) : Int).toNat 0)).length, _Cv65⟩ : Sv)] el23 sz32 zr32 Sv.len (by decide) rfl rfl rfl (by decide) (by decide) rfl fun _v86 _w_155 _q86 _lo86 _cw_155 => ?_
              have _cw_155z := _cw_155.size
              have E := E.trans _cw_155
              obtain ⟨_Av86, _Cv86, _ev86⟩ := _q86.val
              subst _ev86
              have _lv86 := _q86.len
              have _hiv86 := _q86.lt
              have _f_156 := (_F3_7.ch0 _cw_155)
              have _rd86 : Rd ics 1 _w_155 0 _w_155.heap.size ([(⟨_Av65, (keyC (clsD aN (clsI aA (liveL aA aN) aA.length) aA.length _n9) (aN.getD ((i : Nat) : Int).toNat []) ((clsD aN (clsI aA (liveL aA aN) aA.length) aA.length _n9).getD ((i : Nat) : Int).toNat 0)).length, _Cv65⟩ : Sv)]) ([keyC (clsD aN (clsI aA (liveL aA aN) aA.length) aA.length _n9) (aN.getD ((i : Nat) : Int).toNat []) ((clsD aN (clsI aA (liveL aA aN) aA.length) aA.length _n9).getD ((i : Nat) : Int).toNat 0)]) := (Rd.cons (_f_156.ls.up (by omega) (by omega)) Rd.nil)
              refine WL_s rfl rfl ?_
              have _f_158 := (_F3_5.ch0 _cw_155)
              refine s_append (cs := Sv.cs) el23 sz32 by32 zr32 rfl (by decide) Sv.one _f_158 _q86.ls rfl rfl (by simp only [List.length_singleton]; omega) (by simp only [List.length_singleton]; omega) _lo2_8 (by omega) fun _v87 _w_157 _q87 _lo87 _ap87 _cw_157 => ?_
              have _cw_157z := _cw_157.size
              have E := E.step _cw_157 (fun i hi => .inl (by have _h1 := _lo2_8 _ hi; omega))
              obtain ⟨_Av87, _Cv87, _ev87⟩ := _q87.val
              subst _ev87
              have _lv87 := _q87.len
              have _hiv87 := _q87.lt
              refine WL_step rfl rfl (r_assign rfl) ?_
              refine WL_nil ?_
              refine thn_nrm (_hK_151 _ _ ?_)
              clear _hK_151
              refine W_region ?_
              refine WL_step rfl rfl (r_move rfl) ?_
              refine WL_step rfl rfl (r_move rfl) ?_
              refine WL_s rfl rfl ?_
              refine s_buildSlice (cs := ics) (parts := [(0, .tmp 89)]) (0 : Int) [((vs.length : Nat) : Int)] el32 sz3 zr3 ics_len (by decide) rfl rfl rfl (by decide) (by decide) rfl fun _v90 _w_159 _q90 _lo90 _cw_159 => ?_
              have _cw_159z := _cw_159.size
              have E := E.trans _cw_159
              obtain ⟨_Av90, _Cv90, _ev90⟩ := _q90.val
              subst _ev90
              have _lv90 := _q90.len
              have _hiv90 := _q90.lt
              refine WL_s rfl rfl ?_
              have _f_161 := (((_F3_6.ch0 _cw_155).ch _cw_157 (fun g hg hm => by exact _djl2_9_o8 _ hg hm)).ch0 _cw_159)
              refine s_append (cs := ics) el32 sz3 by3 zr3 rfl (by decide) ics_one _f_161 _q90.ls rfl rfl (by simp only [List.length_singleton]; omega) (by simp only [List.length_singleton]; omega) _lo2_9 (by omega) fun _v91 _w_160 _q91 _lo91 _ap91 _cw_160 => ?_
              have _cw_160z := _cw_160.size
              have E := E.step _cw_160 (fun i hi => .inl (by have _h1 := _lo2_9 _ hi; omega))
              obtain ⟨_Av91, _Cv91, _ev91⟩ := _q91.val
              subst _ev91
              have _lv91 := _q91.len
              have _hiv91 := _q91.lt
              refine WL_step rfl rfl (r_assign rfl) ?_
              refine WL_nil ?_
              refine inB_nrm ?_
              refine thn_nrm (_hK_95 _ _ ?_)
              clear _hK_95
              refine W_region ?_
              refine WL_step rfl rfl (r_move rfl) ?_
              refine WL_step rfl rfl (r_add (by omega) rfl rfl) ?_
              refine WL_step rfl rfl (r_assign rfl) ?_
              refine WL_nil ?_
              have _f_163 := ((_q87.ch0 _cw_159).ch _cw_160 (fun g hg hm => by rcases _ap87 with ea | ea; (rw [ea] at hg; exact _djl2_9_o8 _ hm hg); (rw [ea] at hg; have _z1 := List.mem_singleton.1 hg; have _h1 := _lo2_9 _ hm; have _h2 := hiov _ hm; omega)))
              have _on_162 : Ol Sv.cs 32 1 _w_160 (.slice _Av87 ((vs ++ [(⟨_Av65, (keyC (clsD aN (clsI aA (liveL aA aN) aA.length) aA.length _n9) (aN.getD ((i : Nat) : Int).toNat []) ((clsD aN (clsI aA (liveL aA aN) aA.length) aA.length _n9).getD ((i : Nat) : Int).toNat 0)).length, _Cv65⟩ : Sv)])).length _Cv87) ((vs ++ [(⟨_Av65, (keyC (clsD aN (clsI aA (liveL aA aN) aA.length) aA.length _n9) (aN.getD ((i : Nat) : Int).toNat []) ((clsD aN (clsI aA (liveL aA aN) aA.length) aA.length _n9).getD ((i : Nat) : Int).toNat 0)).length, _Cv65⟩ : Sv)])) := by
                have hx := _f_163
                exact hx
              have _on_164 : Ol ics 3 1 _w_160 (.slice _Av91 (((rfn (clsD aN (clsI aA (liveL aA aN) aA.length) aA.length _n9) aN i).2 ++ [((vs.length : Nat) : Int)])).length _Cv91) ((rfn (clsD aN (clsI aA (liveL aA aN) aA.length) aA.length _n9) aN (i + 1)).2) := by
                have hx := _q91
                first | exact hx.eq (rfn2_n _hy56 (by omega)) | exact hx.eq (rf2_o _hy56 (by omega) rfl (lastp_ix hat (by omega) (rfn_nodup _ _ _)) (by omega)) | exact hx.eq (rf2_new _hy56 (by omega) rfl (lastp_ix hat (by omega) (rfn_nodup _ _ _)) (by omega) hvl)
              have _f_165 := ((((_F3_8.ch0 _cw_155).chS _cw_157 _spl2_8).ch0 _cw_159).chS _cw_160 _spl2_9)
              have _f_166 := (((_f_156.ch _cw_157 (fun g hg hm => by have _h1 := _lo2_8 _ hm; have _h2 := hikv _ hm; have _h3 := _lo65 _ hg; have _h4 := _hiv65 _ hg; omega)).ch0 _cw_159).ch _cw_160 (fun g hg hm => by have _h1 := _lo2_9 _ hm; have _h2 := hiov _ hm; have _h3 := _lo65 _ hg; have _h4 := _hiv65 _ hg; omega))
              have _f_167 := ((((_F3_0.ch0 _cw_155).ch _cw_157 (fun hm => by have _h1 := _lo2_8 _ hm; have _h2 := hikv _ hm; omega)).ch0 _cw_159).ch _cw_160 (fun hm => by have _h1 := _lo2_9 _ hm; have _h2 := hiov _ hm; omega))
              have _f_168 := ((((_F3_1.ch0 _cw_155).ch _cw_157 (fun i hi => by have _h1 := _lo2_8 _ hi; omega)).ch0 _cw_159).ch _cw_160 (fun i hi => by have _h1 := _lo2_9 _ hi; omega))
              have _f_169 := ((((_F3_2.ch0 _cw_155).ch _cw_157 (fun i hi => by have _h1 := _lo2_8 _ hi; omega)).ch0 _cw_159).ch _cw_160 (fun i hi => by have _h1 := _lo2_9 _ hi; omega))
              have _f_170 := ((((_F3_3.ch0 _cw_155).ch _cw_157 (fun i hi => by have _h1 := _lo2_8 _ hi; omega)).ch0 _cw_159).ch _cw_160 (fun i hi => by have _h1 := _lo2_9 _ hi; omega))
              have _f_171 := ((((_F3_4.ch0 _cw_155).ch _cw_157 (fun g hg hm => by have _h1 := _lo2_8 _ hm; have _h2 := hikv _ hm; have _h3 := _lo1_4 _ hg; have _h4 := hicv _ hg; omega)).ch0 _cw_159).ch _cw_160 (fun g hg hm => by have _h1 := _lo2_9 _ hm; have _h2 := hiov _ hm; have _h3 := _lo1_4 _ hg; have _h4 := hicv _ hg; omega))
              exact thn_nrm (Exists.intro ((i + 1), (vs ++ [(⟨_Av65, (keyC (clsD aN (clsI aA (liveL aA aN) aA.length) aA.length _n9) (aN.getD ((i : Nat) : Int).toNat []) ((clsD aN (clsI aA (liveL aA aN) aA.length) aA.length _n9).getD ((i : Nat) : Int).toNat 0)).length, _Cv65⟩ : Sv)]), (.slice _Av87 ((vs ++ [(⟨_Av65, (keyC (clsD aN (clsI aA (liveL aA aN) aA.length) aA.length _n9) (aN.getD ((i : Nat) : Int).toNat []) ((clsD aN (clsI aA (liveL aA aN) aA.length) aA.length _n9).getD ((i : Nat) : Int).toNat 0)).length, _Cv65⟩ : Sv)])).length _Cv87), (.slice _Av91 (((rfn (clsD aN (clsI aA (liveL aA aN) aA.length) aA.length _n9) aN i).2 ++ [((vs.length : Nat) : Int)])).length _Cv91)) ⟨⟨E, (by omega), (by omega), (by rw [rf1_new _hy56 (by omega) rfl (lastp_ix hat (by omega) (rfn_nodup _ _ _)) (by omega), List.length_append, List.length_append, hvl]; rfl), _f_167, _f_168, _f_169, _f_170, _f_171, _on_162, (Lo.down _lo87 (by omega)), _on_164, (Lo.down _lo91 (by omega)), (by rw [rf1_new _hy56 (by omega) rfl (lastp_ix hat (by omega) (rfn_nodup _ _ _)) (by omega)]; exact Od.snoc _f_165 _f_166 (Lo.down _lo65 (by omega)) (fun g hg => by have _h1 := _hiv65 g hg; omega) (by omega) (by omega)), (fun g hm hg => by rcases _ap91 with ea | ea; (rw [ea] at hm; rcases _ap87 with ea | ea; (rw [ea] at hg; exact _djl2_9_o8 _ hm hg); (have z2hg := _hiv87 _ hg; rw [ea] at hg; have _z1 := List.mem_singleton.1 hg; have _h1 := _lo2_9 _ hm; have _h2 := hiov _ hm; omega)); (have z2hm := _hiv91 _ hm; rw [ea] at hm; have _z1 := List.mem_singleton.1 hm; rcases _ap87 with ea | ea; (rw [ea] at hg; have _h3 := _lo2_8 _ hg; have _h4 := hikv _ hg; omega); (have z2hg := _hiv87 _ hg; rw [ea] at hg; have _z1 := List.mem_singleton.1 hg; omega))), (fun u hu g hg hm => by rcases List.mem_append.1 hu with hu | hu; (rcases _ap87 with ea | ea; (rw [ea] at hm; exact _spl2_8 _ hu _ hg hm); (rw [ea] at hm; have _z1 := List.mem_singleton.1 hm; have _h9 := _f_165.rng hu hg; omega)); (rw [List.mem_singleton.1 hu] at hg; rcases _ap87 with ea | ea; (rw [ea] at hm; have _h1 := _lo2_8 _ hm; have _h2 := hikv _ hm; have _h3 := _lo65 _ hg; have _h4 := _hiv65 _ hg; omega); (rw [ea] at hm; have _z1 := List.mem_singleton.1 hm; have _h3 := _lo65 _ hg; have _h4 := _hiv65 _ hg; omega))), (fun u hu g hg hm => by rcases List.mem_append.1 hu with hu | hu; (rcases _ap91 with ea | ea; (rw [ea] at hm; exact _spl2_9 _ hu _ hg hm); (rw [ea] at hm; have _z1 := List.mem_singleton.1 hm; have _h9 := _f_165.rng hu hg; omega)); (rw [List.mem_singleton.1 hu] at hg; rcases _ap91 with ea | ea; (rw [ea] at hm; have _h1 := _lo2_9 _ hm; have _h2 := hiov _ hm; have _h3 := _lo65 _ hg; have _h4 := _hiv65 _ hg; omega); (rw [ea] at hm; have _z1 := List.mem_singleton.1 hm; have _h3 := _lo65 _ hg; have _h4 := _hiv65 _ hg; omega)))⟩, Sub.cons rfl (Sub.cons rfl (Sub.cons rfl (Sub.cons rfl (Sub.cons rfl (Sub.cons rfl (Sub.cons rfl (Sub.nil _))))))), (by first | omega | (dsimp only; omega))⟩)
            · have _kb_153 := _h81
              have _h81 := bf_d _h81
              refine W_skip ?_
              refine thn_nrm (_hK_151 _ _ ?_)
              clear _hK_151
              refine W_region ?_
              refine WL_step rfl rfl (r_move rfl) ?_
              refine WL_step rfl rfl (r_move rfl) ?_
              refine WL_s rfl rfl ?_
              refine s_buildSlice (cs := ics) (parts := [(0, .tmp 89)]) (0 : Int) [at9] el32 sz3 zr3 ics_len (by decide) rfl rfl rfl (by decide) (by decide) rfl fun _v90 _w_172 _q90 _lo90 _cw_172 => ?_
              have _cw_172z := _cw_172.size
              have E := E.trans _cw_172
              obtain ⟨_Av90, _Cv90, _ev90⟩ := _q90.val
              subst _ev90
              have _lv90 := _q90.len
              have _hiv90 := _q90.lt
              refine WL_s rfl rfl ?_
              have _f_174 := (_F3_6.ch0 _cw_172)
              refine s_append (cs := ics) el32 sz3 by3 zr3 rfl (by decide) ics_one _f_174 _q90.ls rfl rfl (by simp only [List.length_singleton]; omega) (by simp only [List.length_singleton]; omega) _lo2_9 (by omega) fun _v91 _w_173 _q91 _lo91 _ap91 _cw_173 => ?_
              have _cw_173z := _cw_173.size
              have E := E.step _cw_173 (fun i hi => .inl (by have _h1 := _lo2_9 _ hi; omega))
              obtain ⟨_Av91, _Cv91, _ev91⟩ := _q91.val
              subst _ev91
              have _lv91 := _q91.len
              have _hiv91 := _q91.lt
              refine WL_step rfl rfl (r_assign rfl) ?_
              refine WL_nil ?_
              refine inB_nrm ?_
              refine thn_nrm (_hK_95 _ _ ?_)
              clear _hK_95
              refine W_region ?_
              refine WL_step rfl rfl (r_move rfl) ?_
              refine WL_step rfl rfl (r_add (by omega) rfl rfl) ?_
              refine WL_step rfl rfl (r_assign rfl) ?_
              refine WL_nil ?_
              have _f_176 := ((_F3_5.ch0 _cw_172).ch _cw_173 (fun g hg hm => by exact _djl2_9_o8 _ hm hg))
              have _on_175 : Ol Sv.cs 32 1 _w_173 (.slice Akv (vs).length Ckv) (vs) := by
                have hx := _f_176
                exact hx
              have _on_177 : Ol ics 3 1 _w_173 (.slice _Av91 (((rfn (clsD aN (clsI aA (liveL aA aN) aA.length) aA.length _n9) aN i).2 ++ [at9])).length _Cv91) ((rfn (clsD aN (clsI aA (liveL aA aN) aA.length) aA.length _n9) aN (i + 1)).2) := by
                have hx := _q91
                first | exact hx.eq (rfn2_n _hy56 (by omega)) | exact hx.eq (rf2_o _hy56 (by omega) rfl (lastp_ix hat (by omega) (rfn_nodup _ _ _)) (by omega)) | exact hx.eq (rf2_new _hy56 (by omega) rfl (lastp_ix hat (by omega) (rfn_nodup _ _ _)) (by omega) hvl)
              have _f_178 := ((_F3_8.ch0 _cw_172).chS _cw_173 _spl2_9)
              have _f_179 := ((_F3_0.ch0 _cw_172).ch _cw_173 (fun hm => by have _h1 := _lo2_9 _ hm; have _h2 := hiov _ hm; omega))
              have _f_180 := ((_F3_1.ch0 _cw_172).ch _cw_173 (fun i hi => by have _h1 := _lo2_9 _ hi; omega))
              have _f_181 := ((_F3_2.ch0 _cw_172).ch _cw_173 (fun i hi => by have _h1 := _lo2_9 _ hi; omega))
              have _f_182 := ((_F3_3.ch0 _cw_172).ch _cw_173 (fun i hi => by have _h1 := _lo2_9 _ hi; omega))
              have _f_183 := ((_F3_4.ch0 _cw_172).ch _cw_173 (fun g hg hm => by have _h1 := _lo2_9 _ hm; have _h2 := hiov _ hm; have _h3 := _lo1_4 _ hg; have _h4 := hicv _ hg; omega))
              exact thn_nrm (Exists.intro ((i + 1), vs, (.slice Akv (vs).length Ckv), (.slice _Av91 (((rfn (clsD aN (clsI aA (liveL aA aN) aA.length) aA.length _n9) aN i).2 ++ [at9])).length _Cv91)) ⟨⟨E, (by omega), (by omega), (by first | (rw [rfn1_n _hy56 (by omega)]; exact hvl) | (rw [rf1_o _hy56 (by omega) rfl (lastp_ix hat (by omega) (rfn_nodup _ _ _)) (by omega)]; exact hvl)), _f_179, _f_180, _f_181, _f_182, _f_183, _on_175, (Lo.down _lo2_8 (by omega)), _on_177, (Lo.down _lo91 (by omega)), (by first | (rw [rfn1_n _hy56 (by omega)]; exact _f_178.up (Nat.le_refl _) (by omega)) | (rw [rf1_o _hy56 (by omega) rfl (lastp_ix hat (by omega) (rfn_nodup _ _ _)) (by omega)]; exact _f_178.up (Nat.le_refl _) (by omega))), (fun g hm hg => by rcases _ap91 with ea | ea; (rw [ea] at hm; exact _djl2_9_o8 _ hm hg); (have z2hm := _hiv91 _ hm; rw [ea] at hm; have _z1 := List.mem_singleton.1 hm; have _h3 := _lo2_8 _ hg; have _h4 := hikv _ hg; omega)), (fun u hu g hg hm => by exact _spl2_8 _ hu _ hg hm), (fun u hu g hg hm => by rcases _ap91 with ea | ea; (rw [ea] at hm; exact _spl2_9 _ hu _ hg hm); (rw [ea] at hm; have _z1 := List.mem_singleton.1 hm; have _h9 := _f_178.rng hu hg; omega))⟩, Sub.cons rfl (Sub.cons rfl (Sub.cons rfl (Sub.cons rfl (Sub.cons rfl (Sub.cons rfl (Sub.cons rfl (Sub.nil _))))))), (by first | omega | (dsimp only; omega))⟩)
      · have _kb_94 := _h51
        have _h51 := bf_d _h51
        refine W_exit (thn_exit (thn_exit (inB_hit ?_)))
        refine thn_nrm (_hK_81 _ _ ?_)
        clear _hK_81
        refine W_seq fun _K_184 _hK_184 => ?_
        refine W_seq fun _K_185 _hK_185 => ?_
        refine W_region ?_
        refine WL_step rfl rfl (r_move rfl) ?_
        refine WL_step rfl rfl (r_move rfl) ?_
        refine WL_s rfl rfl ?_
        refine Step.call (r_call (xs := [.tmp 92, .tmp 93]) fk108 rfl) (c_spec_l2Cmp _o2_9.ls _F2_4.ls ) fun _v94 _w_186 _q94 => ?_
        obtain ⟨rfl, _cw_186⟩ := _q94
        have _cw_186z := _cw_186.size
        have E := E.trans _cw_186
        refine WL_step rfl rfl (r_eql rfl rfl) ?_
        refine WL_nil ?_
        refine thn_nrm (_hK_185 _ _ ?_)
        clear _hK_185
        refine W_cond rfl (fun _h95 => ?_) (fun _h95 => ?_)
        · have _kb_187 := _h95
          have _h95 := bt_d _h95
          refine W_seq fun _K_188 _hK_188 => ?_
          refine W_region ?_
          refine WL_step rfl rfl (r_move rfl) ?_
          refine WL_step rfl rfl (r_assign rfl) ?_
          refine WL_nil ?_
          refine thn_nrm (_hK_188 _ _ ?_)
          clear _hK_188
          refine W_ret (thn_ret (inB_ret (thn_ret (thn_ret (inB_ret (thn_ret ?_))))))
          clear _hK_19 _hK_69 _hK_76 _hK_92 _hK_184
          have _f_189 := (_F2_4.ch0 _cw_186)
          have _o_190 : Ol ics 3 1 _w_186 (.slice Acv (clsD aN (clsI aA (liveL aA aN) aA.length) aA.length _n9).length Ccv) (clsF aN (clsI aA (liveL aA aN) aA.length) aA.length) := by
            have hx := _f_189
            first | exact hx.eq (cls_fix d9 (by have _q9 := cmpL_eq.1 _h95; rw [show i = aA.length by omega] at _q9; exact _q9)) | exact hx.eq (by rw [show _n9 = aA.length + 1 by omega]; exact cls_last d9)
          exact ret_intro [_] ⟨rfl, trivial⟩ ⟨_o_190, Lo.down _lo1_4 (by omega), E⟩
        · have _kb_187 := _h95
          have _h95 := bf_d _h95
          refine W_skip ?_
          refine thn_nrm (_hK_184 _ _ ?_)
          clear _hK_184
          refine W_region ?_
          refine WL_step rfl rfl (r_move rfl) ?_
          refine WL_step rfl rfl (r_assign rfl) ?_
          refine WL_nil ?_
          refine inB_nrm ?_
          refine thn_nrm (_hK_76 _ _ ?_)
          clear _hK_76
          refine W_region ?_
          refine WL_step rfl rfl (r_move rfl) ?_
          refine WL_step rfl rfl (r_add (by omega) rfl rfl) ?_
          refine WL_step rfl rfl (r_assign rfl) ?_
          refine WL_nil ?_
          have _f_192 := (_o2_9.ch0 _cw_186)
          have _on_191 : Ol ics 3 1 _w_186 (.slice Aov ((rfn (clsD aN (clsI aA (liveL aA aN) aA.length) aA.length _n9) aN i).2).length Cov) (clsD aN (clsI aA (liveL aA aN) aA.length) aA.length (_n9 + 1)) := by
            have hx := _f_192
            exact hx.eq (by rw [show i = aA.length by omega]; rfl)
          have _f_193 := (_F2_0.ch0 _cw_186)
          have _f_194 := (_F2_1.ch0 _cw_186)
          have _f_195 := (_F2_2.ch0 _cw_186)
          have _f_196 := (_F2_3.ch0 _cw_186)
          exact thn_nrm (Exists.intro ((_n9 + 1), (.slice Aov ((rfn (clsD aN (clsI aA (liveL aA aN) aA.length) aA.length _n9) aN i).2).length Cov)) ⟨⟨E, (by omega), (by omega), _f_193, _f_194, _f_195, _f_196, _on_191, (Lo.down _lo2_9 (by omega))⟩, Sub.cons rfl (Sub.cons rfl (Sub.cons rfl (Sub.nil _))), (by first | omega | (dsimp only; omega))⟩)
    · have _kb_75 := _h42
      have _h42 := bf_d _h42
      refine W_exit (thn_exit (thn_exit (inB_hit ?_)))
      refine thn_nrm (_hK_69 _ _ ?_)
      clear _hK_69
      refine W_seq fun _K_197 _hK_197 => ?_
      refine W_region ?_
      refine WL_step rfl rfl (r_move rfl) ?_
      refine WL_step rfl rfl (r_assign rfl) ?_
      refine WL_nil ?_
      refine thn_nrm (_hK_197 _ _ ?_)
      clear _hK_197
      refine W_ret ?_
      clear _hK_19 _hK_73
      have _o_198 : Ol ics 3 1 _wr_72 (.slice Acv (clsD aN (clsI aA (liveL aA aN) aA.length) aA.length _n9).length Ccv) (clsF aN (clsI aA (liveL aA aN) aA.length) aA.length) := by
        have hx := _o1_4
        first | exact hx.eq (cls_fix d9 (by have _q9 := cmpL_eq.1 _h95; rw [show i = aA.length by omega] at _q9; exact _q9)) | exact hx.eq (by rw [show _n9 = aA.length + 1 by omega]; exact cls_last d9)
      exact ret_intro [_] ⟨rfl, trivial⟩ ⟨_o_198, Lo.down _lo1_4 (by omega), E⟩

/-- spec.StateClasses -/
theorem c_spec_StateClasses {w : World} (aS : Int) {LL_aA _B_aA : Nat} {_v_aA : Value} {aA : List Bool} (_h_aA : Ls bcs 1 w LL_aA _B_aA _v_aA aA) {LL_saN _B_saN : Nat} {_v_saN : Value} {saN : List Sv} (_h_saN : Ls Sv.cs 1 w LL_saN _B_saN _v_saN saN) {LR_aN BB_aN : Nat} {aN : List (List Int)} (_rd_aN : Rd ics 1 w LR_aN BB_aN saN aN) :
    Ctr Try.prog 45 #[(.agg #[(.int .i64 aS), _v_aA, _v_saN])] w (fun v w' => Ol ics 3 1 w' v (scR aS aA aN) ∧ Lo w.heap.size v ∧ Ch [] w w') := by
  obtain ⟨_A_aA, _C_aA, _e1_aA⟩ := _h_aA.val
  subst _e1_aA
  have _l_aA := _h_aA.len
  have _h_aA := _h_aA.here (by decide)
  obtain ⟨_A_saN, _C_saN, _e1_saN⟩ := _h_saN.val
  subst _e1_saN
  have _l_saN := _h_saN.len
  have _h_saN := _h_saN.here (by decide)
  have _rd_aN := _rd_aN.here (by decide)
  have _rl_aN := _rd_aN.1
  have E := Ch.refl [] w
  refine Ctr_of_W (N := 9) (vs0 := [(.agg #[(.int .i64 aS), (.slice _A_aA aA.length _C_aA), (.slice _A_saN saN.length _C_saN)])]) Try.func45 rfl rfl rfl ?_
  refine W_seq fun _K_1 _hK_1 => ?_
  refine W_region ?_
  refine WL_s rfl rfl ?_
  refine s_box rfl fun _b1 _w_2 _m1 _cw_2 _e1 => ?_
  have _cw_2z := _cw_2.size
  have E := E.trans _cw_2
  have _z1 := _m1.lt
  replace _m1 : Blk _w_2 _b1 28 [(.int .i64 aS), (.slice _A_aA aA.length _C_aA), (.slice _A_saN saN.length _C_saN)] := _m1
  refine WL_step rfl rfl (r_assign rfl) ?_
  refine WL_nil ?_
  refine thn_nrm (_hK_1 _ _ ?_)
  clear _hK_1
  refine W_seq fun _K_3 _hK_3 => ?_
  refine W_seq fun _K_4 _hK_4 => ?_
  refine W_region ?_
  refine WL_step rfl rfl (r_loadAtA0 _m1.at_ agg28 sz28 rfl) ?_
  refine WL_s rfl rfl ?_
  have _f_5 := (_h_aA.ch0 _cw_2)
  have _f_6 := (_rd_aN.ch0 _cw_2)
  have _f_7 := (_h_saN.ch0 _cw_2)
  refine Step.call (r_call (xs := [.tmp 3]) fk49 rfl) (c_spec_IsValidAutomaton _ _f_5 _f_7 _f_6 ) fun _v4 _w_8 _q4 => ?_
  obtain ⟨rfl, _cw_8⟩ := _q4
  have _cw_8z := _cw_8.size
  have E := E.trans _cw_8
  refine WL_step rfl rfl (r_not rfl) ?_
  refine WL_nil ?_
  refine thn_nrm (_hK_4 _ _ ?_)
  clear _hK_4
  refine W_cond rfl (fun _h5 => ?_) (fun _h5 => ?_)
  · have _kb_9 := _h5
    have _h5 := bf_t (bt_n _h5)
    refine W_seq fun _K_10 _hK_10 => ?_
    refine W_region ?_
    refine WL_s rfl rfl ?_
    refine s_buildSlice0 (k := 1) ics el32 sz3 fun _v6 _w_11 _q6 _lo6 _cw_11 => ?_
    have _cw_11z := _cw_11.size
    have E := E.trans _cw_11
    obtain ⟨_Av6, _Cv6, _ev6⟩ := _q6.val
    subst _ev6
    have _lv6 := _q6.len
    have _hiv6 := _q6.lt
    refine WL_step rfl rfl (r_assign rfl) ?_
    refine WL_nil ?_
    refine thn_nrm (_hK_10 _ _ ?_)
    clear _hK_10
    refine W_ret (thn_ret ?_)
    clear _hK_3
    have _o_12 : Ol ics 3 1 _w_11 (.slice _Av6 (([] : List Int)).length _Cv6) (scR aS aA aN) := by
      have hx := _q6
      first | exact hx.eq (scR_n _h5) | exact hx.eq (scR_y _h5)
    exact ret_intro [_] ⟨rfl, trivial⟩ ⟨_o_12, Lo.down _lo6 (by omega), E⟩
  · have _kb_9 := _h5
    have _h5 := bt_t (bf_n _h5)
    refine W_skip ?_
    refine thn_nrm (_hK_3 _ _ ?_)
    clear _hK_3
    refine W_seq fun _K_13 _hK_13 => ?_
    refine W_region ?_
    have _f_14 := (_m1.ch0 _cw_8)
    refine WL_step rfl rfl (r_loadAtA0 _f_14.at_ agg28 sz28 rfl) ?_
    refine WL_s rfl rfl ?_
    have _f_15 := (_f_5.ch0 _cw_8)
    have _f_16 := (_f_6.ch0 _cw_8)
    have _f_17 := (_f_7.ch0 _cw_8)
    refine Step.call (r_call (xs := [.tmp 7]) fk93 rfl) (c_spec_l12Classes _ _f_15 _f_17 _f_16 _h5) fun _v8 _w_18 _q8 => ?_
    obtain ⟨_q8, _lo8, _cw_18⟩ := _q8
    have _cw_18z := _cw_18.size
    have E := E.trans _cw_18
    obtain ⟨_Av8, _Cv8, _ev8⟩ := _q8.val
    subst _ev8
    have _lv8 := _q8.len
    have _hiv8 := _q8.lt
    refine WL_step rfl rfl (r_assign rfl) ?_
    refine WL_nil ?_
    refine thn_nrm (_hK_13 _ _ ?_)
    clear _hK_13
    refine W_ret ?_
    have _o_19 : Ol ics 3 1 _w_18 (.slice _Av8 (clsF aN (clsI aA (liveL aA aN) aA.length) aA.length).length _Cv8) (scR aS aA aN) := by
      have hx := _q8
      first | exact hx.eq (scR_n _h5) | exact hx.eq (scR_y _h5)
    exact ret_intro [_] ⟨rfl, trivial⟩ ⟨_o_19, Lo.down _lo8 (by omega), E⟩

/-- laws.FnExactStateClasses -/
theorem c_laws_FnExactStateClasses {w : World} (aS : Int) {LL_aA _B_aA : Nat} {_v_aA : Value} {aA : List Bool} (_h_aA : Ls bcs 1 w LL_aA _B_aA _v_aA aA) {LL_saN _B_saN : Nat} {_v_saN : Value} {saN : List Sv} (_h_saN : Ls Sv.cs 1 w LL_saN _B_saN _v_saN saN) {LR_aN BB_aN : Nat} {aN : List (List Int)} (_rd_aN : Rd ics 1 w LR_aN BB_aN saN aN) :
    Ctr Try.prog 13 #[(.agg #[(.int .i64 aS), _v_aA, _v_saN])] w (fun v w' => v = .bool (true) ∧ Ch [] w w') := by
  obtain ⟨_A_aA, _C_aA, _e1_aA⟩ := _h_aA.val
  subst _e1_aA
  have _l_aA := _h_aA.len
  have _h_aA := _h_aA.here (by decide)
  obtain ⟨_A_saN, _C_saN, _e1_saN⟩ := _h_saN.val
  subst _e1_saN
  have _l_saN := _h_saN.len
  have _h_saN := _h_saN.here (by decide)
  have _rd_aN := _rd_aN.here (by decide)
  have _rl_aN := _rd_aN.1
  have E := Ch.refl [] w
  have sl := scR_len aS aA aN
  refine Ctr_of_W (N := 69) (vs0 := [(.agg #[(.int .i64 aS), (.slice _A_aA aA.length _C_aA), (.slice _A_saN saN.length _C_saN)])]) Try.func13 rfl rfl rfl ?_
  refine W_seq fun _K_1 _hK_1 => ?_
  refine W_region ?_
  refine WL_s rfl rfl ?_
  refine s_box rfl fun _b1 _w_2 _m1 _cw_2 _e1 => ?_
  have _cw_2z := _cw_2.size
  have E := E.trans _cw_2
  have _z1 := _m1.lt
  replace _m1 : Blk _w_2 _b1 25 [(.int .i64 aS), (.slice _A_aA aA.length _C_aA), (.slice _A_saN saN.length _C_saN)] := _m1
  refine WL_step rfl rfl (r_assign rfl) ?_
  refine WL_nil ?_
  refine thn_nrm (_hK_1 _ _ ?_)
  clear _hK_1
  refine W_seq fun _K_3 _hK_3 => ?_
  refine W_region ?_
  refine WL_step rfl rfl (r_assign rfl) ?_
  refine WL_nil ?_
  refine thn_nrm (_hK_3 _ _ ?_)
  clear _hK_3
  refine W_seq fun _K_4 _hK_4 => ?_
  refine W_region ?_
  refine WL_step rfl rfl (r_loadAtA0 _m1.at_ agg25 sz25 rfl) ?_
  refine WL_step rfl rfl (r_move rfl) ?_
  refine WL_s rfl rfl ?_
  have _f_5 := (_h_aA.ch0 _cw_2)
  have _f_6 := (_rd_aN.ch0 _cw_2)
  have _f_7 := (_h_saN.ch0 _cw_2)
  refine Step.call (r_call (xs := [.tmp 11, .tmp 12]) fk14 rfl) (c_laws_szAutomaton _ _f_5 _f_7 _f_6 _ (by omega) (by omega)) fun _v13 _w_8 _q13 => ?_
  obtain ⟨rfl, _cw_8⟩ := _q13
  have _cw_8z := _cw_8.size
  have E := E.trans _cw_8
  refine WL_step rfl rfl (r_assign rfl) ?_
  refine WL_nil ?_
  refine thn_nrm (_hK_4 _ _ ?_)
  clear _hK_4
  refine W_seq fun _K_9 _hK_9 => ?_
  refine W_seq fun _K_10 _hK_10 => ?_
  refine W_region ?_
  refine WL_step rfl rfl (r_move rfl) ?_
  refine WL_step rfl rfl (r_lss rfl rfl) ?_
  refine WL_nil ?_
  refine thn_nrm (_hK_10 _ _ ?_)
  clear _hK_10
  refine W_cond rfl (fun _h15 => ?_) (fun _h15 => ?_)
  · have _kb_11 := _h15
    have _h15 := bt_d _h15
    refine W_seq fun _K_12 _hK_12 => ?_
    refine W_region ?_
    refine WL_step rfl rfl (r_assign rfl) ?_
    refine WL_nil ?_
    refine thn_nrm (_hK_12 _ _ ?_)
    clear _hK_12
    refine W_ret (thn_ret ?_)
    clear _hK_9
    exact ret_intro [_] ⟨rfl, trivial⟩ ⟨congrArg Value.bool (by first | rfl | (exfalso; omega) | (exfalso; revert _h15; simp; done) | (exfalso; revert _h15; simp; omega)), E⟩
  · have _kb_11 := _h15
    have _h15 := bf_d _h15
    refine W_skip ?_
    refine thn_nrm (_hK_9 _ _ ?_)
    clear _hK_9
    refine W_seq fun _K_13 _hK_13 => ?_
    refine W_region ?_
    have _f_14 := (_m1.ch0 _cw_8)
    refine WL_step rfl rfl (r_loadAtA0 _f_14.at_ agg25 sz25 rfl) ?_
    refine WL_s rfl rfl ?_
    have _f_15 := (_f_5.ch0 _cw_8)
    have _f_16 := (_f_6.ch0 _cw_8)
    have _f_17 := (_f_7.ch0 _cw_8)
    refine Step.call (r_call (xs := [.tmp 16]) fk16 rfl) (c_laws_toAutomaton _ _f_15 _f_17 _f_16 (by omega)) fun _v17 _w_18 _q17 => ?_
    obtain ⟨u17_0x1, u17_0x2, _vs17_0x2, rfl, _q_u17_0x1, _lo_u17_0x1, _q_u17_0x2, _lo_u17_0x2, _od_vs17_0x2, _sep_vs17_0x2, _dj_u17_0x1_u17_0x2, _sep_u17_0x1_vs17_0x2, _cw_18⟩ := _q17
    have _cw_18z := _cw_18.size
    have E := E.trans _cw_18
    obtain ⟨Au17_0x1, Cu17_0x1, eu17_0x1⟩ := _q_u17_0x1.val
    subst eu17_0x1
    have lu17_0x1 := _q_u17_0x1.len
    have _hiu17_0x1 := _q_u17_0x1.lt
    obtain ⟨Au17_0x2, Cu17_0x2, eu17_0x2⟩ := _q_u17_0x2.val
    subst eu17_0x2
    have lu17_0x2 := _q_u17_0x2.len
    have _hiu17_0x2 := _q_u17_0x2.lt
    refine WL_s rfl rfl ?_
    refine Step.call (r_call (xs := [.tmp 17]) fk45 rfl) (c_spec_StateClasses _ _q_u17_0x1.ls _q_u17_0x2.ls _od_vs17_0x2.rd ) fun _v18 _w_19 _q18 => ?_
    obtain ⟨_q18, _lo18, _cw_19⟩ := _q18
    have _cw_19z := _cw_19.size
    have E := E.trans _cw_19
    obtain ⟨_Av18, _Cv18, _ev18⟩ := _q18.val
    subst _ev18
    have _lv18 := _q18.len
    have _hiv18 := _q18.lt
    refine WL_step rfl rfl (r_assign rfl) ?_
    refine WL_nil ?_
    refine thn_nrm (_hK_13 _ _ ?_)
    clear _hK_13
    refine W_seq fun _K_20 _hK_20 => ?_
    refine W_region ?_
    have _f_21 := ((_f_14.ch0 _cw_18).ch0 _cw_19)
    refine WL_step rfl rfl (r_loadAtA0 _f_21.at_ agg25 sz25 rfl) ?_
    refine WL_s rfl rfl ?_
    have _f_22 := ((_f_15.ch0 _cw_18).ch0 _cw_19)
    have _f_23 := ((_f_16.ch0 _cw_18).ch0 _cw_19)
    have _f_24 := ((_f_17.ch0 _cw_18).ch0 _cw_19)
    refine Step.call (r_call (xs := [.tmp 19]) fk16 rfl) (c_laws_toAutomaton _ _f_22 _f_24 _f_23 (by omega)) fun _v20 _w_25 _q20 => ?_
    obtain ⟨u20_0x1, u20_0x2, _vs20_0x2, rfl, _q_u20_0x1, _lo_u20_0x1, _q_u20_0x2, _lo_u20_0x2, _od_vs20_0x2, _sep_vs20_0x2, _dj_u20_0x1_u20_0x2, _sep_u20_0x1_vs20_0x2, _cw_25⟩ := _q20
    have _cw_25z := _cw_25.size
    have E := E.trans _cw_25
    obtain ⟨Au20_0x1, Cu20_0x1, eu20_0x1⟩ := _q_u20_0x1.val
    subst eu20_0x1
    have lu20_0x1 := _q_u20_0x1.len
    have _hiu20_0x1 := _q_u20_0x1.lt
    obtain ⟨Au20_0x2, Cu20_0x2, eu20_0x2⟩ := _q_u20_0x2.val
    subst eu20_0x2
    have lu20_0x2 := _q_u20_0x2.len
    have _hiu20_0x2 := _q_u20_0x2.lt
    refine WL_s rfl rfl ?_
    refine s_alloc zr28 fun _b5 _w_26 _m5 _cw_26 _e5 => ?_
    have _cw_26z := _cw_26.size
    have E := E.trans _cw_26
    have _z5 := _m5.lt
    replace _m5 : Blk _w_26 _b5 28 [(.int .i64 0), (.slice none 0 0), (.slice none 0 0)] := _m5
    refine WL_s rfl rfl ?_
    refine s_storeA (off := 0) 3 _m5 sz28 rfl (us := [(.int .i64 aS), (.slice Au20_0x1 (aA).length Cu20_0x1), (.slice Au20_0x2 (_vs20_0x2).length Cu20_0x2)]) rfl rfl rfl rfl fun _w_27 _m_28 _cw_27 => ?_
    have _cw_27z := _cw_27.size
    have E := E.step _cw_27 (fun i hi => .inl (by have _h1 := List.mem_singleton.1 hi; omega))
    replace _m_28 : Blk _w_27 _b5 28 [(.int .i64 aS), (.slice Au20_0x1 (aA).length Cu20_0x1), (.slice Au20_0x2 (_vs20_0x2).length Cu20_0x2)] := _m_28
    refine WL_nil ?_
    refine thn_nrm (_hK_20 _ _ ?_)
    clear _hK_20
    refine W_seq fun _K_29 _hK_29 => ?_
    refine W_region ?_
    refine WL_step rfl rfl (r_loadAtA0 _m_28.at_ agg28 sz28 rfl) ?_
    refine WL_s rfl rfl ?_
    have _f_30 := ((_q_u20_0x1.ch0 _cw_26).ch _cw_27 (fun g hg hm => by have _h0 := List.mem_singleton.1 hm; have _h2 := _lo_u20_0x1 _ hg; have _h3 := _hiu20_0x1 _ hg; omega))
    have _f_31 := ((_od_vs20_0x2.ch0 _cw_26).ch _cw_27 (fun i hi => by have _h1 := List.mem_singleton.1 hi; omega))
    have _f_32 := ((_q_u20_0x2.ch0 _cw_26).ch _cw_27 (fun g hg hm => by have _h0 := List.mem_singleton.1 hm; have _h2 := _lo_u20_0x2 _ hg; have _h3 := _hiu20_0x2 _ hg; omega))
    refine Step.call (r_call (xs := [.tmp 21]) fk46 rfl) (c_impl_StateClasses _ _f_30.ls _f_32.ls _f_31.rd ) fun _v22 _w_33 _q22 => ?_
    obtain ⟨_q22, _lo22, _cw_33⟩ := _q22
    have _cw_33z := _cw_33.size
    have E := E.trans _cw_33
    obtain ⟨_Av22, _Cv22, _ev22⟩ := _q22.val
    subst _ev22
    have _lv22 := _q22.len
    have _hiv22 := _q22.lt
    refine WL_step rfl rfl (r_assign rfl) ?_
    refine WL_nil ?_
    refine thn_nrm (_hK_29 _ _ ?_)
    clear _hK_29
    refine W_seq fun _K_34 _hK_34 => ?_
    refine W_seq fun _K_35 _hK_35 => ?_
    refine W_region ?_
    refine WL_step rfl rfl (r_move rfl) ?_
    refine WL_step rfl rfl (r_move rfl) ?_
    refine WL_s rfl rfl ?_
    have _f_36 := ((((_q18.ch0 _cw_25).ch0 _cw_26).ch _cw_27 (fun g hg hm => by have _h0 := List.mem_singleton.1 hm; have _h2 := _lo18 _ hg; have _h3 := _hiv18 _ hg; omega)).ch0 _cw_33)
    refine Step.call (r_call (xs := [.tmp 23, .tmp 24]) fk25 rfl) (c_laws_eqIntS _q22.ls _f_36.ls ) fun _v25 _w_37 _q25 => ?_
    obtain ⟨rfl, _cw_37⟩ := _q25
    have _cw_37z := _cw_37.size
    have E := E.trans _cw_37
    refine WL_step rfl rfl (r_not rfl) ?_
    refine WL_nil ?_
    refine thn_nrm (_hK_35 _ _ ?_)
    clear _hK_35
    refine W_cond rfl (fun _h26 => ?_) (fun _h26 => ?_)
    · have _kb_38 := _h26
      have _h26 := bf_d (bt_n _h26)
      refine W_seq fun _K_39 _hK_39 => ?_
      refine W_region ?_
      refine WL_step rfl rfl (r_assign rfl) ?_
      refine WL_nil ?_
      refine thn_nrm (_hK_39 _ _ ?_)
      clear _hK_39
      refine W_ret (thn_ret ?_)
      clear _hK_34
      exact ret_intro [_] ⟨rfl, trivial⟩ ⟨congrArg Value.bool (by first | rfl | (exfalso; omega) | (exfalso; revert _h26; simp; done) | (exfalso; revert _h26; simp; omega)), E⟩
    · have _kb_38 := _h26
      have _h26 := bt_d (bf_n _h26)
      refine W_skip ?_
      refine thn_nrm (_hK_34 _ _ ?_)
      clear _hK_34
      refine W_seq fun _K_40 _hK_40 => ?_
      refine W_seq fun _K_41 _hK_41 => ?_
      refine W_drawC [] 5 mixed rfl fun _w_42 _cw_42 => ?_
      have _cw_42z := _cw_42.size
      have E := E.trans _cw_42
      have _f_43 := (((_m_28.ch0 _cw_33).ch0 _cw_37).ch0 _cw_42)
      refine DR_s 0 rfl (by kernel_rfl) rfl rfl (t_loadAtA0 _f_43.at_ (fun i hi => absurd hi List.not_mem_nil) agg28 sz28 rfl ?_)
      have _f_44 := ((((((_f_21.ch0 _cw_25).ch0 _cw_26).ch _cw_27 (fun hm => by have _h1 := List.mem_singleton.1 hm; omega)).ch0 _cw_33).ch0 _cw_37).ch0 _cw_42)
      refine DR_s 1 rfl (by kernel_rfl) rfl rfl (t_loadAtA0 _f_44.at_ (fun i hi => absurd hi List.not_mem_nil) agg25 sz25 rfl ?_)
      refine DR_one 2 (by kernel_rfl) ?_
      refine DO_s rfl rfl rfl ?_
      have _f_45 := ((((((_f_22.ch0 _cw_25).ch0 _cw_26).ch _cw_27 (fun i hi => by have _h1 := List.mem_singleton.1 hi; omega)).ch0 _cw_33).ch0 _cw_37).ch0 _cw_42)
      have _f_46 := ((((((_f_23.ch0 _cw_25).ch0 _cw_26).ch _cw_27 (fun i hi => by have _h1 := List.mem_singleton.1 hi; omega)).ch0 _cw_33).ch0 _cw_37).ch0 _cw_42)
      have _f_47 := ((((((_f_24.ch0 _cw_25).ch0 _cw_26).ch _cw_27 (fun i hi => by have _h1 := List.mem_singleton.1 hi; omega)).ch0 _cw_33).ch0 _cw_37).ch0 _cw_42)
      refine Step.call (r_call (xs := [.tmp 28]) fk16 rfl) (c_laws_toAutomaton _ _f_45 _f_47 _f_46 (by omega)) fun _v29 _w_48 _q29 => ?_
      obtain ⟨u29_0x1, u29_0x2, _vs29_0x2, rfl, _q_u29_0x1, _lo_u29_0x1, _q_u29_0x2, _lo_u29_0x2, _od_vs29_0x2, _sep_vs29_0x2, _dj_u29_0x1_u29_0x2, _sep_u29_0x1_vs29_0x2, _cw_48⟩ := _q29
      have _cw_48z := _cw_48.size
      have E := E.trans _cw_48
      obtain ⟨Au29_0x1, Cu29_0x1, eu29_0x1⟩ := _q_u29_0x1.val
      subst eu29_0x1
      have lu29_0x1 := _q_u29_0x1.len
      have _hiu29_0x1 := _q_u29_0x1.lt
      obtain ⟨Au29_0x2, Cu29_0x2, eu29_0x2⟩ := _q_u29_0x2.val
      subst eu29_0x2
      have lu29_0x2 := _q_u29_0x2.len
      have _hiu29_0x2 := _q_u29_0x2.lt
      have _S_49 : Ch [] _w_42 _w_48 := ((Ch.refl _ _).trans _cw_48)
      refine ⟨_S_49, ?_⟩
      refine DR_one 3 (by kernel_rfl) ?_
      refine DO_s rfl rfl rfl ?_
      have _f_50 := ((((_f_30.ch0 _cw_33).ch0 _cw_37).ch0 _cw_42).ch0 _cw_48)
      have _f_51 := ((((_f_31.ch0 _cw_33).ch0 _cw_37).ch0 _cw_42).ch0 _cw_48)
      have _f_52 := ((((_f_32.ch0 _cw_33).ch0 _cw_37).ch0 _cw_42).ch0 _cw_48)
      refine Step.call (r_call (xs := [.tmp 27, .tmp 29]) fk18 rfl) (c_laws_eqAutomaton _ _f_50.ls _f_52.ls _f_51.rd _ _q_u29_0x1.ls _q_u29_0x2.ls _od_vs29_0x2.rd ) fun _v30 _w_53 _q30 => ?_
      obtain ⟨rfl, _cw_53⟩ := _q30
      have _cw_53z := _cw_53.size
      have E := E.trans _cw_53
      have _S_54 : Ch [] _w_42 _w_53 := (_S_49.trans _cw_53)
      refine ⟨_S_54, ?_⟩
      refine DR_s 4 rfl (by kernel_rfl) rfl rfl (t_v (fun _ => (r_not rfl)) ?_)
      refine DR_done (by kernel_rfl) ?_
      refine thn_nrm (_hK_41 _ _ ?_)
      clear _hK_41
      refine W_cond rfl (fun _h31 => ?_) (fun _h31 => ?_)
      · have _kb_55 := _h31
        have _h31 := bf_d (bt_n _h31)
        refine W_seq fun _K_56 _hK_56 => ?_
        refine W_region ?_
        refine WL_step rfl rfl (r_assign rfl) ?_
        refine WL_nil ?_
        refine thn_nrm (_hK_56 _ _ ?_)
        clear _hK_56
        refine W_ret (thn_ret ?_)
        clear _hK_40
        exact ret_intro [_] ⟨rfl, trivial⟩ ⟨congrArg Value.bool (by first | rfl | (exfalso; omega) | (exfalso; revert _h31; simp; done) | (exfalso; revert _h31; simp; omega)), E⟩
      · have _kb_55 := _h31
        have _h31 := bt_d (bf_n _h31)
        refine W_skip ?_
        refine thn_nrm (_hK_40 _ _ ?_)
        clear _hK_40
        refine W_seq fun _K_57 _hK_57 => ?_
        refine W_region ?_
        refine WL_step rfl rfl (r_assign rfl) ?_
        refine WL_nil ?_
        refine thn_nrm (_hK_57 _ _ ?_)
        clear _hK_57
        refine W_seq fun _K_58 _hK_58 => ?_
        refine W_region ?_
        have _f_59 := ((_f_43.ch0 _cw_48).ch0 _cw_53)
        refine WL_step rfl rfl (r_loadAtA0 _f_59.at_ agg28 sz28 rfl) ?_
        refine WL_step rfl rfl (r_move rfl) ?_
        refine WL_s rfl rfl ?_
        have _f_60 := (_f_50.ch0 _cw_53)
        have _f_61 := (_f_52.ch0 _cw_53)
        have _f_62 := (_f_51.ch0 _cw_53)
        refine Step.call (r_call (xs := [.tmp 32, .tmp 33]) fk28 rfl) (c_laws_markAutomaton _ _f_60 _f_61 (_f_62.up (lo' := _w_19.heap.size) (hi' := _w_25.heap.size) (by omega) (by omega)) (fun g hm => by have _h1 := _lo_u20_0x2 _ hm; have _h2 := _hiu20_0x2 _ hm; omega) _sep_vs20_0x2 (by omega) (fun g hm => by have _h1 := _lo_u20_0x1 _ hm; have _h2 := _hiu20_0x1 _ hm; omega) (fun g hm hg => by exact _dj_u20_0x1_u20_0x2 _ hm hg) _sep_u20_0x1_vs20_0x2 _ (by omega) (by first | omega | (simp <;> omega))) fun _v34 _w_63 _q34 => ?_
        obtain ⟨rfl, _cw_63⟩ := _q34
        have _cw_63z := _cw_63.size
        have E := E.step _cw_63 (fun i hm => by have _h1 := mem_rg hm; left; omega)
        refine WL_step rfl rfl (r_assign rfl) ?_
        refine WL_nil ?_
        refine thn_nrm (_hK_58 _ _ ?_)
        clear _hK_58
        refine W_seq fun _K_64 _hK_64 => ?_
        refine W_seq fun _K_65 _hK_65 => ?_
        refine W_region ?_
        refine WL_step rfl rfl (r_move rfl) ?_
        refine WL_step rfl rfl (r_lss rfl rfl) ?_
        refine WL_step rfl rfl (r_move rfl) ?_
        refine WL_split (d := 37) rfl (fun _h37 => ?_) (fun _h37 => ?_)
        · have _kb_66 := _h37
          have _h37 := bt_d _h37
          refine WL_skip rfl rfl ?_
          refine WL_skip rfl rfl ?_
          refine WL_skip rfl rfl ?_
          refine WL_skip rfl rfl ?_
          refine WL_step rfl rfl (r_pickT rfl rfl) ?_
          refine WL_nil ?_
          refine thn_nrm (_hK_65 _ _ ?_)
          clear _hK_65
          refine W_condT rfl ?_
          refine W_seq fun _K_67 _hK_67 => ?_
          refine W_region ?_
          refine WL_step rfl rfl (r_assign rfl) ?_
          refine WL_nil ?_
          refine thn_nrm (_hK_67 _ _ ?_)
          clear _hK_67
          refine W_ret (thn_ret ?_)
          clear _hK_64
          exact ret_intro [_] ⟨rfl, trivial⟩ ⟨congrArg Value.bool (by first | rfl | (exfalso; omega) | (exfalso; revert _h37; simp; done) | (exfalso; revert _h37; simp; omega)), E⟩
        · have _kb_66 := _h37
          have _h37 := bf_d _h37
          refine WL_step rfl rfl (r_move rfl) ?_
          refine WL_step rfl rfl (r_move rfl) ?_
          refine WL_s rfl rfl ?_
          have _f_68 := (((((_q22.ch0 _cw_37).ch0 _cw_42).ch0 _cw_48).ch0 _cw_53).ch _cw_63 (fun g hg hm => by have _h0 := mem_rg hm; have _h1 := _lo22 _ hg; have _h2 := _hiv22 _ hg; omega))
          have _f_69 := (((((_f_36.ch0 _cw_37).ch0 _cw_42).ch0 _cw_48).ch0 _cw_53).ch _cw_63 (fun g hg hm => by have _h0 := mem_rg hm; have _h1 := _lo18 _ hg; have _h2 := _hiv18 _ hg; omega))
          refine Step.call (r_call (xs := [.tmp 38, .tmp 39]) fk25 rfl) (c_laws_eqIntS _f_68.ls _f_69.ls ) fun _v40 _w_70 _q40 => ?_
          obtain ⟨rfl, _cw_70⟩ := _q40
          have _cw_70z := _cw_70.size
          have E := E.trans _cw_70
          refine WL_step rfl rfl (r_not rfl) ?_
          refine WL_step rfl rfl (r_pickF rfl rfl) ?_
          refine WL_nil ?_
          refine thn_nrm (_hK_65 _ _ ?_)
          clear _hK_65
          refine W_condFk rfl _kb_38 ?_
          refine W_skip ?_
          refine thn_nrm (_hK_64 _ _ ?_)
          clear _hK_64
          refine W_seq fun _K_71 _hK_71 => ?_
          refine W_region ?_
          refine WL_step rfl rfl (r_assign rfl) ?_
          refine WL_nil ?_
          refine thn_nrm (_hK_71 _ _ ?_)
          clear _hK_71
          refine W_seq fun _K_72 _hK_72 => ?_
          refine W_region ?_
          refine WL_step rfl rfl (r_move rfl) ?_
          refine WL_step rfl rfl (r_move rfl) ?_
          refine WL_s rfl rfl ?_
          have _f_73 := (_f_68.ch0 _cw_70)
          refine Step.call (r_call (xs := [.tmp 43, .tmp 44]) fk29 rfl) (c_laws_markIntS _f_73 _ (by omega) (by first | omega | (simp <;> omega))) fun _v45 _w_74 _q45 => ?_
          obtain ⟨rfl, _q45, _cw_74⟩ := _q45
          have _cw_74z := _cw_74.size
          have E := E.step _cw_74 (fun i hi => .inl (by have _h1 := _lo22 _ hi; omega))
          refine WL_step rfl rfl (r_assign rfl) ?_
          refine WL_nil ?_
          refine thn_nrm (_hK_72 _ _ ?_)
          clear _hK_72
          refine W_seq fun _K_75 _hK_75 => ?_
          refine W_region ?_
          refine WL_step rfl rfl (r_assign rfl) ?_
          refine WL_nil ?_
          refine thn_nrm (_hK_75 _ _ ?_)
          clear _hK_75
          refine W_seq fun _K_76 _hK_76 => ?_
          refine W_region ?_
          refine WL_step rfl rfl (r_move rfl) ?_
          refine WL_step rfl rfl (r_move rfl) ?_
          refine WL_s rfl rfl ?_
          refine Step.call (r_call (xs := [.tmp 46, .tmp 47]) fk30 rfl) (c_laws_heldIntS _q45.ls _ (by omega) (by first | omega | (simp <;> omega))) fun _v48 _w_77 _q48 => ?_
          obtain ⟨rfl, _cw_77⟩ := _q48
          have _cw_77z := _cw_77.size
          have E := E.trans _cw_77
          refine WL_step rfl rfl (r_assign rfl) ?_
          refine WL_nil ?_
          refine thn_nrm (_hK_76 _ _ ?_)
          clear _hK_76
          refine W_seq fun _K_78 _hK_78 => ?_
          refine W_seq fun _K_79 _hK_79 => ?_
          refine W_region ?_
          refine WL_step rfl rfl (r_move rfl) ?_
          refine WL_step rfl rfl (r_lss rfl rfl) ?_
          refine WL_nil ?_
          refine thn_nrm (_hK_79 _ _ ?_)
          clear _hK_79
          refine W_cond rfl (fun _h50 => ?_) (fun _h50 => ?_)
          · have _kb_80 := _h50
            have _h50 := bt_d _h50
            refine W_seq fun _K_81 _hK_81 => ?_
            refine W_region ?_
            refine WL_step rfl rfl (r_assign rfl) ?_
            refine WL_nil ?_
            refine thn_nrm (_hK_81 _ _ ?_)
            clear _hK_81
            refine W_ret (thn_ret ?_)
            clear _hK_78
            exact ret_intro [_] ⟨rfl, trivial⟩ ⟨congrArg Value.bool (by first | rfl | (exfalso; omega) | (exfalso; revert _h50; simp; done) | (exfalso; revert _h50; simp; omega)), E⟩
          · have _kb_80 := _h50
            have _h50 := bf_d _h50
            refine W_skip ?_
            refine thn_nrm (_hK_78 _ _ ?_)
            clear _hK_78
            refine W_seq fun _K_82 _hK_82 => ?_
            refine W_seq fun _K_83 _hK_83 => ?_
            refine W_region ?_
            refine WL_step rfl rfl (r_move rfl) ?_
            refine WL_step rfl rfl (r_move rfl) ?_
            refine WL_step rfl rfl (r_neq rfl rfl) ?_
            refine WL_nil ?_
            refine thn_nrm (_hK_83 _ _ ?_)
            clear _hK_83
            refine W_cond rfl (fun _h53 => ?_) (fun _h53 => ?_)
            · have _kb_84 := _h53
              have _h53 := bf_d (bt_n _h53)
              refine W_seq fun _K_85 _hK_85 => ?_
              refine W_region ?_
              refine WL_step rfl rfl (r_assign rfl) ?_
              refine WL_nil ?_
              refine thn_nrm (_hK_85 _ _ ?_)
              clear _hK_85
              refine W_ret (thn_ret ?_)
              clear _hK_82
              exact ret_intro [_] ⟨rfl, trivial⟩ ⟨congrArg Value.bool (by first | rfl | (exfalso; omega) | (exfalso; revert _h53; simp; done) | (exfalso; revert _h53; simp; omega)), E⟩
            · have _kb_84 := _h53
              have _h53 := bt_d (bf_n _h53)
              refine W_skip ?_
              refine thn_nrm (_hK_82 _ _ ?_)
              clear _hK_82
              refine W_seq fun _K_86 _hK_86 => ?_
              refine W_region ?_
              have _f_87 := ((((((_f_44.ch0 _cw_48).ch0 _cw_53).ch _cw_63 (fun hm => by have _h1 := mem_rg hm; omega)).ch0 _cw_70).ch _cw_74 (fun hm => by have _h1 := _lo22 _ hm; have _h2 := _hiv22 _ hm; omega)).ch0 _cw_77)
              refine WL_step rfl rfl (r_loadAtA0 _f_87.at_ agg25 sz25 rfl) ?_
              refine WL_s rfl rfl ?_
              have _f_88 := ((((((_f_45.ch0 _cw_48).ch0 _cw_53).ch _cw_63 (fun i hm => by have _h1 := mem_rg hm; omega)).ch0 _cw_70).ch _cw_74 (fun i hi => by have _h1 := _lo22 _ hi; omega)).ch0 _cw_77)
              have _f_89 := ((((((_f_46.ch0 _cw_48).ch0 _cw_53).ch _cw_63 (fun i hm => by have _h1 := mem_rg hm; omega)).ch0 _cw_70).ch _cw_74 (fun i hi => by have _h1 := _lo22 _ hi; omega)).ch0 _cw_77)
              have _f_90 := ((((((_f_47.ch0 _cw_48).ch0 _cw_53).ch _cw_63 (fun i hm => by have _h1 := mem_rg hm; omega)).ch0 _cw_70).ch _cw_74 (fun i hi => by have _h1 := _lo22 _ hi; omega)).ch0 _cw_77)
              refine Step.call (r_call (xs := [.tmp 54]) fk16 rfl) (c_laws_toAutomaton _ _f_88 _f_90 _f_89 (by omega)) fun _v55 _w_91 _q55 => ?_
              obtain ⟨u55_0x1, u55_0x2, _vs55_0x2, rfl, _q_u55_0x1, _lo_u55_0x1, _q_u55_0x2, _lo_u55_0x2, _od_vs55_0x2, _sep_vs55_0x2, _dj_u55_0x1_u55_0x2, _sep_u55_0x1_vs55_0x2, _cw_91⟩ := _q55
              have _cw_91z := _cw_91.size
              have E := E.trans _cw_91
              obtain ⟨Au55_0x1, Cu55_0x1, eu55_0x1⟩ := _q_u55_0x1.val
              subst eu55_0x1
              have lu55_0x1 := _q_u55_0x1.len
              have _hiu55_0x1 := _q_u55_0x1.lt
              obtain ⟨Au55_0x2, Cu55_0x2, eu55_0x2⟩ := _q_u55_0x2.val
              subst eu55_0x2
              have lu55_0x2 := _q_u55_0x2.len
              have _hiu55_0x2 := _q_u55_0x2.lt
              refine WL_s rfl rfl ?_
              refine Step.call (r_call (xs := [.tmp 55]) fk46 rfl) (c_impl_StateClasses _ _q_u55_0x1.ls _q_u55_0x2.ls _od_vs55_0x2.rd ) fun _v56 _w_92 _q56 => ?_
              obtain ⟨_q56, _lo56, _cw_92⟩ := _q56
              have _cw_92z := _cw_92.size
              have E := E.trans _cw_92
              obtain ⟨_Av56, _Cv56, _ev56⟩ := _q56.val
              subst _ev56
              have _lv56 := _q56.len
              have _hiv56 := _q56.lt
              refine WL_step rfl rfl (r_assign rfl) ?_
              refine WL_nil ?_
              refine thn_nrm (_hK_86 _ _ ?_)
              clear _hK_86
              refine W_seq fun _K_93 _hK_93 => ?_
              refine W_seq fun _K_94 _hK_94 => ?_
              refine W_region ?_
              refine WL_step rfl rfl (r_move rfl) ?_
              refine WL_step rfl rfl (r_move rfl) ?_
              refine WL_s rfl rfl ?_
              have _f_95 := (((((_f_69.ch0 _cw_70).ch _cw_74 (fun g hg hm => by have _h1 := _lo22 _ hm; have _h2 := _hiv22 _ hm; have _h3 := _lo18 _ hg; have _h4 := _hiv18 _ hg; omega)).ch0 _cw_77).ch0 _cw_91).ch0 _cw_92)
              refine Step.call (r_call (xs := [.tmp 57, .tmp 58]) fk25 rfl) (c_laws_eqIntS _q56.ls _f_95.ls ) fun _v59 _w_96 _q59 => ?_
              obtain ⟨rfl, _cw_96⟩ := _q59
              have _cw_96z := _cw_96.size
              have E := E.trans _cw_96
              refine WL_step rfl rfl (r_not rfl) ?_
              refine WL_nil ?_
              refine thn_nrm (_hK_94 _ _ ?_)
              clear _hK_94
              refine W_condFk rfl _kb_38 ?_
              refine W_skip ?_
              refine thn_nrm (_hK_93 _ _ ?_)
              clear _hK_93
              refine W_seq fun _K_97 _hK_97 => ?_
              refine W_region ?_
              refine WL_step rfl rfl (r_assign rfl) ?_
              refine WL_nil ?_
              refine thn_nrm (_hK_97 _ _ ?_)
              clear _hK_97
              refine W_seq fun _K_98 _hK_98 => ?_
              refine W_region ?_
              refine WL_step rfl rfl (r_move rfl) ?_
              refine WL_step rfl rfl (r_move rfl) ?_
              refine WL_s rfl rfl ?_
              have _f_99 := ((((_q45.ch0 _cw_77).ch0 _cw_91).ch0 _cw_92).ch0 _cw_96)
              refine Step.call (r_call (xs := [.tmp 61, .tmp 62]) fk30 rfl) (c_laws_heldIntS _f_99.ls _ (by omega) (by first | omega | (simp <;> omega))) fun _v63 _w_100 _q63 => ?_
              obtain ⟨rfl, _cw_100⟩ := _q63
              have _cw_100z := _cw_100.size
              have E := E.trans _cw_100
              refine WL_step rfl rfl (r_assign rfl) ?_
              refine WL_nil ?_
              refine thn_nrm (_hK_98 _ _ ?_)
              clear _hK_98
              refine W_seq fun _K_101 _hK_101 => ?_
              refine W_seq fun _K_102 _hK_102 => ?_
              refine W_region ?_
              refine WL_step rfl rfl (r_move rfl) ?_
              refine WL_step rfl rfl (r_lss rfl rfl) ?_
              refine WL_nil ?_
              refine thn_nrm (_hK_102 _ _ ?_)
              clear _hK_102
              refine W_condFk rfl _kb_80 ?_
              refine W_skip ?_
              refine thn_nrm (_hK_101 _ _ ?_)
              clear _hK_101
              refine W_seq fun _K_103 _hK_103 => ?_
              refine W_seq fun _K_104 _hK_104 => ?_
              refine W_region ?_
              refine WL_step rfl rfl (r_move rfl) ?_
              refine WL_step rfl rfl (r_move rfl) ?_
              refine WL_step rfl rfl (r_neq rfl rfl) ?_
              refine WL_nil ?_
              refine thn_nrm (_hK_104 _ _ ?_)
              clear _hK_104
              refine W_condFk rfl _kb_84 ?_
              refine W_skip ?_
              refine thn_nrm (_hK_103 _ _ ?_)
              clear _hK_103
              refine W_seq fun _K_105 _hK_105 => ?_
              refine W_region ?_
              refine WL_step rfl rfl (r_assign rfl) ?_
              refine WL_nil ?_
              refine thn_nrm (_hK_105 _ _ ?_)
              clear _hK_105
              refine W_ret ?_
              exact ret_intro [_] ⟨rfl, trivial⟩ ⟨congrArg Value.bool (by first | rfl | (exfalso; omega) | (exfalso; revert _h53; simp; done) | (exfalso; revert _h53; simp; omega)), E⟩

end Go.Proofs.Ytgpmbjchmphhaaa
