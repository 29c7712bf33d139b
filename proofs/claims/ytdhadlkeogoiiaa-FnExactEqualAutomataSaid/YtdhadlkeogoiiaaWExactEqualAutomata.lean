/- The walks of all functions that FnExactEqualAutomata reaches: what each returns, and that it leaves the memory that was there alone. -/
import Derived.Test.YtdhadlkeogoiiaaKF
import Derived.Test.YtdhadlkeogoiiaaKG
import Derived.Test.YtdhadlkeogoiiaaKH
import Derived.Test.YtdhadlkeogoiiaaKI
import Derived.Test.YtdhadlkeogoiiaaKJ
import Derived.Test.YtdhadlkeogoiiaaKM
import Derived.Test.YtdhadlkeogoiiaaKN
import Derived.Test.YtdhadlkeogoiiaaKO
import Derived.Test.YtdhadlkeogoiiaaProg
namespace Go.Proofs.Ytdhadlkeogoiiaa
open Go.KLib
set_option maxRecDepth 20000
theorem agg22 : aggB Try.prog 22 = some false := by kernel_rfl
theorem agg23 : aggB Try.prog 23 = some false := by kernel_rfl
theorem agg25 : aggB Try.prog 25 = some true := by kernel_rfl
theorem agg28 : aggB Try.prog 28 = some true := by kernel_rfl
theorem agg3 : aggB Try.prog 3 = some false := by kernel_rfl
theorem agg35 : aggB Try.prog 35 = some false := by kernel_rfl
theorem agg4 : aggB Try.prog 4 = some false := by kernel_rfl
theorem by3 : bytesB Try.prog 3 = some 8 := by kernel_rfl
theorem by35 : bytesB Try.prog 35 = some 24 := by kernel_rfl
theorem by4 : bytesB Try.prog 4 = some 1 := by kernel_rfl
theorem el22 : elB Try.prog 22 = some 4 := by kernel_rfl
theorem el23 : elB Try.prog 23 = some 35 := by kernel_rfl
theorem el35 : elB Try.prog 35 = some 3 := by kernel_rfl
theorem fa25_0 : faB Try.prog 25 0 = some 0 := by kernel_rfl
theorem fa25_1 : faB Try.prog 25 1 = some 1 := by kernel_rfl
theorem fa25_2 : faB Try.prog 25 2 = some 2 := by kernel_rfl
theorem fa28_0 : faB Try.prog 28 0 = some 0 := by kernel_rfl
theorem fa28_1 : faB Try.prog 28 1 = some 1 := by kernel_rfl
theorem fa28_2 : faB Try.prog 28 2 = some 2 := by kernel_rfl
theorem fk15 : fnB Try.prog 15 = true := by kernel_rfl
theorem fk17 : fnB Try.prog 17 = true := by kernel_rfl
theorem fk19 : fnB Try.prog 19 = true := by kernel_rfl
theorem fk22 : fnB Try.prog 22 = true := by kernel_rfl
theorem fk23 : fnB Try.prog 23 = true := by kernel_rfl
theorem fk25 : fnB Try.prog 25 = true := by kernel_rfl
theorem fk27 : fnB Try.prog 27 = true := by kernel_rfl
theorem fk50 : fnB Try.prog 50 = true := by kernel_rfl
theorem fk51 : fnB Try.prog 51 = true := by kernel_rfl
theorem fk53 : fnB Try.prog 53 = true := by kernel_rfl
theorem fk54 : fnB Try.prog 54 = true := by kernel_rfl
theorem fk56 : fnB Try.prog 56 = true := by kernel_rfl
theorem fk57 : fnB Try.prog 57 = true := by kernel_rfl
theorem fk60 : fnB Try.prog 60 = true := by kernel_rfl
theorem fk61 : fnB Try.prog 61 = true := by kernel_rfl
theorem fk62 : fnB Try.prog 62 = true := by kernel_rfl
theorem fk63 : fnB Try.prog 63 = true := by kernel_rfl
theorem fk64 : fnB Try.prog 64 = true := by kernel_rfl
theorem fk87 : fnB Try.prog 87 = true := by kernel_rfl
theorem mixed : Try.prog.follows .mixedOrders = true := by kernel_rfl
theorem sz22 : sizeB Try.prog 22 = some 1 := by kernel_rfl
theorem sz23 : sizeB Try.prog 23 = some 1 := by kernel_rfl
theorem sz25 : sizeB Try.prog 25 = some 3 := by kernel_rfl
theorem sz28 : sizeB Try.prog 28 = some 3 := by kernel_rfl
theorem sz3 : sizeB Try.prog 3 = some 1 := by kernel_rfl
theorem sz35 : sizeB Try.prog 35 = some 1 := by kernel_rfl
theorem sz4 : sizeB Try.prog 4 = some 1 := by kernel_rfl
theorem un4 : Try.prog.underlying 4 = some (.bool) := by kernel_rfl
theorem zr28 : zeroB Try.prog 28 = some (.agg #[.int .i64 0, .slice none 0 0, .slice none 0 0]) := by kernel_rfl
theorem zr3 : zeroB Try.prog 3 = some (.int .i64 0) := by kernel_rfl
theorem zr35 : zeroB Try.prog 35 = some (.slice none 0 0) := by kernel_rfl
theorem zr4 : zeroB Try.prog 4 = some (.bool false) := by kernel_rfl

/-- slices.Equal[[]int,int] -/
theorem c_slices_Equal_int_int {w : World} {_B_a : Nat} {_v_a : Value} {a : List Int} (_h_a : Ls ics 1 w _B_a _v_a a) {_B_b : Nat} {_v_b : Value} {b : List Int} (_h_b : Ls ics 1 w _B_b _v_b b) :
    Ctr Try.prog 64 #[_v_a, _v_b] w (fun v w' => v = .bool (decide (a = b)) ∧ Ch [] w w') := by
  obtain ⟨_A_a, _C_a, _e1_a⟩ := _h_a.val
  subst _e1_a
  have _l_a := _h_a.len
  have _h_a := _h_a.here (by decide)
  obtain ⟨_A_b, _C_b, _e1_b⟩ := _h_b.val
  subst _e1_b
  have _l_b := _h_b.len
  have _h_b := _h_b.here (by decide)
  have E := Ch.refl [] w
  refine Ctr_of_W (N := 26) (vs0 := [(.slice _A_a a.length _C_a), (.slice _A_b b.length _C_b)]) Try.func64 rfl rfl rfl ?_
  refine W_seq fun _K_1 _hK_1 => ?_
  refine W_region ?_
  refine WL_step rfl rfl (r_assign rfl) ?_
  refine WL_nil ?_
  refine thn_nrm (_hK_1 _ _ ?_)
  clear _hK_1
  refine W_seq fun _K_2 _hK_2 => ?_
  refine W_seq fun _K_3 _hK_3 => ?_
  refine W_region ?_
  refine WL_step rfl rfl (r_move rfl) ?_
  refine WL_step rfl rfl (r_len (by rw [el35]; rfl) rfl) ?_
  refine WL_step rfl rfl (r_move rfl) ?_
  refine WL_step rfl rfl (r_len (by rw [el35]; rfl) rfl) ?_
  refine WL_step rfl rfl (r_neq rfl rfl) ?_
  refine WL_nil ?_
  refine thn_nrm (_hK_3 _ _ ?_)
  clear _hK_3
  refine W_cond rfl (fun _h10 => ?_) (fun _h10 => ?_)
  · have _h10 := bf_d (bt_n _h10)
    refine W_seq fun _K_4 _hK_4 => ?_
    refine W_region ?_
    refine WL_step rfl rfl (r_assign rfl) ?_
    refine WL_nil ?_
    refine thn_nrm (_hK_4 _ _ ?_)
    clear _hK_4
    refine W_ret (thn_ret ?_)
    clear _hK_2
    exact ret_intro [_] ⟨rfl, trivial⟩ ⟨congrArg Value.bool (decide_eq_false (fun e => _h10 (by rw [e]))).symm, E⟩
  · have _h10 := bt_d (bf_n _h10)
    refine W_skip ?_
    refine thn_nrm (_hK_2 _ _ ?_)
    clear _hK_2
    refine W_seq fun _K_5 _hK_5 => ?_
    refine W_seq fun _K_6 _hK_6 => ?_
    refine W_region ?_
    refine WL_step rfl rfl (r_move rfl) ?_
    refine WL_step rfl rfl (r_len (by rw [el35]; rfl) rfl) ?_
    refine WL_step rfl rfl (r_move rfl) ?_
    refine WL_nil ?_
    refine thn_nrm (_hK_6 _ _ ?_)
    clear _hK_6
    refine W_block ?_
    refine W_loop (σ := Nat) (fun (k : Nat) => [(0, (.slice _A_a a.length _C_a)), (1, (.slice _A_b b.length _C_b)), (6, (.slice _A_a a.length _C_a)), (7, (.int .i64 ((a.length : Nat) : Int))), (8, (.slice _A_b b.length _C_b)), (9, (.int .i64 ((b.length : Nat) : Int))), (10, (.bool (!decide (((a.length : Nat) : Int) = ((b.length : Nat) : Int))))), (11, (.slice _A_a a.length _C_a)), (12, (.int .i64 ((a.length : Nat) : Int))), (13, (.int .i64 ((k : Nat) : Int)))]) (fun (k : Nat) wx => Ch [] w wx ∧ w.heap.size ≤ wx.heap.size ∧ (k ≤ a.length) ∧ (a.take k = b.take k)) (fun (k : Nat) => a.length - k) 0 (Sub.cons rfl (Sub.cons rfl (Sub.cons rfl (Sub.cons rfl (Sub.cons rfl (Sub.cons rfl (Sub.cons rfl (Sub.cons rfl (Sub.cons rfl (Sub.cons rfl (Sub.nil _))))))))))) ⟨E, (Nat.le_refl _), (by omega), rfl⟩ ?_
    rintro k _wr_7 ⟨E, _zz0, _hk, _ht⟩
    have _E0h := E
    have _E0hz := _E0h.size
    refine W_seq fun _K_8 _hK_8 => ?_
    refine W_region ?_
    refine WL_step rfl rfl (r_lss rfl rfl) ?_
    refine WL_nil ?_
    refine thn_nrm (_hK_8 _ _ ?_)
    clear _hK_8
    refine W_seq fun _K_9 _hK_9 => ?_
    refine W_cond rfl (fun _h14 => ?_) (fun _h14 => ?_)
    · have _h14 := bt_d _h14
      refine W_skip ?_
      refine thn_nrm (_hK_9 _ _ ?_)
      clear _hK_9
      refine W_seq fun _K_10 _hK_10 => ?_
      refine W_block ?_
      refine W_seq fun _K_11 _hK_11 => ?_
      refine W_region ?_
      refine WL_step rfl rfl (r_move rfl) ?_
      refine WL_step rfl rfl (r_assign rfl) ?_
      refine WL_nil ?_
      refine thn_nrm (_hK_11 _ _ ?_)
      clear _hK_11
      refine W_seq fun _K_12 _hK_12 => ?_
      refine W_drawC [] 9 mixed rfl fun _w_13 _cw_13 => ?_
      have _cw_13z := _cw_13.size
      have E := E.trans _cw_13
      refine DR_s 0 rfl (by kernel_rfl) rfl rfl (t_v (fun _ => (r_move rfl)) ?_)
      refine DR_s 1 rfl (by kernel_rfl) rfl rfl (t_v (fun _ => (r_move rfl)) ?_)
      have _f_14 := ((_h_a.ch0 _E0h).ch0 _cw_13)
      refine DR_s 2 rfl (by kernel_rfl) rfl rfl (t_index _f_14 ics_len el35 sz3 rfl rfl rfl (by omega) fun _p18 _y18 _hy18 _a18 => ?_)
      refine DR_s 3 rfl (by kernel_rfl) rfl rfl (t_loadAt0 _a18 (fun i hi => by first | exact absurd hi (List.not_mem_nil) | (have _h1 := List.mem_singleton.1 hi; omega)) agg3 rfl rfl ?_)
      refine DR_s 4 rfl (by kernel_rfl) rfl rfl (t_v (fun _ => (r_move rfl)) ?_)
      refine DR_s 5 rfl (by kernel_rfl) rfl rfl (t_v (fun _ => (r_move rfl)) ?_)
      have _f_15 := ((_h_b.ch0 _E0h).ch0 _cw_13)
      refine DR_s 6 rfl (by kernel_rfl) rfl rfl (t_index _f_15 ics_len el35 sz3 rfl rfl rfl (by omega) fun _p22 _y22 _hy22 _a22 => ?_)
      refine DR_s 7 rfl (by kernel_rfl) rfl rfl (t_loadAt0 _a22 (fun i hi => by first | exact absurd hi (List.not_mem_nil) | (have _h1 := List.mem_singleton.1 hi; omega)) agg3 rfl rfl ?_)
      refine DR_s 8 rfl (by kernel_rfl) rfl rfl (t_v (fun _ => (r_neq rfl rfl)) ?_)
      refine DR_done (by kernel_rfl) ?_
      refine thn_nrm (_hK_12 _ _ ?_)
      clear _hK_12
      refine W_cond rfl (fun _h24 => ?_) (fun _h24 => ?_)
      · have _h24 := bf_d (bt_n _h24)
        refine W_seq fun _K_16 _hK_16 => ?_
        refine W_region ?_
        refine WL_step rfl rfl (r_assign rfl) ?_
        refine WL_nil ?_
        refine thn_nrm (_hK_16 _ _ ?_)
        clear _hK_16
        refine W_ret (inB_ret (thn_ret (thn_ret (inB_ret (thn_ret ?_)))))
        clear _hK_5 _hK_10
        exact ret_intro [_] ⟨rfl, trivial⟩ ⟨congrArg Value.bool (decide_eq_false (ne_of_get _hy18 _hy22 _h24)).symm, E⟩
      · have _h24 := bt_d (bf_n _h24)
        refine W_skip ?_
        refine inB_nrm ?_
        refine thn_nrm (_hK_10 _ _ ?_)
        clear _hK_10
        refine W_region ?_
        refine WL_step rfl rfl (r_add (by omega) rfl rfl) ?_
        refine WL_step rfl rfl (r_move rfl) ?_
        refine WL_nil ?_
        exact thn_nrm (Exists.intro (k + 1) ⟨⟨E, (by omega), (by omega), (take_eq_succ _ht _hy18 _hy22 _h24)⟩, Sub.cons rfl (Sub.cons rfl (Sub.cons rfl (Sub.cons rfl (Sub.cons rfl (Sub.cons rfl (Sub.cons rfl (Sub.cons rfl (Sub.cons rfl (Sub.cons rfl (Sub.nil _)))))))))), (by first | omega | (dsimp only; omega))⟩)
    · have _h14 := bf_d _h14
      refine W_exit (thn_exit (thn_exit (inB_hit ?_)))
      refine thn_nrm (_hK_5 _ _ ?_)
      clear _hK_5
      refine W_seq fun _K_17 _hK_17 => ?_
      refine W_region ?_
      refine WL_step rfl rfl (r_assign rfl) ?_
      refine WL_nil ?_
      refine thn_nrm (_hK_17 _ _ ?_)
      clear _hK_17
      refine W_ret ?_
      clear _hK_9
      exact ret_intro [_] ⟨rfl, trivial⟩ ⟨congrArg Value.bool (decide_eq_true (eq_of_take _ht (by omega) (by omega))).symm, E⟩

/-- impl.EqualAutomata$1 -/
theorem c_impl_EqualAutomata_1 {w : World} {_B_x : Nat} {_v_x : Value} {x : List Int} (_h_x : Ls ics 1 w _B_x _v_x x) {_B_y : Nat} {_v_y : Value} {y : List Int} (_h_y : Ls ics 1 w _B_y _v_y y) :
    Ctr Try.prog 63 #[_v_x, _v_y] w (fun v w' => v = .bool (decide (x = y)) ∧ Ch [] w w') := by
  obtain ⟨_A_x, _C_x, _e1_x⟩ := _h_x.val
  subst _e1_x
  have _l_x := _h_x.len
  have _h_x := _h_x.here (by decide)
  obtain ⟨_A_y, _C_y, _e1_y⟩ := _h_y.val
  subst _e1_y
  have _l_y := _h_y.len
  have _h_y := _h_y.here (by decide)
  have E := Ch.refl [] w
  refine Ctr_of_W (N := 8) (vs0 := [(.slice _A_x x.length _C_x), (.slice _A_y y.length _C_y)]) Try.func63 rfl rfl rfl ?_
  refine W_seq fun _K_1 _hK_1 => ?_
  refine W_region ?_
  refine WL_step rfl rfl (r_assign rfl) ?_
  refine WL_nil ?_
  refine thn_nrm (_hK_1 _ _ ?_)
  clear _hK_1
  refine W_seq fun _K_2 _hK_2 => ?_
  refine W_region ?_
  refine WL_step rfl rfl (r_move rfl) ?_
  refine WL_step rfl rfl (r_move rfl) ?_
  refine WL_s rfl rfl ?_
  refine Step.call (r_call (xs := [.tmp 5, .tmp 6]) fk64 rfl) (c_slices_Equal_int_int _h_x _h_y ) fun _v7 _w_3 _q7 => ?_
  obtain ⟨rfl, _cw_3⟩ := _q7
  have _cw_3z := _cw_3.size
  have E := E.trans _cw_3
  refine WL_step rfl rfl (r_assign rfl) ?_
  refine WL_nil ?_
  refine thn_nrm (_hK_2 _ _ ?_)
  clear _hK_2
  refine W_ret ?_
  exact ret_intro [_] ⟨rfl, trivial⟩ ⟨congrArg Value.bool rfl, E⟩

/-- slices.EqualFunc[[][]int,[][]int,[]int,[]int] -/
theorem c_slices_EqualFunc_int_int_int_int {w : World} {_B_sa : Nat} {_v_sa : Value} {sa : List Sv} (_h_sa : Ls Sv.cs 1 w _B_sa _v_sa sa) {BB_a : Nat} {a : List (List Int)} (_rd_a : Rd ics 1 w BB_a sa a) {_B_sb : Nat} {_v_sb : Value} {sb : List Sv} (_h_sb : Ls Sv.cs 1 w _B_sb _v_sb sb) {BB_b : Nat} {b : List (List Int)} (_rd_b : Rd ics 1 w BB_b sb b) :
    Ctr Try.prog 62 #[_v_sa, _v_sb, (.func (.func 63) #[] #[])] w (fun v w' => v = .bool (decide (a = b)) ∧ Ch [] w w') := by
  obtain ⟨_A_sa, _C_sa, _e1_sa⟩ := _h_sa.val
  subst _e1_sa
  have _l_sa := _h_sa.len
  have _h_sa := _h_sa.here (by decide)
  have _rd_a := _rd_a.here (by decide)
  have _rl_a := _rd_a.1
  obtain ⟨_A_sb, _C_sb, _e1_sb⟩ := _h_sb.val
  subst _e1_sb
  have _l_sb := _h_sb.len
  have _h_sb := _h_sb.here (by decide)
  have _rd_b := _rd_b.here (by decide)
  have _rl_b := _rd_b.1
  have E := Ch.refl [] w
  refine Ctr_of_W (N := 32) (vs0 := [(.slice _A_sa sa.length _C_sa), (.slice _A_sb sb.length _C_sb), (.func (.func 63) #[] #[])]) Try.func62 rfl rfl rfl ?_
  refine W_seq fun _K_1 _hK_1 => ?_
  refine W_region ?_
  refine WL_step rfl rfl (r_assign rfl) ?_
  refine WL_nil ?_
  refine thn_nrm (_hK_1 _ _ ?_)
  clear _hK_1
  refine W_seq fun _K_2 _hK_2 => ?_
  refine W_seq fun _K_3 _hK_3 => ?_
  refine W_region ?_
  refine WL_step rfl rfl (r_move rfl) ?_
  refine WL_step rfl rfl (r_len (by rw [el23]; rfl) rfl) ?_
  refine WL_step rfl rfl (r_move rfl) ?_
  refine WL_step rfl rfl (r_len (by rw [el23]; rfl) rfl) ?_
  refine WL_step rfl rfl (r_neq rfl rfl) ?_
  refine WL_nil ?_
  refine thn_nrm (_hK_3 _ _ ?_)
  clear _hK_3
  refine W_cond rfl (fun _h14 => ?_) (fun _h14 => ?_)
  · have _h14 := bf_d (bt_n _h14)
    refine W_seq fun _K_4 _hK_4 => ?_
    refine W_region ?_
    refine WL_step rfl rfl (r_assign rfl) ?_
    refine WL_nil ?_
    refine thn_nrm (_hK_4 _ _ ?_)
    clear _hK_4
    refine W_ret (thn_ret ?_)
    clear _hK_2
    exact ret_intro [_] ⟨rfl, trivial⟩ ⟨congrArg Value.bool (decide_eq_false (fun e => _h14 (by rw [_rl_a, _rl_b, e]))).symm, E⟩
  · have _h14 := bt_d (bf_n _h14)
    refine W_skip ?_
    refine thn_nrm (_hK_2 _ _ ?_)
    clear _hK_2
    refine W_seq fun _K_5 _hK_5 => ?_
    refine W_seq fun _K_6 _hK_6 => ?_
    refine W_region ?_
    refine WL_step rfl rfl (r_move rfl) ?_
    refine WL_step rfl rfl (r_len (by rw [el23]; rfl) rfl) ?_
    refine WL_step rfl rfl (r_move rfl) ?_
    refine WL_nil ?_
    refine thn_nrm (_hK_6 _ _ ?_)
    clear _hK_6
    refine W_block ?_
    refine W_loop (σ := Nat) (fun (k : Nat) => [(0, (.slice _A_sa sa.length _C_sa)), (1, (.slice _A_sb sb.length _C_sb)), (2, (.func (.func 63) #[] #[])), (10, (.slice _A_sa sa.length _C_sa)), (11, (.int .i64 ((sa.length : Nat) : Int))), (12, (.slice _A_sb sb.length _C_sb)), (13, (.int .i64 ((sb.length : Nat) : Int))), (14, (.bool (!decide (((sa.length : Nat) : Int) = ((sb.length : Nat) : Int))))), (15, (.slice _A_sa sa.length _C_sa)), (16, (.int .i64 ((sa.length : Nat) : Int))), (17, (.int .i64 ((k : Nat) : Int)))]) (fun (k : Nat) wx => Ch [] w wx ∧ w.heap.size ≤ wx.heap.size ∧ (k ≤ a.length) ∧ (a.take k = b.take k)) (fun (k : Nat) => a.length - k) 0 (Sub.cons rfl (Sub.cons rfl (Sub.cons rfl (Sub.cons rfl (Sub.cons rfl (Sub.cons rfl (Sub.cons rfl (Sub.cons rfl (Sub.cons rfl (Sub.cons rfl (Sub.cons rfl (Sub.nil _)))))))))))) ⟨E, (Nat.le_refl _), (by omega), rfl⟩ ?_
    rintro k _wr_7 ⟨E, _zz0, _hk, _ht⟩
    have _E0h := E
    have _E0hz := _E0h.size
    refine W_seq fun _K_8 _hK_8 => ?_
    refine W_region ?_
    refine WL_step rfl rfl (r_lss rfl rfl) ?_
    refine WL_nil ?_
    refine thn_nrm (_hK_8 _ _ ?_)
    clear _hK_8
    refine W_seq fun _K_9 _hK_9 => ?_
    refine W_cond rfl (fun _h18 => ?_) (fun _h18 => ?_)
    · have _h18 := bt_d _h18
      refine W_skip ?_
      refine thn_nrm (_hK_9 _ _ ?_)
      clear _hK_9
      refine W_seq fun _K_10 _hK_10 => ?_
      refine W_block ?_
      refine W_seq fun _K_11 _hK_11 => ?_
      refine W_region ?_
      refine WL_step rfl rfl (r_move rfl) ?_
      refine WL_s rfl rfl ?_
      have _f_12 := (_h_sa.ch0 _E0h)
      refine (s_index _f_12 Sv.len el23 sz35 rfl rfl rfl (by omega) fun _p20 _y20 _hy20 _a20 => ?_)
      have _f_13 := (_rd_a.ch0 _E0h)
      obtain ⟨_ys20, _hys20, _fs20⟩ := _f_13.get _hy20
      obtain ⟨_A20, _n20, _C20⟩ := _y20
      obtain rfl := _fs20.eqn
      have _l20 := _fs20.len
      replace _fs20 : Ls ics 1 _wr_7 w.heap.size (.slice _A20 _ys20.length _C20) _ys20 := _fs20
      replace _a20 : At _wr_7 w.heap.size _p20 ([(.slice _A20 _ys20.length _C20)]) := _a20
      refine WL_step rfl rfl (r_loadAt0 _a20 agg35 rfl rfl) ?_
      refine WL_step rfl rfl (r_assign rfl) ?_
      refine WL_step rfl rfl (r_assign rfl) ?_
      refine WL_nil ?_
      refine thn_nrm (_hK_11 _ _ ?_)
      clear _hK_11
      refine W_seq fun _K_14 _hK_14 => ?_
      refine W_region ?_
      refine WL_step rfl rfl (r_move rfl) ?_
      refine WL_step rfl rfl (r_move rfl) ?_
      refine WL_s rfl rfl ?_
      have _f_15 := (_h_sb.ch0 _E0h)
      refine (s_index _f_15 Sv.len el23 sz35 rfl rfl rfl (by omega) fun _p24 _y24 _hy24 _a24 => ?_)
      have _f_16 := (_rd_b.ch0 _E0h)
      obtain ⟨_ys24, _hys24, _fs24⟩ := _f_16.get _hy24
      obtain ⟨_A24, _n24, _C24⟩ := _y24
      obtain rfl := _fs24.eqn
      have _l24 := _fs24.len
      replace _fs24 : Ls ics 1 _wr_7 w.heap.size (.slice _A24 _ys24.length _C24) _ys24 := _fs24
      replace _a24 : At _wr_7 w.heap.size _p24 ([(.slice _A24 _ys24.length _C24)]) := _a24
      refine WL_step rfl rfl (r_loadAt0 _a24 agg35 rfl rfl) ?_
      refine WL_step rfl rfl (r_assign rfl) ?_
      refine WL_nil ?_
      refine thn_nrm (_hK_14 _ _ ?_)
      clear _hK_14
      refine W_seq fun _K_17 _hK_17 => ?_
      refine W_region ?_
      refine WL_step rfl rfl (r_move rfl) ?_
      refine WL_step rfl rfl (r_move rfl) ?_
      refine WL_step rfl rfl (r_move rfl) ?_
      refine WL_s rfl rfl ?_
      refine Step.call (r_callV (xs := [.tmp 27, .tmp 28]) (as' := [(.slice _A20 _ys20.length _C20), (.slice _A24 _ys24.length _C24)]) fk63 rfl rfl rfl) (c_impl_EqualAutomata_1 _fs20 _fs24 ) fun _v29 _w_18 _q29 => ?_
      obtain ⟨rfl, _cw_18⟩ := _q29
      have _cw_18z := _cw_18.size
      have E := E.trans _cw_18
      refine WL_step rfl rfl (r_not rfl) ?_
      refine WL_nil ?_
      refine thn_nrm (_hK_17 _ _ ?_)
      clear _hK_17
      refine W_cond rfl (fun _h30 => ?_) (fun _h30 => ?_)
      · have _h30 := bf_d (bt_n _h30)
        refine W_seq fun _K_19 _hK_19 => ?_
        refine W_region ?_
        refine WL_step rfl rfl (r_assign rfl) ?_
        refine WL_nil ?_
        refine thn_nrm (_hK_19 _ _ ?_)
        clear _hK_19
        refine W_ret (inB_ret (thn_ret (thn_ret (inB_ret (thn_ret ?_)))))
        clear _hK_5 _hK_10
        exact ret_intro [_] ⟨rfl, trivial⟩ ⟨congrArg Value.bool (decide_eq_false (ne_of_get _hys20 _hys24 _h30)).symm, E⟩
      · have _h30 := bt_d (bf_n _h30)
        refine W_skip ?_
        refine inB_nrm ?_
        refine thn_nrm (_hK_10 _ _ ?_)
        clear _hK_10
        refine W_region ?_
        refine WL_step rfl rfl (r_add (by omega) rfl rfl) ?_
        refine WL_step rfl rfl (r_move rfl) ?_
        refine WL_nil ?_
        exact thn_nrm (Exists.intro (k + 1) ⟨⟨E, (by omega), (by omega), (take_eq_succ _ht _hys20 _hys24 _h30)⟩, Sub.cons rfl (Sub.cons rfl (Sub.cons rfl (Sub.cons rfl (Sub.cons rfl (Sub.cons rfl (Sub.cons rfl (Sub.cons rfl (Sub.cons rfl (Sub.cons rfl (Sub.cons rfl (Sub.nil _))))))))))), (by first | omega | (dsimp only; omega))⟩)
    · have _h18 := bf_d _h18
      refine W_exit (thn_exit (thn_exit (inB_hit ?_)))
      refine thn_nrm (_hK_5 _ _ ?_)
      clear _hK_5
      refine W_seq fun _K_20 _hK_20 => ?_
      refine W_region ?_
      refine WL_step rfl rfl (r_assign rfl) ?_
      refine WL_nil ?_
      refine thn_nrm (_hK_20 _ _ ?_)
      clear _hK_20
      refine W_ret ?_
      clear _hK_9
      exact ret_intro [_] ⟨rfl, trivial⟩ ⟨congrArg Value.bool (decide_eq_true (eq_of_take _ht (by omega) (by omega))).symm, E⟩

/-- slices.Equal[[]bool,bool] -/
theorem c_slices_Equal_bool_bool {w : World} {_B_a : Nat} {_v_a : Value} {a : List Bool} (_h_a : Ls bcs 1 w _B_a _v_a a) {_B_b : Nat} {_v_b : Value} {b : List Bool} (_h_b : Ls bcs 1 w _B_b _v_b b) :
    Ctr Try.prog 61 #[_v_a, _v_b] w (fun v w' => v = .bool (decide (a = b)) ∧ Ch [] w w') := by
  obtain ⟨_A_a, _C_a, _e1_a⟩ := _h_a.val
  subst _e1_a
  have _l_a := _h_a.len
  have _h_a := _h_a.here (by decide)
  obtain ⟨_A_b, _C_b, _e1_b⟩ := _h_b.val
  subst _e1_b
  have _l_b := _h_b.len
  have _h_b := _h_b.here (by decide)
  have E := Ch.refl [] w
  refine Ctr_of_W (N := 26) (vs0 := [(.slice _A_a a.length _C_a), (.slice _A_b b.length _C_b)]) Try.func61 rfl rfl rfl ?_
  refine W_seq fun _K_1 _hK_1 => ?_
  refine W_region ?_
  refine WL_step rfl rfl (r_assign rfl) ?_
  refine WL_nil ?_
  refine thn_nrm (_hK_1 _ _ ?_)
  clear _hK_1
  refine W_seq fun _K_2 _hK_2 => ?_
  refine W_seq fun _K_3 _hK_3 => ?_
  refine W_region ?_
  refine WL_step rfl rfl (r_move rfl) ?_
  refine WL_step rfl rfl (r_len (by rw [el22]; rfl) rfl) ?_
  refine WL_step rfl rfl (r_move rfl) ?_
  refine WL_step rfl rfl (r_len (by rw [el22]; rfl) rfl) ?_
  refine WL_step rfl rfl (r_neq rfl rfl) ?_
  refine WL_nil ?_
  refine thn_nrm (_hK_3 _ _ ?_)
  clear _hK_3
  refine W_cond rfl (fun _h10 => ?_) (fun _h10 => ?_)
  · have _h10 := bf_d (bt_n _h10)
    refine W_seq fun _K_4 _hK_4 => ?_
    refine W_region ?_
    refine WL_step rfl rfl (r_assign rfl) ?_
    refine WL_nil ?_
    refine thn_nrm (_hK_4 _ _ ?_)
    clear _hK_4
    refine W_ret (thn_ret ?_)
    clear _hK_2
    exact ret_intro [_] ⟨rfl, trivial⟩ ⟨congrArg Value.bool (decide_eq_false (fun e => _h10 (by rw [e]))).symm, E⟩
  · have _h10 := bt_d (bf_n _h10)
    refine W_skip ?_
    refine thn_nrm (_hK_2 _ _ ?_)
    clear _hK_2
    refine W_seq fun _K_5 _hK_5 => ?_
    refine W_seq fun _K_6 _hK_6 => ?_
    refine W_region ?_
    refine WL_step rfl rfl (r_move rfl) ?_
    refine WL_step rfl rfl (r_len (by rw [el22]; rfl) rfl) ?_
    refine WL_step rfl rfl (r_move rfl) ?_
    refine WL_nil ?_
    refine thn_nrm (_hK_6 _ _ ?_)
    clear _hK_6
    refine W_block ?_
    refine W_loop (σ := Nat) (fun (k : Nat) => [(0, (.slice _A_a a.length _C_a)), (1, (.slice _A_b b.length _C_b)), (6, (.slice _A_a a.length _C_a)), (7, (.int .i64 ((a.length : Nat) : Int))), (8, (.slice _A_b b.length _C_b)), (9, (.int .i64 ((b.length : Nat) : Int))), (10, (.bool (!decide (((a.length : Nat) : Int) = ((b.length : Nat) : Int))))), (11, (.slice _A_a a.length _C_a)), (12, (.int .i64 ((a.length : Nat) : Int))), (13, (.int .i64 ((k : Nat) : Int)))]) (fun (k : Nat) wx => Ch [] w wx ∧ w.heap.size ≤ wx.heap.size ∧ (k ≤ a.length) ∧ (a.take k = b.take k)) (fun (k : Nat) => a.length - k) 0 (Sub.cons rfl (Sub.cons rfl (Sub.cons rfl (Sub.cons rfl (Sub.cons rfl (Sub.cons rfl (Sub.cons rfl (Sub.cons rfl (Sub.cons rfl (Sub.cons rfl (Sub.nil _))))))))))) ⟨E, (Nat.le_refl _), (by omega), rfl⟩ ?_
    rintro k _wr_7 ⟨E, _zz0, _hk, _ht⟩
    have _E0h := E
    have _E0hz := _E0h.size
    refine W_seq fun _K_8 _hK_8 => ?_
    refine W_region ?_
    refine WL_step rfl rfl (r_lss rfl rfl) ?_
    refine WL_nil ?_
    refine thn_nrm (_hK_8 _ _ ?_)
    clear _hK_8
    refine W_seq fun _K_9 _hK_9 => ?_
    refine W_cond rfl (fun _h14 => ?_) (fun _h14 => ?_)
    · have _h14 := bt_d _h14
      refine W_skip ?_
      refine thn_nrm (_hK_9 _ _ ?_)
      clear _hK_9
      refine W_seq fun _K_10 _hK_10 => ?_
      refine W_block ?_
      refine W_seq fun _K_11 _hK_11 => ?_
      refine W_region ?_
      refine WL_step rfl rfl (r_move rfl) ?_
      refine WL_step rfl rfl (r_assign rfl) ?_
      refine WL_nil ?_
      refine thn_nrm (_hK_11 _ _ ?_)
      clear _hK_11
      refine W_seq fun _K_12 _hK_12 => ?_
      refine W_drawC [] 9 mixed rfl fun _w_13 _cw_13 => ?_
      have _cw_13z := _cw_13.size
      have E := E.trans _cw_13
      refine DR_s 0 rfl (by kernel_rfl) rfl rfl (t_v (fun _ => (r_move rfl)) ?_)
      refine DR_s 1 rfl (by kernel_rfl) rfl rfl (t_v (fun _ => (r_move rfl)) ?_)
      have _f_14 := ((_h_a.ch0 _E0h).ch0 _cw_13)
      refine DR_s 2 rfl (by kernel_rfl) rfl rfl (t_index _f_14 bcs_len el22 sz4 rfl rfl rfl (by omega) fun _p18 _y18 _hy18 _a18 => ?_)
      refine DR_s 3 rfl (by kernel_rfl) rfl rfl (t_loadAt0 _a18 (fun i hi => by first | exact absurd hi (List.not_mem_nil) | (have _h1 := List.mem_singleton.1 hi; omega)) agg4 rfl rfl ?_)
      refine DR_s 4 rfl (by kernel_rfl) rfl rfl (t_v (fun _ => (r_move rfl)) ?_)
      refine DR_s 5 rfl (by kernel_rfl) rfl rfl (t_v (fun _ => (r_move rfl)) ?_)
      have _f_15 := ((_h_b.ch0 _E0h).ch0 _cw_13)
      refine DR_s 6 rfl (by kernel_rfl) rfl rfl (t_index _f_15 bcs_len el22 sz4 rfl rfl rfl (by omega) fun _p22 _y22 _hy22 _a22 => ?_)
      refine DR_s 7 rfl (by kernel_rfl) rfl rfl (t_loadAt0 _a22 (fun i hi => by first | exact absurd hi (List.not_mem_nil) | (have _h1 := List.mem_singleton.1 hi; omega)) agg4 rfl rfl ?_)
      refine DR_s 8 rfl (by kernel_rfl) rfl rfl (t_v (fun _ => (r_neqB un4 rfl rfl)) ?_)
      refine DR_done (by kernel_rfl) ?_
      refine thn_nrm (_hK_12 _ _ ?_)
      clear _hK_12
      refine W_cond rfl (fun _h24 => ?_) (fun _h24 => ?_)
      · have _h24 := bf_e (bt_n _h24)
        refine W_seq fun _K_16 _hK_16 => ?_
        refine W_region ?_
        refine WL_step rfl rfl (r_assign rfl) ?_
        refine WL_nil ?_
        refine thn_nrm (_hK_16 _ _ ?_)
        clear _hK_16
        refine W_ret (inB_ret (thn_ret (thn_ret (inB_ret (thn_ret ?_)))))
        clear _hK_5 _hK_10
        exact ret_intro [_] ⟨rfl, trivial⟩ ⟨congrArg Value.bool (decide_eq_false (ne_of_get _hy18 _hy22 _h24)).symm, E⟩
      · have _h24 := bt_e (bf_n _h24)
        refine W_skip ?_
        refine inB_nrm ?_
        refine thn_nrm (_hK_10 _ _ ?_)
        clear _hK_10
        refine W_region ?_
        refine WL_step rfl rfl (r_add (by omega) rfl rfl) ?_
        refine WL_step rfl rfl (r_move rfl) ?_
        refine WL_nil ?_
        exact thn_nrm (Exists.intro (k + 1) ⟨⟨E, (by omega), (by omega), (take_eq_succ _ht _hy18 _hy22 _h24)⟩, Sub.cons rfl (Sub.cons rfl (Sub.cons rfl (Sub.cons rfl (Sub.cons rfl (Sub.cons rfl (Sub.cons rfl (Sub.cons rfl (Sub.cons rfl (Sub.cons rfl (Sub.nil _)))))))))), (by first | omega | (dsimp only; omega))⟩)
    · have _h14 := bf_d _h14
      refine W_exit (thn_exit (thn_exit (inB_hit ?_)))
      refine thn_nrm (_hK_5 _ _ ?_)
      clear _hK_5
      refine W_seq fun _K_17 _hK_17 => ?_
      refine W_region ?_
      refine WL_step rfl rfl (r_assign rfl) ?_
      refine WL_nil ?_
      refine thn_nrm (_hK_17 _ _ ?_)
      clear _hK_17
      refine W_ret ?_
      clear _hK_9
      exact ret_intro [_] ⟨rfl, trivial⟩ ⟨congrArg Value.bool (decide_eq_true (eq_of_take _ht (by omega) (by omega))).symm, E⟩

/-- impl.EqualAutomata -/
theorem c_impl_EqualAutomata {w : World} (aS : Int) {_B_aA : Nat} {_v_aA : Value} {aA : List Bool} (_h_aA : Ls bcs 1 w _B_aA _v_aA aA) {_B_saN : Nat} {_v_saN : Value} {saN : List Sv} (_h_saN : Ls Sv.cs 1 w _B_saN _v_saN saN) {BB_aN : Nat} {aN : List (List Int)} (_rd_aN : Rd ics 1 w BB_aN saN aN) (bS : Int) {_B_bA : Nat} {_v_bA : Value} {bA : List Bool} (_h_bA : Ls bcs 1 w _B_bA _v_bA bA) {_B_sbN : Nat} {_v_sbN : Value} {sbN : List Sv} (_h_sbN : Ls Sv.cs 1 w _B_sbN _v_sbN sbN) {BB_bN : Nat} {bN : List (List Int)} (_rd_bN : Rd ics 1 w BB_bN sbN bN) :
    Ctr Try.prog 23 #[(.agg #[(.int .i64 aS), _v_aA, _v_saN]), (.agg #[(.int .i64 bS), _v_bA, _v_sbN])] w (fun v w' => v = .bool (decide (aS = bS ∧ aA = bA ∧ aN = bN)) ∧ Ch [] w w') := by
  obtain ⟨_A_aA, _C_aA, _e1_aA⟩ := _h_aA.val
  subst _e1_aA
  have _l_aA := _h_aA.len
  have _h_aA := _h_aA.here (by decide)
  obtain ⟨_A_saN, _C_saN, _e1_saN⟩ := _h_saN.val
  subst _e1_saN
  have _l_saN := _h_saN.len
  have _h_saN := _h_saN.here (by decide)
  have _rd_aN := _rd_aN.here (by decide)
  have _rl_aN := _rd_aN.1
  obtain ⟨_A_bA, _C_bA, _e1_bA⟩ := _h_bA.val
  subst _e1_bA
  have _l_bA := _h_bA.len
  have _h_bA := _h_bA.here (by decide)
  obtain ⟨_A_sbN, _C_sbN, _e1_sbN⟩ := _h_sbN.val
  subst _e1_sbN
  have _l_sbN := _h_sbN.len
  have _h_sbN := _h_sbN.here (by decide)
  have _rd_bN := _rd_bN.here (by decide)
  have _rl_bN := _rd_bN.1
  have E := Ch.refl [] w
  refine Ctr_of_W (N := 24) (vs0 := [(.agg #[(.int .i64 aS), (.slice _A_aA aA.length _C_aA), (.slice _A_saN saN.length _C_saN)]), (.agg #[(.int .i64 bS), (.slice _A_bA bA.length _C_bA), (.slice _A_sbN sbN.length _C_sbN)])]) Try.func23 rfl rfl rfl ?_
  refine W_seq fun _K_1 _hK_1 => ?_
  refine W_region ?_
  refine WL_s rfl rfl ?_
  refine s_box rfl fun _b2 _w_2 _m2 _cw_2 _e2 => ?_
  have _cw_2z := _cw_2.size
  have E := E.trans _cw_2
  have _z2 := _m2.lt
  replace _m2 : Blk _w_2 _b2 28 [(.int .i64 aS), (.slice _A_aA aA.length _C_aA), (.slice _A_saN saN.length _C_saN)] := _m2
  refine WL_s rfl rfl ?_
  refine s_box rfl fun _b3 _w_3 _m3 _cw_3 _e3 => ?_
  have _cw_3z := _cw_3.size
  have E := E.trans _cw_3
  have _z3 := _m3.lt
  replace _m3 : Blk _w_3 _b3 28 [(.int .i64 bS), (.slice _A_bA bA.length _C_bA), (.slice _A_sbN sbN.length _C_sbN)] := _m3
  refine WL_step rfl rfl (r_assign rfl) ?_
  refine WL_nil ?_
  refine thn_nrm (_hK_1 _ _ ?_)
  clear _hK_1
  refine W_seq fun _K_4 _hK_4 => ?_
  refine W_region ?_
  refine WL_step rfl rfl (r_fieldAddr fa28_0 rfl) ?_
  have _f_5 := (_m2.ch0 _cw_3)
  refine WL_step rfl rfl (r_loadAt _f_5.at_ agg3 rfl rfl) ?_
  refine WL_step rfl rfl (r_fieldAddr fa28_0 rfl) ?_
  refine WL_step rfl rfl (r_loadAt _m3.at_ agg3 rfl rfl) ?_
  refine WL_step rfl rfl (r_eql rfl rfl) ?_
  refine WL_step rfl rfl (r_move rfl) ?_
  refine WL_split (d := 10) rfl (fun _h10 => ?_) (fun _h10 => ?_)
  · have _h10 := bt_d _h10
    refine WL_step rfl rfl (r_fieldAddr fa28_1 rfl) ?_
    refine WL_step rfl rfl (r_loadAt _f_5.at_ agg22 rfl rfl) ?_
    refine WL_step rfl rfl (r_fieldAddr fa28_1 rfl) ?_
    refine WL_step rfl rfl (r_loadAt _m3.at_ agg22 rfl rfl) ?_
    refine WL_s rfl rfl ?_
    have _f_6 := ((_h_aA.ch0 _cw_2).ch0 _cw_3)
    have _f_7 := ((_h_bA.ch0 _cw_2).ch0 _cw_3)
    refine Step.call (r_call (xs := [.tmp 12, .tmp 14]) fk61 rfl) (c_slices_Equal_bool_bool _f_6 _f_7 ) fun _v15 _w_8 _q15 => ?_
    obtain ⟨rfl, _cw_8⟩ := _q15
    have _cw_8z := _cw_8.size
    have E := E.trans _cw_8
    refine WL_step rfl rfl (r_pickT rfl rfl) ?_
    refine WL_step rfl rfl (r_move rfl) ?_
    refine WL_split (d := 17) rfl (fun _h17 => ?_) (fun _h17 => ?_)
    · have _h17 := bt_d _h17
      refine WL_step rfl rfl (r_fieldAddr fa28_2 rfl) ?_
      have _f_9 := (_f_5.ch0 _cw_8)
      refine WL_step rfl rfl (r_loadAt _f_9.at_ agg23 rfl rfl) ?_
      refine WL_step rfl rfl (r_fieldAddr fa28_2 rfl) ?_
      have _f_10 := (_m3.ch0 _cw_8)
      refine WL_step rfl rfl (r_loadAt _f_10.at_ agg23 rfl rfl) ?_
      refine WL_s rfl rfl ?_
      have _f_11 := (((_rd_aN.ch0 _cw_2).ch0 _cw_3).ch0 _cw_8)
      have _f_12 := (((_h_saN.ch0 _cw_2).ch0 _cw_3).ch0 _cw_8)
      have _f_13 := (((_rd_bN.ch0 _cw_2).ch0 _cw_3).ch0 _cw_8)
      have _f_14 := (((_h_sbN.ch0 _cw_2).ch0 _cw_3).ch0 _cw_8)
      refine Step.call (r_call (xs := [.tmp 19, .tmp 21, .func 63]) fk62 rfl) (c_slices_EqualFunc_int_int_int_int _f_12 _f_11 _f_14 _f_13 ) fun _v22 _w_15 _q22 => ?_
      obtain ⟨rfl, _cw_15⟩ := _q22
      have _cw_15z := _cw_15.size
      have E := E.trans _cw_15
      refine WL_step rfl rfl (r_pickT rfl rfl) ?_
      refine WL_step rfl rfl (r_assign rfl) ?_
      refine WL_nil ?_
      refine thn_nrm (_hK_4 _ _ ?_)
      clear _hK_4
      refine W_ret ?_
      exact ret_intro [_] ⟨rfl, trivial⟩ ⟨congrArg Value.bool (by simp_all), E⟩
    · have _h17 := bf_d _h17
      refine WL_skip rfl rfl ?_
      refine WL_skip rfl rfl ?_
      refine WL_skip rfl rfl ?_
      refine WL_skip rfl rfl ?_
      refine WL_skip rfl rfl ?_
      refine WL_step rfl rfl (r_pickF rfl rfl) ?_
      refine WL_step rfl rfl (r_assign rfl) ?_
      refine WL_nil ?_
      refine thn_nrm (_hK_4 _ _ ?_)
      clear _hK_4
      refine W_ret ?_
      exact ret_intro [_] ⟨rfl, trivial⟩ ⟨congrArg Value.bool (by simp_all), E⟩
  · have _h10 := bf_d _h10
    refine WL_skip rfl rfl ?_
    refine WL_skip rfl rfl ?_
    refine WL_skip rfl rfl ?_
    refine WL_skip rfl rfl ?_
    refine WL_skip rfl rfl ?_
    refine WL_step rfl rfl (r_pickF rfl rfl) ?_
    refine WL_step rfl rfl (r_move rfl) ?_
    refine WL_skip rfl rfl ?_
    refine WL_skip rfl rfl ?_
    refine WL_skip rfl rfl ?_
    refine WL_skip rfl rfl ?_
    refine WL_skip rfl rfl ?_
    refine WL_step rfl rfl (r_pickF rfl rfl) ?_
    refine WL_step rfl rfl (r_assign rfl) ?_
    refine WL_nil ?_
    refine thn_nrm (_hK_4 _ _ ?_)
    clear _hK_4
    refine W_ret ?_
    exact ret_intro [_] ⟨rfl, trivial⟩ ⟨congrArg Value.bool (by simp_all), E⟩

/-- laws.eqBoolS -/
theorem c_laws_eqBoolS {w : World} {_B_a : Nat} {_v_a : Value} {a : List Bool} (_h_a : Ls bcs 1 w _B_a _v_a a) {_B_b : Nat} {_v_b : Value} {b : List Bool} (_h_b : Ls bcs 1 w _B_b _v_b b) :
    Ctr Try.prog 56 #[_v_a, _v_b] w (fun v w' => v = .bool (decide (a = b)) ∧ Ch [] w w') := by
  obtain ⟨_A_a, _C_a, _e1_a⟩ := _h_a.val
  subst _e1_a
  have _l_a := _h_a.len
  have _h_a := _h_a.here (by decide)
  obtain ⟨_A_b, _C_b, _e1_b⟩ := _h_b.val
  subst _e1_b
  have _l_b := _h_b.len
  have _h_b := _h_b.here (by decide)
  have E := Ch.refl [] w
  refine Ctr_of_W (N := 26) (vs0 := [(.slice _A_a a.length _C_a), (.slice _A_b b.length _C_b)]) Try.func56 rfl rfl rfl ?_
  refine W_seq fun _K_1 _hK_1 => ?_
  refine W_region ?_
  refine WL_step rfl rfl (r_assign rfl) ?_
  refine WL_nil ?_
  refine thn_nrm (_hK_1 _ _ ?_)
  clear _hK_1
  refine W_seq fun _K_2 _hK_2 => ?_
  refine W_seq fun _K_3 _hK_3 => ?_
  refine W_region ?_
  refine WL_step rfl rfl (r_move rfl) ?_
  refine WL_step rfl rfl (r_len (by rw [el22]; rfl) rfl) ?_
  refine WL_step rfl rfl (r_move rfl) ?_
  refine WL_step rfl rfl (r_len (by rw [el22]; rfl) rfl) ?_
  refine WL_step rfl rfl (r_neq rfl rfl) ?_
  refine WL_nil ?_
  refine thn_nrm (_hK_3 _ _ ?_)
  clear _hK_3
  refine W_cond rfl (fun _h10 => ?_) (fun _h10 => ?_)
  · have _h10 := bf_d (bt_n _h10)
    refine W_seq fun _K_4 _hK_4 => ?_
    refine W_region ?_
    refine WL_step rfl rfl (r_assign rfl) ?_
    refine WL_nil ?_
    refine thn_nrm (_hK_4 _ _ ?_)
    clear _hK_4
    refine W_ret (thn_ret ?_)
    clear _hK_2
    exact ret_intro [_] ⟨rfl, trivial⟩ ⟨congrArg Value.bool (decide_eq_false (fun e => _h10 (by rw [e]))).symm, E⟩
  · have _h10 := bt_d (bf_n _h10)
    refine W_skip ?_
    refine thn_nrm (_hK_2 _ _ ?_)
    clear _hK_2
    refine W_seq fun _K_5 _hK_5 => ?_
    refine W_seq fun _K_6 _hK_6 => ?_
    refine W_region ?_
    refine WL_step rfl rfl (r_assign rfl) ?_
    refine WL_nil ?_
    refine thn_nrm (_hK_6 _ _ ?_)
    clear _hK_6
    refine W_block ?_
    refine W_loop (σ := Nat) (fun (k : Nat) => [(0, (.slice _A_a a.length _C_a)), (1, (.slice _A_b b.length _C_b)), (5, (.int .i64 ((k : Nat) : Int))), (6, (.slice _A_a a.length _C_a)), (7, (.int .i64 ((a.length : Nat) : Int))), (8, (.slice _A_b b.length _C_b)), (9, (.int .i64 ((b.length : Nat) : Int))), (10, (.bool (!decide (((a.length : Nat) : Int) = ((b.length : Nat) : Int)))))]) (fun (k : Nat) wx => Ch [] w wx ∧ w.heap.size ≤ wx.heap.size ∧ (k ≤ a.length) ∧ (a.take k = b.take k)) (fun (k : Nat) => a.length - k) 0 (Sub.cons rfl (Sub.cons rfl (Sub.cons rfl (Sub.cons rfl (Sub.cons rfl (Sub.cons rfl (Sub.cons rfl (Sub.cons rfl (Sub.nil _))))))))) ⟨E, (Nat.le_refl _), (by omega), rfl⟩ ?_
    rintro k _wr_7 ⟨E, _zz0, _hk, _ht⟩
    have _E0h := E
    have _E0hz := _E0h.size
    refine W_seq fun _K_8 _hK_8 => ?_
    refine W_seq fun _K_9 _hK_9 => ?_
    refine W_region ?_
    refine WL_step rfl rfl (r_move rfl) ?_
    refine WL_step rfl rfl (r_move rfl) ?_
    refine WL_step rfl rfl (r_len (by rw [el22]; rfl) rfl) ?_
    refine WL_step rfl rfl (r_lss rfl rfl) ?_
    refine WL_nil ?_
    refine thn_nrm (_hK_9 _ _ ?_)
    clear _hK_9
    refine W_cond rfl (fun _h14 => ?_) (fun _h14 => ?_)
    · have _h14 := bt_d _h14
      refine W_skip ?_
      refine thn_nrm (_hK_8 _ _ ?_)
      clear _hK_8
      refine W_seq fun _K_10 _hK_10 => ?_
      refine W_block ?_
      refine W_seq fun _K_11 _hK_11 => ?_
      refine W_drawC [] 9 mixed rfl fun _w_12 _cw_12 => ?_
      have _cw_12z := _cw_12.size
      have E := E.trans _cw_12
      refine DR_s 0 rfl (by kernel_rfl) rfl rfl (t_v (fun _ => (r_move rfl)) ?_)
      refine DR_s 1 rfl (by kernel_rfl) rfl rfl (t_v (fun _ => (r_move rfl)) ?_)
      have _f_13 := ((_h_a.ch0 _E0h).ch0 _cw_12)
      refine DR_s 2 rfl (by kernel_rfl) rfl rfl (t_index _f_13 bcs_len el22 sz4 rfl rfl rfl (by omega) fun _p19 _y19 _hy19 _a19 => ?_)
      refine DR_s 3 rfl (by kernel_rfl) rfl rfl (t_loadAt0 _a19 (fun i hi => by first | exact absurd hi (List.not_mem_nil) | (have _h1 := List.mem_singleton.1 hi; omega)) agg4 rfl rfl ?_)
      refine DR_s 4 rfl (by kernel_rfl) rfl rfl (t_v (fun _ => (r_move rfl)) ?_)
      refine DR_s 5 rfl (by kernel_rfl) rfl rfl (t_v (fun _ => (r_move rfl)) ?_)
      have _f_14 := ((_h_b.ch0 _E0h).ch0 _cw_12)
      refine DR_s 6 rfl (by kernel_rfl) rfl rfl (t_index _f_14 bcs_len el22 sz4 rfl rfl rfl (by omega) fun _p23 _y23 _hy23 _a23 => ?_)
      refine DR_s 7 rfl (by kernel_rfl) rfl rfl (t_loadAt0 _a23 (fun i hi => by first | exact absurd hi (List.not_mem_nil) | (have _h1 := List.mem_singleton.1 hi; omega)) agg4 rfl rfl ?_)
      refine DR_s 8 rfl (by kernel_rfl) rfl rfl (t_v (fun _ => (r_neqB un4 rfl rfl)) ?_)
      refine DR_done (by kernel_rfl) ?_
      refine thn_nrm (_hK_11 _ _ ?_)
      clear _hK_11
      refine W_cond rfl (fun _h25 => ?_) (fun _h25 => ?_)
      · have _h25 := bf_e (bt_n _h25)
        refine W_seq fun _K_15 _hK_15 => ?_
        refine W_region ?_
        refine WL_step rfl rfl (r_assign rfl) ?_
        refine WL_nil ?_
        refine thn_nrm (_hK_15 _ _ ?_)
        clear _hK_15
        refine W_ret (inB_ret (thn_ret (thn_ret (inB_ret (thn_ret ?_)))))
        clear _hK_5 _hK_10
        exact ret_intro [_] ⟨rfl, trivial⟩ ⟨congrArg Value.bool (decide_eq_false (ne_of_get _hy19 _hy23 _h25)).symm, E⟩
      · have _h25 := bt_e (bf_n _h25)
        refine W_skip ?_
        refine inB_nrm ?_
        refine thn_nrm (_hK_10 _ _ ?_)
        clear _hK_10
        refine W_region ?_
        refine WL_step rfl rfl (r_move rfl) ?_
        refine WL_step rfl rfl (r_add (by omega) rfl rfl) ?_
        refine WL_step rfl rfl (r_assign rfl) ?_
        refine WL_nil ?_
        exact thn_nrm (Exists.intro (k + 1) ⟨⟨E, (by omega), (by omega), (take_eq_succ _ht _hy19 _hy23 _h25)⟩, Sub.cons rfl (Sub.cons rfl (Sub.cons rfl (Sub.cons rfl (Sub.cons rfl (Sub.cons rfl (Sub.cons rfl (Sub.cons rfl (Sub.nil _)))))))), (by first | omega | (dsimp only; omega))⟩)
    · have _h14 := bf_d _h14
      refine W_exit (thn_exit (thn_exit (inB_hit ?_)))
      refine thn_nrm (_hK_5 _ _ ?_)
      clear _hK_5
      refine W_seq fun _K_16 _hK_16 => ?_
      refine W_region ?_
      refine WL_step rfl rfl (r_assign rfl) ?_
      refine WL_nil ?_
      refine thn_nrm (_hK_16 _ _ ?_)
      clear _hK_16
      refine W_ret ?_
      clear _hK_8
      exact ret_intro [_] ⟨rfl, trivial⟩ ⟨congrArg Value.bool (decide_eq_true (eq_of_take _ht (by omega) (by omega))).symm, E⟩

/-- laws.eqIntS -/
theorem c_laws_eqIntS {w : World} {_B_a : Nat} {_v_a : Value} {a : List Int} (_h_a : Ls ics 1 w _B_a _v_a a) {_B_b : Nat} {_v_b : Value} {b : List Int} (_h_b : Ls ics 1 w _B_b _v_b b) :
    Ctr Try.prog 27 #[_v_a, _v_b] w (fun v w' => v = .bool (decide (a = b)) ∧ Ch [] w w') := by
  obtain ⟨_A_a, _C_a, _e1_a⟩ := _h_a.val
  subst _e1_a
  have _l_a := _h_a.len
  have _h_a := _h_a.here (by decide)
  obtain ⟨_A_b, _C_b, _e1_b⟩ := _h_b.val
  subst _e1_b
  have _l_b := _h_b.len
  have _h_b := _h_b.here (by decide)
  have E := Ch.refl [] w
  refine Ctr_of_W (N := 26) (vs0 := [(.slice _A_a a.length _C_a), (.slice _A_b b.length _C_b)]) Try.func27 rfl rfl rfl ?_
  refine W_seq fun _K_1 _hK_1 => ?_
  refine W_region ?_
  refine WL_step rfl rfl (r_assign rfl) ?_
  refine WL_nil ?_
  refine thn_nrm (_hK_1 _ _ ?_)
  clear _hK_1
  refine W_seq fun _K_2 _hK_2 => ?_
  refine W_seq fun _K_3 _hK_3 => ?_
  refine W_region ?_
  refine WL_step rfl rfl (r_move rfl) ?_
  refine WL_step rfl rfl (r_len (by rw [el35]; rfl) rfl) ?_
  refine WL_step rfl rfl (r_move rfl) ?_
  refine WL_step rfl rfl (r_len (by rw [el35]; rfl) rfl) ?_
  refine WL_step rfl rfl (r_neq rfl rfl) ?_
  refine WL_nil ?_
  refine thn_nrm (_hK_3 _ _ ?_)
  clear _hK_3
  refine W_cond rfl (fun _h10 => ?_) (fun _h10 => ?_)
  · have _h10 := bf_d (bt_n _h10)
    refine W_seq fun _K_4 _hK_4 => ?_
    refine W_region ?_
    refine WL_step rfl rfl (r_assign rfl) ?_
    refine WL_nil ?_
    refine thn_nrm (_hK_4 _ _ ?_)
    clear _hK_4
    refine W_ret (thn_ret ?_)
    clear _hK_2
    exact ret_intro [_] ⟨rfl, trivial⟩ ⟨congrArg Value.bool (decide_eq_false (fun e => _h10 (by rw [e]))).symm, E⟩
  · have _h10 := bt_d (bf_n _h10)
    refine W_skip ?_
    refine thn_nrm (_hK_2 _ _ ?_)
    clear _hK_2
    refine W_seq fun _K_5 _hK_5 => ?_
    refine W_seq fun _K_6 _hK_6 => ?_
    refine W_region ?_
    refine WL_step rfl rfl (r_assign rfl) ?_
    refine WL_nil ?_
    refine thn_nrm (_hK_6 _ _ ?_)
    clear _hK_6
    refine W_block ?_
    refine W_loop (σ := Nat) (fun (k : Nat) => [(0, (.slice _A_a a.length _C_a)), (1, (.slice _A_b b.length _C_b)), (5, (.int .i64 ((k : Nat) : Int))), (6, (.slice _A_a a.length _C_a)), (7, (.int .i64 ((a.length : Nat) : Int))), (8, (.slice _A_b b.length _C_b)), (9, (.int .i64 ((b.length : Nat) : Int))), (10, (.bool (!decide (((a.length : Nat) : Int) = ((b.length : Nat) : Int)))))]) (fun (k : Nat) wx => Ch [] w wx ∧ w.heap.size ≤ wx.heap.size ∧ (k ≤ a.length) ∧ (a.take k = b.take k)) (fun (k : Nat) => a.length - k) 0 (Sub.cons rfl (Sub.cons rfl (Sub.cons rfl (Sub.cons rfl (Sub.cons rfl (Sub.cons rfl (Sub.cons rfl (Sub.cons rfl (Sub.nil _))))))))) ⟨E, (Nat.le_refl _), (by omega), rfl⟩ ?_
    rintro k _wr_7 ⟨E, _zz0, _hk, _ht⟩
    have _E0h := E
    have _E0hz := _E0h.size
    refine W_seq fun _K_8 _hK_8 => ?_
    refine W_seq fun _K_9 _hK_9 => ?_
    refine W_region ?_
    refine WL_step rfl rfl (r_move rfl) ?_
    refine WL_step rfl rfl (r_move rfl) ?_
    refine WL_step rfl rfl (r_len (by rw [el35]; rfl) rfl) ?_
    refine WL_step rfl rfl (r_lss rfl rfl) ?_
    refine WL_nil ?_
    refine thn_nrm (_hK_9 _ _ ?_)
    clear _hK_9
    refine W_cond rfl (fun _h14 => ?_) (fun _h14 => ?_)
    · have _h14 := bt_d _h14
      refine W_skip ?_
      refine thn_nrm (_hK_8 _ _ ?_)
      clear _hK_8
      refine W_seq fun _K_10 _hK_10 => ?_
      refine W_block ?_
      refine W_seq fun _K_11 _hK_11 => ?_
      refine W_drawC [] 9 mixed rfl fun _w_12 _cw_12 => ?_
      have _cw_12z := _cw_12.size
      have E := E.trans _cw_12
      refine DR_s 0 rfl (by kernel_rfl) rfl rfl (t_v (fun _ => (r_move rfl)) ?_)
      refine DR_s 1 rfl (by kernel_rfl) rfl rfl (t_v (fun _ => (r_move rfl)) ?_)
      have _f_13 := ((_h_a.ch0 _E0h).ch0 _cw_12)
      refine DR_s 2 rfl (by kernel_rfl) rfl rfl (t_index _f_13 ics_len el35 sz3 rfl rfl rfl (by omega) fun _p19 _y19 _hy19 _a19 => ?_)
      refine DR_s 3 rfl (by kernel_rfl) rfl rfl (t_loadAt0 _a19 (fun i hi => by first | exact absurd hi (List.not_mem_nil) | (have _h1 := List.mem_singleton.1 hi; omega)) agg3 rfl rfl ?_)
      refine DR_s 4 rfl (by kernel_rfl) rfl rfl (t_v (fun _ => (r_move rfl)) ?_)
      refine DR_s 5 rfl (by kernel_rfl) rfl rfl (t_v (fun _ => (r_move rfl)) ?_)
      have _f_14 := ((_h_b.ch0 _E0h).ch0 _cw_12)
      refine DR_s 6 rfl (by kernel_rfl) rfl rfl (t_index _f_14 ics_len el35 sz3 rfl rfl rfl (by omega) fun _p23 _y23 _hy23 _a23 => ?_)
      refine DR_s 7 rfl (by kernel_rfl) rfl rfl (t_loadAt0 _a23 (fun i hi => by first | exact absurd hi (List.not_mem_nil) | (have _h1 := List.mem_singleton.1 hi; omega)) agg3 rfl rfl ?_)
      refine DR_s 8 rfl (by kernel_rfl) rfl rfl (t_v (fun _ => (r_neq rfl rfl)) ?_)
      refine DR_done (by kernel_rfl) ?_
      refine thn_nrm (_hK_11 _ _ ?_)
      clear _hK_11
      refine W_cond rfl (fun _h25 => ?_) (fun _h25 => ?_)
      · have _h25 := bf_d (bt_n _h25)
        refine W_seq fun _K_15 _hK_15 => ?_
        refine W_region ?_
        refine WL_step rfl rfl (r_assign rfl) ?_
        refine WL_nil ?_
        refine thn_nrm (_hK_15 _ _ ?_)
        clear _hK_15
        refine W_ret (inB_ret (thn_ret (thn_ret (inB_ret (thn_ret ?_)))))
        clear _hK_5 _hK_10
        exact ret_intro [_] ⟨rfl, trivial⟩ ⟨congrArg Value.bool (decide_eq_false (ne_of_get _hy19 _hy23 _h25)).symm, E⟩
      · have _h25 := bt_d (bf_n _h25)
        refine W_skip ?_
        refine inB_nrm ?_
        refine thn_nrm (_hK_10 _ _ ?_)
        clear _hK_10
        refine W_region ?_
        refine WL_step rfl rfl (r_move rfl) ?_
        refine WL_step rfl rfl (r_add (by omega) rfl rfl) ?_
        refine WL_step rfl rfl (r_assign rfl) ?_
        refine WL_nil ?_
        exact thn_nrm (Exists.intro (k + 1) ⟨⟨E, (by omega), (by omega), (take_eq_succ _ht _hy19 _hy23 _h25)⟩, Sub.cons rfl (Sub.cons rfl (Sub.cons rfl (Sub.cons rfl (Sub.cons rfl (Sub.cons rfl (Sub.cons rfl (Sub.cons rfl (Sub.nil _)))))))), (by first | omega | (dsimp only; omega))⟩)
    · have _h14 := bf_d _h14
      refine W_exit (thn_exit (thn_exit (inB_hit ?_)))
      refine thn_nrm (_hK_5 _ _ ?_)
      clear _hK_5
      refine W_seq fun _K_16 _hK_16 => ?_
      refine W_region ?_
      refine WL_step rfl rfl (r_assign rfl) ?_
      refine WL_nil ?_
      refine thn_nrm (_hK_16 _ _ ?_)
      clear _hK_16
      refine W_ret ?_
      clear _hK_8
      exact ret_intro [_] ⟨rfl, trivial⟩ ⟨congrArg Value.bool (decide_eq_true (eq_of_take _ht (by omega) (by omega))).symm, E⟩

/-- laws.eqIntSS -/
theorem c_laws_eqIntSS {w : World} {_B_sa : Nat} {_v_sa : Value} {sa : List Sv} (_h_sa : Ls Sv.cs 1 w _B_sa _v_sa sa) {BB_a : Nat} {a : List (List Int)} (_rd_a : Rd ics 1 w BB_a sa a) {_B_sb : Nat} {_v_sb : Value} {sb : List Sv} (_h_sb : Ls Sv.cs 1 w _B_sb _v_sb sb) {BB_b : Nat} {b : List (List Int)} (_rd_b : Rd ics 1 w BB_b sb b) :
    Ctr Try.prog 57 #[_v_sa, _v_sb] w (fun v w' => v = .bool (decide (a = b)) ∧ Ch [] w w') := by
  obtain ⟨_A_sa, _C_sa, _e1_sa⟩ := _h_sa.val
  subst _e1_sa
  have _l_sa := _h_sa.len
  have _h_sa := _h_sa.here (by decide)
  have _rd_a := _rd_a.here (by decide)
  have _rl_a := _rd_a.1
  obtain ⟨_A_sb, _C_sb, _e1_sb⟩ := _h_sb.val
  subst _e1_sb
  have _l_sb := _h_sb.len
  have _h_sb := _h_sb.here (by decide)
  have _rd_b := _rd_b.here (by decide)
  have _rl_b := _rd_b.1
  have E := Ch.refl [] w
  refine Ctr_of_W (N := 27) (vs0 := [(.slice _A_sa sa.length _C_sa), (.slice _A_sb sb.length _C_sb)]) Try.func57 rfl rfl rfl ?_
  refine W_seq fun _K_1 _hK_1 => ?_
  refine W_region ?_
  refine WL_step rfl rfl (r_assign rfl) ?_
  refine WL_nil ?_
  refine thn_nrm (_hK_1 _ _ ?_)
  clear _hK_1
  refine W_seq fun _K_2 _hK_2 => ?_
  refine W_seq fun _K_3 _hK_3 => ?_
  refine W_region ?_
  refine WL_step rfl rfl (r_move rfl) ?_
  refine WL_step rfl rfl (r_len (by rw [el23]; rfl) rfl) ?_
  refine WL_step rfl rfl (r_move rfl) ?_
  refine WL_step rfl rfl (r_len (by rw [el23]; rfl) rfl) ?_
  refine WL_step rfl rfl (r_neq rfl rfl) ?_
  refine WL_nil ?_
  refine thn_nrm (_hK_3 _ _ ?_)
  clear _hK_3
  refine W_cond rfl (fun _h10 => ?_) (fun _h10 => ?_)
  · have _h10 := bf_d (bt_n _h10)
    refine W_seq fun _K_4 _hK_4 => ?_
    refine W_region ?_
    refine WL_step rfl rfl (r_assign rfl) ?_
    refine WL_nil ?_
    refine thn_nrm (_hK_4 _ _ ?_)
    clear _hK_4
    refine W_ret (thn_ret ?_)
    clear _hK_2
    exact ret_intro [_] ⟨rfl, trivial⟩ ⟨congrArg Value.bool (decide_eq_false (fun e => _h10 (by rw [_rl_a, _rl_b, e]))).symm, E⟩
  · have _h10 := bt_d (bf_n _h10)
    refine W_skip ?_
    refine thn_nrm (_hK_2 _ _ ?_)
    clear _hK_2
    refine W_seq fun _K_5 _hK_5 => ?_
    refine W_seq fun _K_6 _hK_6 => ?_
    refine W_region ?_
    refine WL_step rfl rfl (r_assign rfl) ?_
    refine WL_nil ?_
    refine thn_nrm (_hK_6 _ _ ?_)
    clear _hK_6
    refine W_block ?_
    refine W_loop (σ := Nat) (fun (k : Nat) => [(0, (.slice _A_sa sa.length _C_sa)), (1, (.slice _A_sb sb.length _C_sb)), (5, (.int .i64 ((k : Nat) : Int))), (6, (.slice _A_sa sa.length _C_sa)), (7, (.int .i64 ((sa.length : Nat) : Int))), (8, (.slice _A_sb sb.length _C_sb)), (9, (.int .i64 ((sb.length : Nat) : Int))), (10, (.bool (!decide (((sa.length : Nat) : Int) = ((sb.length : Nat) : Int)))))]) (fun (k : Nat) wx => Ch [] w wx ∧ w.heap.size ≤ wx.heap.size ∧ (k ≤ a.length) ∧ (a.take k = b.take k)) (fun (k : Nat) => a.length - k) 0 (Sub.cons rfl (Sub.cons rfl (Sub.cons rfl (Sub.cons rfl (Sub.cons rfl (Sub.cons rfl (Sub.cons rfl (Sub.cons rfl (Sub.nil _))))))))) ⟨E, (Nat.le_refl _), (by omega), rfl⟩ ?_
    rintro k _wr_7 ⟨E, _zz0, _hk, _ht⟩
    have _E0h := E
    have _E0hz := _E0h.size
    refine W_seq fun _K_8 _hK_8 => ?_
    refine W_seq fun _K_9 _hK_9 => ?_
    refine W_region ?_
    refine WL_step rfl rfl (r_move rfl) ?_
    refine WL_step rfl rfl (r_move rfl) ?_
    refine WL_step rfl rfl (r_len (by rw [el23]; rfl) rfl) ?_
    refine WL_step rfl rfl (r_lss rfl rfl) ?_
    refine WL_nil ?_
    refine thn_nrm (_hK_9 _ _ ?_)
    clear _hK_9
    refine W_cond rfl (fun _h14 => ?_) (fun _h14 => ?_)
    · have _h14 := bt_d _h14
      refine W_skip ?_
      refine thn_nrm (_hK_8 _ _ ?_)
      clear _hK_8
      refine W_seq fun _K_10 _hK_10 => ?_
      refine W_block ?_
      refine W_seq fun _K_11 _hK_11 => ?_
      refine W_drawC [] 10 mixed rfl fun _w_12 _cw_12 => ?_
      have _cw_12z := _cw_12.size
      have E := E.trans _cw_12
      refine DR_s 0 rfl (by kernel_rfl) rfl rfl (t_v (fun _ => (r_move rfl)) ?_)
      refine DR_s 1 rfl (by kernel_rfl) rfl rfl (t_v (fun _ => (r_move rfl)) ?_)
      have _f_13 := ((_h_sa.ch0 _E0h).ch0 _cw_12)
      have _f_14 := ((_rd_a.ch0 _E0h).ch0 _cw_12)
      refine DR_s 2 rfl (by kernel_rfl) rfl rfl (t_index _f_13 Sv.len el23 sz35 rfl rfl rfl (by omega) fun _p19 _y19 _hy19 _a19 => ?_)
      obtain ⟨_ys19, _hys19, _fs19⟩ := _f_14.get _hy19
      obtain ⟨_A19, _n19, _C19⟩ := _y19
      obtain rfl := _fs19.eqn
      have _l19 := _fs19.len
      replace _fs19 : Ls ics 1 _w_12 w.heap.size (.slice _A19 _ys19.length _C19) _ys19 := _fs19
      replace _a19 : At _w_12 w.heap.size _p19 ([(.slice _A19 _ys19.length _C19)]) := _a19
      refine DR_s 3 rfl (by kernel_rfl) rfl rfl (t_loadAt0 _a19 (fun i hi => by first | exact absurd hi (List.not_mem_nil) | (have _h1 := List.mem_singleton.1 hi; omega)) agg35 rfl rfl ?_)
      refine DR_s 4 rfl (by kernel_rfl) rfl rfl (t_v (fun _ => (r_move rfl)) ?_)
      refine DR_s 5 rfl (by kernel_rfl) rfl rfl (t_v (fun _ => (r_move rfl)) ?_)
      have _f_15 := ((_h_sb.ch0 _E0h).ch0 _cw_12)
      have _f_16 := ((_rd_b.ch0 _E0h).ch0 _cw_12)
      refine DR_s 6 rfl (by kernel_rfl) rfl rfl (t_index _f_15 Sv.len el23 sz35 rfl rfl rfl (by omega) fun _p23 _y23 _hy23 _a23 => ?_)
      obtain ⟨_ys23, _hys23, _fs23⟩ := _f_16.get _hy23
      obtain ⟨_A23, _n23, _C23⟩ := _y23
      obtain rfl := _fs23.eqn
      have _l23 := _fs23.len
      replace _fs23 : Ls ics 1 _w_12 w.heap.size (.slice _A23 _ys23.length _C23) _ys23 := _fs23
      replace _a23 : At _w_12 w.heap.size _p23 ([(.slice _A23 _ys23.length _C23)]) := _a23
      refine DR_s 7 rfl (by kernel_rfl) rfl rfl (t_loadAt0 _a23 (fun i hi => by first | exact absurd hi (List.not_mem_nil) | (have _h1 := List.mem_singleton.1 hi; omega)) agg35 rfl rfl ?_)
      refine DR_one 8 (by kernel_rfl) ?_
      refine DO_s rfl rfl rfl ?_
      refine Step.call (r_call (xs := [.tmp 20, .tmp 24]) fk27 rfl) (c_laws_eqIntS _fs19 _fs23 ) fun _v25 _w_17 _q25 => ?_
      obtain ⟨rfl, _cw_17⟩ := _q25
      have _cw_17z := _cw_17.size
      have E := E.trans _cw_17
      have _S_18 : Ch [] _w_12 _w_17 := ((Ch.refl _ _).trans _cw_17.of_nil)
      refine ⟨_S_18, ?_⟩
      refine DR_s 9 rfl (by kernel_rfl) rfl rfl (t_v (fun _ => (r_not rfl)) ?_)
      refine DR_done (by kernel_rfl) ?_
      refine thn_nrm (_hK_11 _ _ ?_)
      clear _hK_11
      refine W_cond rfl (fun _h26 => ?_) (fun _h26 => ?_)
      · have _h26 := bf_d (bt_n _h26)
        refine W_seq fun _K_19 _hK_19 => ?_
        refine W_region ?_
        refine WL_step rfl rfl (r_assign rfl) ?_
        refine WL_nil ?_
        refine thn_nrm (_hK_19 _ _ ?_)
        clear _hK_19
        refine W_ret (inB_ret (thn_ret (thn_ret (inB_ret (thn_ret ?_)))))
        clear _hK_5 _hK_10
        exact ret_intro [_] ⟨rfl, trivial⟩ ⟨congrArg Value.bool (decide_eq_false (ne_of_get _hys19 _hys23 _h26)).symm, E⟩
      · have _h26 := bt_d (bf_n _h26)
        refine W_skip ?_
        refine inB_nrm ?_
        refine thn_nrm (_hK_10 _ _ ?_)
        clear _hK_10
        refine W_region ?_
        refine WL_step rfl rfl (r_move rfl) ?_
        refine WL_step rfl rfl (r_add (by omega) rfl rfl) ?_
        refine WL_step rfl rfl (r_assign rfl) ?_
        refine WL_nil ?_
        exact thn_nrm (Exists.intro (k + 1) ⟨⟨E, (by omega), (by omega), (take_eq_succ _ht _hys19 _hys23 _h26)⟩, Sub.cons rfl (Sub.cons rfl (Sub.cons rfl (Sub.cons rfl (Sub.cons rfl (Sub.cons rfl (Sub.cons rfl (Sub.cons rfl (Sub.nil _)))))))), (by first | omega | (dsimp only; omega))⟩)
    · have _h14 := bf_d _h14
      refine W_exit (thn_exit (thn_exit (inB_hit ?_)))
      refine thn_nrm (_hK_5 _ _ ?_)
      clear _hK_5
      refine W_seq fun _K_20 _hK_20 => ?_
      refine W_region ?_
      refine WL_step rfl rfl (r_assign rfl) ?_
      refine WL_nil ?_
      refine thn_nrm (_hK_20 _ _ ?_)
      clear _hK_20
      refine W_ret ?_
      clear _hK_8
      exact ret_intro [_] ⟨rfl, trivial⟩ ⟨congrArg Value.bool (decide_eq_true (eq_of_take _ht (by omega) (by omega))).symm, E⟩

/-- laws.eqAutomaton -/
theorem c_laws_eqAutomaton {w : World} (aS : Int) {_B_aA : Nat} {_v_aA : Value} {aA : List Bool} (_h_aA : Ls bcs 1 w _B_aA _v_aA aA) {_B_saN : Nat} {_v_saN : Value} {saN : List Sv} (_h_saN : Ls Sv.cs 1 w _B_saN _v_saN saN) {BB_aN : Nat} {aN : List (List Int)} (_rd_aN : Rd ics 1 w BB_aN saN aN) (bS : Int) {_B_bA : Nat} {_v_bA : Value} {bA : List Bool} (_h_bA : Ls bcs 1 w _B_bA _v_bA bA) {_B_sbN : Nat} {_v_sbN : Value} {sbN : List Sv} (_h_sbN : Ls Sv.cs 1 w _B_sbN _v_sbN sbN) {BB_bN : Nat} {bN : List (List Int)} (_rd_bN : Rd ics 1 w BB_bN sbN bN) :
    Ctr Try.prog 19 #[(.agg #[(.int .i64 aS), _v_aA, _v_saN]), (.agg #[(.int .i64 bS), _v_bA, _v_sbN])] w (fun v w' => v = .bool (decide (aS = bS ∧ aA = bA ∧ aN = bN)) ∧ Ch [] w w') := by
  obtain ⟨_A_aA, _C_aA, _e1_aA⟩ := _h_aA.val
  subst _e1_aA
  have _l_aA := _h_aA.len
  have _h_aA := _h_aA.here (by decide)
  obtain ⟨_A_saN, _C_saN, _e1_saN⟩ := _h_saN.val
  subst _e1_saN
  have _l_saN := _h_saN.len
  have _h_saN := _h_saN.here (by decide)
  have _rd_aN := _rd_aN.here (by decide)
  have _rl_aN := _rd_aN.1
  obtain ⟨_A_bA, _C_bA, _e1_bA⟩ := _h_bA.val
  subst _e1_bA
  have _l_bA := _h_bA.len
  have _h_bA := _h_bA.here (by decide)
  obtain ⟨_A_sbN, _C_sbN, _e1_sbN⟩ := _h_sbN.val
  subst _e1_sbN
  have _l_sbN := _h_sbN.len
  have _h_sbN := _h_sbN.here (by decide)
  have _rd_bN := _rd_bN.here (by decide)
  have _rl_bN := _rd_bN.1
  have E := Ch.refl [] w
  refine Ctr_of_W (N := 22) (vs0 := [(.agg #[(.int .i64 aS), (.slice _A_aA aA.length _C_aA), (.slice _A_saN saN.length _C_saN)]), (.agg #[(.int .i64 bS), (.slice _A_bA bA.length _C_bA), (.slice _A_sbN sbN.length _C_sbN)])]) Try.func19 rfl rfl rfl ?_
  refine W_seq fun _K_1 _hK_1 => ?_
  refine W_region ?_
  refine WL_s rfl rfl ?_
  refine s_box rfl fun _b2 _w_2 _m2 _cw_2 _e2 => ?_
  have _cw_2z := _cw_2.size
  have E := E.trans _cw_2
  have _z2 := _m2.lt
  replace _m2 : Blk _w_2 _b2 28 [(.int .i64 aS), (.slice _A_aA aA.length _C_aA), (.slice _A_saN saN.length _C_saN)] := _m2
  refine WL_s rfl rfl ?_
  refine s_box rfl fun _b3 _w_3 _m3 _cw_3 _e3 => ?_
  have _cw_3z := _cw_3.size
  have E := E.trans _cw_3
  have _z3 := _m3.lt
  replace _m3 : Blk _w_3 _b3 28 [(.int .i64 bS), (.slice _A_bA bA.length _C_bA), (.slice _A_sbN sbN.length _C_sbN)] := _m3
  refine WL_step rfl rfl (r_assign rfl) ?_
  refine WL_nil ?_
  refine thn_nrm (_hK_1 _ _ ?_)
  clear _hK_1
  refine W_seq fun _K_4 _hK_4 => ?_
  refine W_seq fun _K_5 _hK_5 => ?_
  refine W_region ?_
  refine WL_step rfl rfl (r_fieldAddr fa28_0 rfl) ?_
  have _f_6 := (_m2.ch0 _cw_3)
  refine WL_step rfl rfl (r_loadAt _f_6.at_ agg3 rfl rfl) ?_
  refine WL_step rfl rfl (r_fieldAddr fa28_0 rfl) ?_
  refine WL_step rfl rfl (r_loadAt _m3.at_ agg3 rfl rfl) ?_
  refine WL_step rfl rfl (r_neq rfl rfl) ?_
  refine WL_nil ?_
  refine thn_nrm (_hK_5 _ _ ?_)
  clear _hK_5
  refine W_cond rfl (fun _h9 => ?_) (fun _h9 => ?_)
  · have _h9 := bf_d (bt_n _h9)
    refine W_seq fun _K_7 _hK_7 => ?_
    refine W_region ?_
    refine WL_step rfl rfl (r_assign rfl) ?_
    refine WL_nil ?_
    refine thn_nrm (_hK_7 _ _ ?_)
    clear _hK_7
    refine W_ret (thn_ret ?_)
    clear _hK_4
    exact ret_intro [_] ⟨rfl, trivial⟩ ⟨congrArg Value.bool (by simp_all), E⟩
  · have _h9 := bt_d (bf_n _h9)
    refine W_skip ?_
    refine thn_nrm (_hK_4 _ _ ?_)
    clear _hK_4
    refine W_seq fun _K_8 _hK_8 => ?_
    refine W_seq fun _K_9 _hK_9 => ?_
    refine W_region ?_
    refine WL_step rfl rfl (r_fieldAddr fa28_1 rfl) ?_
    refine WL_step rfl rfl (r_loadAt _f_6.at_ agg22 rfl rfl) ?_
    refine WL_step rfl rfl (r_fieldAddr fa28_1 rfl) ?_
    refine WL_step rfl rfl (r_loadAt _m3.at_ agg22 rfl rfl) ?_
    refine WL_s rfl rfl ?_
    have _f_10 := ((_h_aA.ch0 _cw_2).ch0 _cw_3)
    have _f_11 := ((_h_bA.ch0 _cw_2).ch0 _cw_3)
    refine Step.call (r_call (xs := [.tmp 11, .tmp 13]) fk56 rfl) (c_laws_eqBoolS _f_10 _f_11 ) fun _v14 _w_12 _q14 => ?_
    obtain ⟨rfl, _cw_12⟩ := _q14
    have _cw_12z := _cw_12.size
    have E := E.trans _cw_12
    refine WL_step rfl rfl (r_not rfl) ?_
    refine WL_nil ?_
    refine thn_nrm (_hK_9 _ _ ?_)
    clear _hK_9
    refine W_cond rfl (fun _h15 => ?_) (fun _h15 => ?_)
    · have _h15 := bf_d (bt_n _h15)
      refine W_seq fun _K_13 _hK_13 => ?_
      refine W_region ?_
      refine WL_step rfl rfl (r_assign rfl) ?_
      refine WL_nil ?_
      refine thn_nrm (_hK_13 _ _ ?_)
      clear _hK_13
      refine W_ret (thn_ret ?_)
      clear _hK_8
      exact ret_intro [_] ⟨rfl, trivial⟩ ⟨congrArg Value.bool (by simp_all), E⟩
    · have _h15 := bt_d (bf_n _h15)
      refine W_skip ?_
      refine thn_nrm (_hK_8 _ _ ?_)
      clear _hK_8
      refine W_seq fun _K_14 _hK_14 => ?_
      refine W_seq fun _K_15 _hK_15 => ?_
      refine W_region ?_
      refine WL_step rfl rfl (r_fieldAddr fa28_2 rfl) ?_
      have _f_16 := (_f_6.ch0 _cw_12)
      refine WL_step rfl rfl (r_loadAt _f_16.at_ agg23 rfl rfl) ?_
      refine WL_step rfl rfl (r_fieldAddr fa28_2 rfl) ?_
      have _f_17 := (_m3.ch0 _cw_12)
      refine WL_step rfl rfl (r_loadAt _f_17.at_ agg23 rfl rfl) ?_
      refine WL_s rfl rfl ?_
      have _f_18 := (((_rd_aN.ch0 _cw_2).ch0 _cw_3).ch0 _cw_12)
      have _f_19 := (((_h_saN.ch0 _cw_2).ch0 _cw_3).ch0 _cw_12)
      have _f_20 := (((_rd_bN.ch0 _cw_2).ch0 _cw_3).ch0 _cw_12)
      have _f_21 := (((_h_sbN.ch0 _cw_2).ch0 _cw_3).ch0 _cw_12)
      refine Step.call (r_call (xs := [.tmp 17, .tmp 19]) fk57 rfl) (c_laws_eqIntSS _f_19 _f_18 _f_21 _f_20 ) fun _v20 _w_22 _q20 => ?_
      obtain ⟨rfl, _cw_22⟩ := _q20
      have _cw_22z := _cw_22.size
      have E := E.trans _cw_22
      refine WL_step rfl rfl (r_not rfl) ?_
      refine WL_nil ?_
      refine thn_nrm (_hK_15 _ _ ?_)
      clear _hK_15
      refine W_cond rfl (fun _h21 => ?_) (fun _h21 => ?_)
      · have _h21 := bf_d (bt_n _h21)
        refine W_seq fun _K_23 _hK_23 => ?_
        refine W_region ?_
        refine WL_step rfl rfl (r_assign rfl) ?_
        refine WL_nil ?_
        refine thn_nrm (_hK_23 _ _ ?_)
        clear _hK_23
        refine W_ret (thn_ret ?_)
        clear _hK_14
        exact ret_intro [_] ⟨rfl, trivial⟩ ⟨congrArg Value.bool (by simp_all), E⟩
      · have _h21 := bt_d (bf_n _h21)
        refine W_skip ?_
        refine thn_nrm (_hK_14 _ _ ?_)
        clear _hK_14
        refine W_seq fun _K_24 _hK_24 => ?_
        refine W_region ?_
        refine WL_step rfl rfl (r_assign rfl) ?_
        refine WL_nil ?_
        refine thn_nrm (_hK_24 _ _ ?_)
        clear _hK_24
        refine W_ret ?_
        exact ret_intro [_] ⟨rfl, trivial⟩ ⟨congrArg Value.bool (by simp_all), E⟩

/-- laws.szBoolS -/
theorem c_laws_szBoolS {w : World} {_B_a : Nat} {_v_a : Value} {a : List Bool} (_h_a : Ls bcs 1 w _B_a _v_a a) (left : Int) (hl : left ≤ 1048576) (_h0 : 0 ≤ left) :
    Ctr Try.prog 50 #[_v_a, (.int .i64 left)] w (fun v w' => v = .int .i64 (if left < a.length then -1 else left - a.length) ∧ Ch [] w w') := by
  obtain ⟨_A_a, _C_a, _e1_a⟩ := _h_a.val
  subst _e1_a
  have _l_a := _h_a.len
  have _h_a := _h_a.here (by decide)
  have E := Ch.refl [] w
  refine Ctr_of_W (N := 12) (vs0 := [(.slice _A_a a.length _C_a), (.int .i64 left)]) Try.func50 rfl rfl rfl ?_
  refine W_seq fun _K_1 _hK_1 => ?_
  refine W_region ?_
  refine WL_step rfl rfl (r_assign rfl) ?_
  refine WL_nil ?_
  refine thn_nrm (_hK_1 _ _ ?_)
  clear _hK_1
  refine W_seq fun _K_2 _hK_2 => ?_
  refine W_region ?_
  refine WL_step rfl rfl (r_move rfl) ?_
  refine WL_step rfl rfl (r_move rfl) ?_
  refine WL_step rfl rfl (r_len (by rw [el22]; rfl) rfl) ?_
  refine WL_step rfl rfl (r_sub (by omega) rfl rfl) ?_
  refine WL_step rfl rfl (r_assign rfl) ?_
  refine WL_nil ?_
  refine thn_nrm (_hK_2 _ _ ?_)
  clear _hK_2
  refine W_seq fun _K_3 _hK_3 => ?_
  refine W_seq fun _K_4 _hK_4 => ?_
  refine W_region ?_
  refine WL_step rfl rfl (r_move rfl) ?_
  refine WL_step rfl rfl (r_lss rfl rfl) ?_
  refine WL_nil ?_
  refine thn_nrm (_hK_4 _ _ ?_)
  clear _hK_4
  refine W_cond rfl (fun _h10 => ?_) (fun _h10 => ?_)
  · have _h10 := bt_d _h10
    refine W_seq fun _K_5 _hK_5 => ?_
    refine W_region ?_
    refine WL_step rfl rfl (r_assign rfl) ?_
    refine WL_nil ?_
    refine thn_nrm (_hK_5 _ _ ?_)
    clear _hK_5
    refine W_ret (thn_ret ?_)
    clear _hK_3
    exact ret_intro [_] ⟨rfl, trivial⟩ ⟨congrArg (Value.int .i64) (if_pos (by omega)).symm, E⟩
  · have _h10 := bf_d _h10
    refine W_skip ?_
    refine thn_nrm (_hK_3 _ _ ?_)
    clear _hK_3
    refine W_seq fun _K_6 _hK_6 => ?_
    refine W_region ?_
    refine WL_step rfl rfl (r_move rfl) ?_
    refine WL_step rfl rfl (r_assign rfl) ?_
    refine WL_nil ?_
    refine thn_nrm (_hK_6 _ _ ?_)
    clear _hK_6
    refine W_ret ?_
    exact ret_intro [_] ⟨rfl, trivial⟩ ⟨congrArg (Value.int .i64) (if_neg (by omega)).symm, E⟩

/-- laws.szIntS -/
theorem c_laws_szIntS {w : World} {_B_a : Nat} {_v_a : Value} {a : List Int} (_h_a : Ls ics 1 w _B_a _v_a a) (left : Int) (hl : left ≤ 1048576) (_h0 : 0 ≤ left) :
    Ctr Try.prog 87 #[_v_a, (.int .i64 left)] w (fun v w' => v = .int .i64 (if left < a.length then -1 else left - a.length) ∧ Ch [] w w') := by
  obtain ⟨_A_a, _C_a, _e1_a⟩ := _h_a.val
  subst _e1_a
  have _l_a := _h_a.len
  have _h_a := _h_a.here (by decide)
  have E := Ch.refl [] w
  refine Ctr_of_W (N := 12) (vs0 := [(.slice _A_a a.length _C_a), (.int .i64 left)]) Try.func87 rfl rfl rfl ?_
  refine W_seq fun _K_1 _hK_1 => ?_
  refine W_region ?_
  refine WL_step rfl rfl (r_assign rfl) ?_
  refine WL_nil ?_
  refine thn_nrm (_hK_1 _ _ ?_)
  clear _hK_1
  refine W_seq fun _K_2 _hK_2 => ?_
  refine W_region ?_
  refine WL_step rfl rfl (r_move rfl) ?_
  refine WL_step rfl rfl (r_move rfl) ?_
  refine WL_step rfl rfl (r_len (by rw [el35]; rfl) rfl) ?_
  refine WL_step rfl rfl (r_sub (by omega) rfl rfl) ?_
  refine WL_step rfl rfl (r_assign rfl) ?_
  refine WL_nil ?_
  refine thn_nrm (_hK_2 _ _ ?_)
  clear _hK_2
  refine W_seq fun _K_3 _hK_3 => ?_
  refine W_seq fun _K_4 _hK_4 => ?_
  refine W_region ?_
  refine WL_step rfl rfl (r_move rfl) ?_
  refine WL_step rfl rfl (r_lss rfl rfl) ?_
  refine WL_nil ?_
  refine thn_nrm (_hK_4 _ _ ?_)
  clear _hK_4
  refine W_cond rfl (fun _h10 => ?_) (fun _h10 => ?_)
  · have _h10 := bt_d _h10
    refine W_seq fun _K_5 _hK_5 => ?_
    refine W_region ?_
    refine WL_step rfl rfl (r_assign rfl) ?_
    refine WL_nil ?_
    refine thn_nrm (_hK_5 _ _ ?_)
    clear _hK_5
    refine W_ret (thn_ret ?_)
    clear _hK_3
    exact ret_intro [_] ⟨rfl, trivial⟩ ⟨congrArg (Value.int .i64) (if_pos (by omega)).symm, E⟩
  · have _h10 := bf_d _h10
    refine W_skip ?_
    refine thn_nrm (_hK_3 _ _ ?_)
    clear _hK_3
    refine W_seq fun _K_6 _hK_6 => ?_
    refine W_region ?_
    refine WL_step rfl rfl (r_move rfl) ?_
    refine WL_step rfl rfl (r_assign rfl) ?_
    refine WL_nil ?_
    refine thn_nrm (_hK_6 _ _ ?_)
    clear _hK_6
    refine W_ret ?_
    exact ret_intro [_] ⟨rfl, trivial⟩ ⟨congrArg (Value.int .i64) (if_neg (by omega)).symm, E⟩

/-- laws.szIntSS -/
theorem c_laws_szIntSS {w : World} {_B_sa : Nat} {_v_sa : Value} {sa : List Sv} (_h_sa : Ls Sv.cs 1 w _B_sa _v_sa sa) {BB_a : Nat} {a : List (List Int)} (_rd_a : Rd ics 1 w BB_a sa a) (left : Int) (hl : left ≤ 1048576) (_h0 : 0 ≤ left) :
    Ctr Try.prog 51 #[_v_sa, (.int .i64 left)] w (fun v w' => v = .int .i64 (if left < a.length + a.flatten.length then -1 else left - a.length - a.flatten.length) ∧ Ch [] w w') := by
  obtain ⟨_A_sa, _C_sa, _e1_sa⟩ := _h_sa.val
  subst _e1_sa
  have _l_sa := _h_sa.len
  have _h_sa := _h_sa.here (by decide)
  have _rd_a := _rd_a.here (by decide)
  have _rl_a := _rd_a.1
  have E := Ch.refl [] w
  refine Ctr_of_W (N := 27) (vs0 := [(.slice _A_sa sa.length _C_sa), (.int .i64 left)]) Try.func51 rfl rfl rfl ?_
  refine W_seq fun _K_1 _hK_1 => ?_
  refine W_region ?_
  refine WL_step rfl rfl (r_assign rfl) ?_
  refine WL_nil ?_
  refine thn_nrm (_hK_1 _ _ ?_)
  clear _hK_1
  refine W_seq fun _K_2 _hK_2 => ?_
  refine W_region ?_
  refine WL_step rfl rfl (r_move rfl) ?_
  refine WL_step rfl rfl (r_move rfl) ?_
  refine WL_step rfl rfl (r_len (by rw [el23]; rfl) rfl) ?_
  refine WL_step rfl rfl (r_sub (by omega) rfl rfl) ?_
  refine WL_step rfl rfl (r_assign rfl) ?_
  refine WL_nil ?_
  refine thn_nrm (_hK_2 _ _ ?_)
  clear _hK_2
  refine W_seq fun _K_3 _hK_3 => ?_
  refine W_seq fun _K_4 _hK_4 => ?_
  refine W_region ?_
  refine WL_step rfl rfl (r_move rfl) ?_
  refine WL_step rfl rfl (r_lss rfl rfl) ?_
  refine WL_nil ?_
  refine thn_nrm (_hK_4 _ _ ?_)
  clear _hK_4
  refine W_cond rfl (fun _h11 => ?_) (fun _h11 => ?_)
  · have _h11 := bt_d _h11
    refine W_seq fun _K_5 _hK_5 => ?_
    refine W_region ?_
    refine WL_step rfl rfl (r_assign rfl) ?_
    refine WL_nil ?_
    refine thn_nrm (_hK_5 _ _ ?_)
    clear _hK_5
    refine W_ret (thn_ret ?_)
    clear _hK_3
    exact ret_intro [_] ⟨rfl, trivial⟩ ⟨congrArg (Value.int .i64) (if_pos (by omega)).symm, E⟩
  · have _h11 := bf_d _h11
    refine W_skip ?_
    refine thn_nrm (_hK_3 _ _ ?_)
    clear _hK_3
    refine W_seq fun _K_6 _hK_6 => ?_
    refine W_seq fun _K_7 _hK_7 => ?_
    refine W_region ?_
    refine WL_step rfl rfl (r_assign rfl) ?_
    refine WL_nil ?_
    refine thn_nrm (_hK_7 _ _ ?_)
    clear _hK_7
    refine W_block ?_
    refine W_loop (σ := Nat × Int) (fun ⟨k, m⟩ => [(0, (.slice _A_sa sa.length _C_sa)), (1, (.int .i64 m)), (5, (.int .i64 ((k : Nat) : Int))), (6, (.int .i64 left)), (7, (.slice _A_sa sa.length _C_sa)), (8, (.int .i64 ((sa.length : Nat) : Int))), (9, (.int .i64 (left - ((sa.length : Nat) : Int)))), (10, (.int .i64 (left - ((sa.length : Nat) : Int)))), (11, (.bool (decide ((left - ((sa.length : Nat) : Int)) < 0))))]) (fun ⟨k, m⟩ wx => Ch [] w wx ∧ w.heap.size ≤ wx.heap.size ∧ (k ≤ a.length) ∧ (m = left - a.length - (a.take k).flatten.length) ∧ (0 ≤ m)) (fun ⟨k, m⟩ => a.length - k) (0, (left - ((sa.length : Nat) : Int))) (Sub.cons rfl (Sub.cons rfl (Sub.cons rfl (Sub.cons rfl (Sub.cons rfl (Sub.cons rfl (Sub.cons rfl (Sub.cons rfl (Sub.cons rfl (Sub.nil _)))))))))) ⟨E, (Nat.le_refl _), (by omega), (by simp; omega), (by omega)⟩ ?_
    rintro ⟨k, m⟩ _wr_8 ⟨E, _zz0, _hk, hm, hn⟩
    have _E0h := E
    have _E0hz := _E0h.size
    refine W_seq fun _K_9 _hK_9 => ?_
    refine W_seq fun _K_10 _hK_10 => ?_
    refine W_region ?_
    refine WL_step rfl rfl (r_move rfl) ?_
    refine WL_step rfl rfl (r_move rfl) ?_
    refine WL_step rfl rfl (r_len (by rw [el23]; rfl) rfl) ?_
    refine WL_step rfl rfl (r_lss rfl rfl) ?_
    refine WL_nil ?_
    refine thn_nrm (_hK_10 _ _ ?_)
    clear _hK_10
    refine W_cond rfl (fun _h15 => ?_) (fun _h15 => ?_)
    · have _h15 := bt_d _h15
      refine W_skip ?_
      refine thn_nrm (_hK_9 _ _ ?_)
      clear _hK_9
      refine W_seq fun _K_11 _hK_11 => ?_
      refine W_block ?_
      refine W_seq fun _K_12 _hK_12 => ?_
      refine W_region ?_
      refine WL_step rfl rfl (r_move rfl) ?_
      refine WL_step rfl rfl (r_move rfl) ?_
      refine WL_s rfl rfl ?_
      have _f_13 := (_h_sa.ch0 _E0h)
      refine (s_index _f_13 Sv.len el23 sz35 rfl rfl rfl (by omega) fun _p20 _y20 _hy20 _a20 => ?_)
      have _f_14 := (_rd_a.ch0 _E0h)
      obtain ⟨_ys20, _hys20, _fs20⟩ := _f_14.get _hy20
      obtain ⟨_A20, _n20, _C20⟩ := _y20
      obtain rfl := _fs20.eqn
      have _l20 := _fs20.len
      replace _fs20 : Ls ics 1 _wr_8 w.heap.size (.slice _A20 _ys20.length _C20) _ys20 := _fs20
      replace _a20 : At _wr_8 w.heap.size _p20 ([(.slice _A20 _ys20.length _C20)]) := _a20
      refine WL_step rfl rfl (r_loadAt0 _a20 agg35 rfl rfl) ?_
      refine WL_step rfl rfl (r_move rfl) ?_
      refine WL_s rfl rfl ?_
      refine Step.call (r_call (xs := [.tmp 21, .tmp 22]) fk87 rfl) (c_laws_szIntS _fs20 _ (by omega) (by omega)) fun _v23 _w_15 _q23 => ?_
      obtain ⟨rfl, _cw_15⟩ := _q23
      have _cw_15z := _cw_15.size
      have E := E.trans _cw_15
      refine WL_step rfl rfl (r_assign rfl) ?_
      refine WL_nil ?_
      refine thn_nrm (_hK_12 _ _ ?_)
      clear _hK_12
      refine W_seq fun _K_16 _hK_16 => ?_
      refine W_region ?_
      refine WL_step rfl rfl (r_move rfl) ?_
      refine WL_step rfl rfl (r_lss rfl rfl) ?_
      refine WL_nil ?_
      refine thn_nrm (_hK_16 _ _ ?_)
      clear _hK_16
      refine W_cond rfl (fun _h25 => ?_) (fun _h25 => ?_)
      · have _h25 := bt_d _h25
        refine W_seq fun _K_17 _hK_17 => ?_
        refine W_region ?_
        refine WL_step rfl rfl (r_assign rfl) ?_
        refine WL_nil ?_
        refine thn_nrm (_hK_17 _ _ ?_)
        clear _hK_17
        refine W_ret (inB_ret (thn_ret (thn_ret (inB_ret (thn_ret ?_)))))
        clear _hK_6 _hK_11
        exact ret_intro [_] ⟨rfl, trivial⟩ ⟨congrArg (Value.int .i64) (if_pos (by have _h9 := fl_le _hys20; omega)).symm, E⟩
      · have _h25 := bf_d _h25
        refine W_skip ?_
        refine inB_nrm ?_
        refine thn_nrm (_hK_11 _ _ ?_)
        clear _hK_11
        refine W_region ?_
        refine WL_step rfl rfl (r_move rfl) ?_
        refine WL_step rfl rfl (r_add (by omega) rfl rfl) ?_
        refine WL_step rfl rfl (r_assign rfl) ?_
        refine WL_nil ?_
        exact thn_nrm (Exists.intro ((k + 1), if m < _ys20.length then -1 else m - _ys20.length) ⟨⟨E, (by omega), (by omega), (by have _h9 := fl_add _hys20; omega), (by omega)⟩, Sub.cons rfl (Sub.cons rfl (Sub.cons rfl (Sub.cons rfl (Sub.cons rfl (Sub.cons rfl (Sub.cons rfl (Sub.cons rfl (Sub.cons rfl (Sub.nil _))))))))), (by first | omega | (dsimp only; omega))⟩)
    · have _h15 := bf_d _h15
      refine W_exit (thn_exit (thn_exit (inB_hit ?_)))
      refine thn_nrm (_hK_6 _ _ ?_)
      clear _hK_6
      refine W_seq fun _K_18 _hK_18 => ?_
      refine W_region ?_
      refine WL_step rfl rfl (r_move rfl) ?_
      refine WL_step rfl rfl (r_assign rfl) ?_
      refine WL_nil ?_
      refine thn_nrm (_hK_18 _ _ ?_)
      clear _hK_18
      refine W_ret ?_
      clear _hK_9
      exact ret_intro [_] ⟨rfl, trivial⟩ ⟨congrArg (Value.int .i64) (by have _h9 := fl_take (show a.length ≤ k by omega); omega), E⟩

/-- laws.szAutomaton -/
theorem c_laws_szAutomaton {w : World} (aS : Int) {_B_aA : Nat} {_v_aA : Value} {aA : List Bool} (_h_aA : Ls bcs 1 w _B_aA _v_aA aA) {_B_saN : Nat} {_v_saN : Value} {saN : List Sv} (_h_saN : Ls Sv.cs 1 w _B_saN _v_saN saN) {BB_aN : Nat} {aN : List (List Int)} (_rd_aN : Rd ics 1 w BB_aN saN aN) (left : Int) (hl : left ≤ 1048576) (_h0 : 0 ≤ left) :
    Ctr Try.prog 15 #[(.agg #[(.int .i64 aS), _v_aA, _v_saN]), (.int .i64 left)] w (fun v w' => v = .int .i64 (if left < aA.length + aN.length + aN.flatten.length then -1 else left - aA.length - aN.length - aN.flatten.length) ∧ Ch [] w w') := by
  obtain ⟨_A_aA, _C_aA, _e1_aA⟩ := _h_aA.val
  subst _e1_aA
  have _l_aA := _h_aA.len
  have _h_aA := _h_aA.here (by decide)
  obtain ⟨_A_saN, _C_saN, _e1_saN⟩ := _h_saN.val
  subst _e1_saN
  have _l_saN := _h_saN.len
  have _h_saN := _h_saN.here (by decide)
  have _rd_aN := _rd_aN.here (by decide)
  have _rl_aN := _rd_aN.1
  have E := Ch.refl [] w
  refine Ctr_of_W (N := 18) (vs0 := [(.agg #[(.int .i64 aS), (.slice _A_aA aA.length _C_aA), (.slice _A_saN saN.length _C_saN)]), (.int .i64 left)]) Try.func15 rfl rfl rfl ?_
  refine W_seq fun _K_1 _hK_1 => ?_
  refine W_region ?_
  refine WL_s rfl rfl ?_
  refine s_box rfl fun _b2 _w_2 _m2 _cw_2 _e2 => ?_
  have _cw_2z := _cw_2.size
  have E := E.trans _cw_2
  have _z2 := _m2.lt
  replace _m2 : Blk _w_2 _b2 25 [(.int .i64 aS), (.slice _A_aA aA.length _C_aA), (.slice _A_saN saN.length _C_saN)] := _m2
  refine WL_step rfl rfl (r_assign rfl) ?_
  refine WL_nil ?_
  refine thn_nrm (_hK_1 _ _ ?_)
  clear _hK_1
  refine W_seq fun _K_3 _hK_3 => ?_
  refine W_region ?_
  refine WL_step rfl rfl (r_fieldAddr fa25_1 rfl) ?_
  refine WL_step rfl rfl (r_loadAt _m2.at_ agg22 rfl rfl) ?_
  refine WL_step rfl rfl (r_move rfl) ?_
  refine WL_s rfl rfl ?_
  have _f_4 := (_h_aA.ch0 _cw_2)
  refine Step.call (r_call (xs := [.tmp 6, .tmp 7]) fk50 rfl) (c_laws_szBoolS _f_4 _ (by omega) (by omega)) fun _v8 _w_5 _q8 => ?_
  obtain ⟨rfl, _cw_5⟩ := _q8
  have _cw_5z := _cw_5.size
  have E := E.trans _cw_5
  refine WL_step rfl rfl (r_assign rfl) ?_
  refine WL_nil ?_
  refine thn_nrm (_hK_3 _ _ ?_)
  clear _hK_3
  refine W_seq fun _K_6 _hK_6 => ?_
  refine W_seq fun _K_7 _hK_7 => ?_
  refine W_region ?_
  refine WL_step rfl rfl (r_move rfl) ?_
  refine WL_step rfl rfl (r_lss rfl rfl) ?_
  refine WL_nil ?_
  refine thn_nrm (_hK_7 _ _ ?_)
  clear _hK_7
  refine W_cond rfl (fun _h10 => ?_) (fun _h10 => ?_)
  · have _h10 := bt_d _h10
    refine W_seq fun _K_8 _hK_8 => ?_
    refine W_region ?_
    refine WL_step rfl rfl (r_assign rfl) ?_
    refine WL_nil ?_
    refine thn_nrm (_hK_8 _ _ ?_)
    clear _hK_8
    refine W_ret (thn_ret ?_)
    clear _hK_6
    exact ret_intro [_] ⟨rfl, trivial⟩ ⟨congrArg (Value.int .i64) (by omega), E⟩
  · have _h10 := bf_d _h10
    refine W_skip ?_
    refine thn_nrm (_hK_6 _ _ ?_)
    clear _hK_6
    refine W_seq fun _K_9 _hK_9 => ?_
    refine W_region ?_
    refine WL_step rfl rfl (r_fieldAddr fa25_2 rfl) ?_
    have _f_10 := (_m2.ch0 _cw_5)
    refine WL_step rfl rfl (r_loadAt _f_10.at_ agg23 rfl rfl) ?_
    refine WL_step rfl rfl (r_move rfl) ?_
    refine WL_s rfl rfl ?_
    have _f_11 := ((_rd_aN.ch0 _cw_2).ch0 _cw_5)
    have _f_12 := ((_h_saN.ch0 _cw_2).ch0 _cw_5)
    refine Step.call (r_call (xs := [.tmp 12, .tmp 13]) fk51 rfl) (c_laws_szIntSS _f_12 _f_11 _ (by omega) (by omega)) fun _v14 _w_13 _q14 => ?_
    obtain ⟨rfl, _cw_13⟩ := _q14
    have _cw_13z := _cw_13.size
    have E := E.trans _cw_13
    refine WL_step rfl rfl (r_assign rfl) ?_
    refine WL_nil ?_
    refine thn_nrm (_hK_9 _ _ ?_)
    clear _hK_9
    refine W_seq fun _K_14 _hK_14 => ?_
    refine W_seq fun _K_15 _hK_15 => ?_
    refine W_region ?_
    refine WL_step rfl rfl (r_move rfl) ?_
    refine WL_step rfl rfl (r_lss rfl rfl) ?_
    refine WL_nil ?_
    refine thn_nrm (_hK_15 _ _ ?_)
    clear _hK_15
    refine W_cond rfl (fun _h16 => ?_) (fun _h16 => ?_)
    · have _h16 := bt_d _h16
      refine W_seq fun _K_16 _hK_16 => ?_
      refine W_region ?_
      refine WL_step rfl rfl (r_assign rfl) ?_
      refine WL_nil ?_
      refine thn_nrm (_hK_16 _ _ ?_)
      clear _hK_16
      refine W_ret (thn_ret ?_)
      clear _hK_14
      exact ret_intro [_] ⟨rfl, trivial⟩ ⟨congrArg (Value.int .i64) (by omega), E⟩
    · have _h16 := bf_d _h16
      refine W_skip ?_
      refine thn_nrm (_hK_14 _ _ ?_)
      clear _hK_14
      refine W_seq fun _K_17 _hK_17 => ?_
      refine W_region ?_
      refine WL_step rfl rfl (r_move rfl) ?_
      refine WL_step rfl rfl (r_assign rfl) ?_
      refine WL_nil ?_
      refine thn_nrm (_hK_17 _ _ ?_)
      clear _hK_17
      refine W_ret ?_
      exact ret_intro [_] ⟨rfl, trivial⟩ ⟨congrArg (Value.int .i64) (by omega), E⟩

/-- laws.toBoolS -/
theorem c_laws_toBoolS {w : World} {_B_a : Nat} {_v_a : Value} {a : List Bool} (_h_a : Ls bcs 1 w _B_a _v_a a) (hb : a.length ≤ 1048576) :
    Ctr Try.prog 53 #[_v_a] w (fun v w' => Ol bcs 4 1 w' v (a) ∧ Lo w.heap.size v ∧ Ch [] w w') := by
  obtain ⟨_A_a, _C_a, _e1_a⟩ := _h_a.val
  subst _e1_a
  have _l_a := _h_a.len
  have _h_a := _h_a.here (by decide)
  have E := Ch.refl [] w
  refine Ctr_of_W (N := 22) (vs0 := [(.slice _A_a a.length _C_a)]) Try.func53 rfl rfl rfl ?_
  refine W_seq fun _K_1 _hK_1 => ?_
  refine W_region ?_
  refine WL_step rfl rfl (r_assign rfl) ?_
  refine WL_nil ?_
  refine thn_nrm (_hK_1 _ _ ?_)
  clear _hK_1
  refine W_seq fun _K_2 _hK_2 => ?_
  refine W_region ?_
  refine WL_step rfl rfl (r_move rfl) ?_
  refine WL_step rfl rfl (r_len (by rw [el22]; rfl) rfl) ?_
  refine WL_s rfl rfl ?_
  refine s_make (cs := bcs) false el22 sz4 by4 zr4 bcs_len (by decide) rfl rfl (by omega) (by omega) fun _v7 _w_3 _q7 _lo7 _cw_3 => ?_
  have _cw_3z := _cw_3.size
  have E := E.trans _cw_3
  obtain ⟨_Av7, _Cv7, _ev7⟩ := _q7.val
  subst _ev7
  have _lv7 := _q7.len
  have _hiv7 := _q7.lt
  refine WL_step rfl rfl (r_assign rfl) ?_
  refine WL_nil ?_
  refine thn_nrm (_hK_2 _ _ ?_)
  clear _hK_2
  refine W_seq fun _K_4 _hK_4 => ?_
  refine W_seq fun _K_5 _hK_5 => ?_
  refine W_region ?_
  refine WL_step rfl rfl (r_assign rfl) ?_
  refine WL_nil ?_
  refine thn_nrm (_hK_5 _ _ ?_)
  clear _hK_5
  refine W_block ?_
  have _oi_6 : Ol bcs 4 1 _w_3 (.slice _Av7 ((List.replicate a.length false)).length _Cv7) (a.take 0 ++ List.replicate (a.length - 0) false) := by
    have hx := _q7
    simpa using hx
  refine W_loop (σ := Nat) (fun (k : Nat) => [(0, (.slice _A_a a.length _C_a)), (2, (.slice none 0 0)), (3, (.slice _Av7 ((List.replicate a.length false)).length _Cv7)), (4, (.int .i64 ((k : Nat) : Int))), (5, (.slice _A_a a.length _C_a)), (6, (.int .i64 ((a.length : Nat) : Int))), (7, (.slice _Av7 ((List.replicate a.length false)).length _Cv7))]) (fun (k : Nat) wx => Ch [] w wx ∧ _w_3.heap.size ≤ wx.heap.size ∧ (k ≤ a.length) ∧ Ol bcs 4 1 wx (.slice _Av7 ((List.replicate a.length false)).length _Cv7) (a.take k ++ List.replicate (a.length - k) false)) (fun (k : Nat) => a.length - k) 0 (Sub.cons rfl (Sub.cons rfl (Sub.cons rfl (Sub.cons rfl (Sub.cons rfl (Sub.cons rfl (Sub.cons rfl (Sub.nil _)))))))) ⟨E, (Nat.le_refl _), (by omega), _oi_6⟩ ?_
  rintro k _wr_7 ⟨E, _zz0, _hk, _o0_3⟩
  have _E0h := E
  have _E0hz := _E0h.size
  refine W_seq fun _K_8 _hK_8 => ?_
  refine W_seq fun _K_9 _hK_9 => ?_
  refine W_region ?_
  refine WL_step rfl rfl (r_move rfl) ?_
  refine WL_step rfl rfl (r_move rfl) ?_
  refine WL_step rfl rfl (r_len (by rw [el22]; rfl) rfl) ?_
  refine WL_step rfl rfl (r_lss rfl rfl) ?_
  refine WL_nil ?_
  refine thn_nrm (_hK_9 _ _ ?_)
  clear _hK_9
  refine W_cond rfl (fun _h11 => ?_) (fun _h11 => ?_)
  · have _h11 := bt_d _h11
    refine W_skip ?_
    refine thn_nrm (_hK_8 _ _ ?_)
    clear _hK_8
    refine W_seq fun _K_10 _hK_10 => ?_
    refine W_block ?_
    refine W_region ?_
    refine WL_step rfl rfl (r_move rfl) ?_
    refine WL_step rfl rfl (r_move rfl) ?_
    refine WL_step rfl rfl (r_move rfl) ?_
    refine WL_step rfl rfl (r_move rfl) ?_
    refine WL_s rfl rfl ?_
    have _f_11 := (_h_a.ch0 _E0h)
    refine (s_index _f_11 bcs_len el22 sz4 rfl rfl rfl (by omega) fun _p18 _y18 _hy18 _a18 => ?_)
    refine WL_step rfl rfl (r_loadAt0 _a18 agg4 rfl rfl) ?_
    refine WL_s rfl rfl ?_
    refine s_indexO (j := k) _o0_3 el22 sz4 rfl rfl rfl (by simp; omega) fun _g20 _o20 _cp20 _q20 => ?_
    refine WL_s rfl rfl ?_
    refine s_storeO (j := k) _y18 _o0_3 _q20 bcs_len sz4 rfl rfl rfl rfl (by simp; omega) fun _w_12 _o_13 _cw_12 => ?_
    have _cw_12z := _cw_12.size
    have E := E.step _cw_12 (fun i hi => .inl (by have _h1 := _lo7 _ hi; omega))
    refine WL_nil ?_
    refine inB_nrm ?_
    refine thn_nrm (_hK_10 _ _ ?_)
    clear _hK_10
    refine W_region ?_
    refine WL_step rfl rfl (r_move rfl) ?_
    refine WL_step rfl rfl (r_add (by omega) rfl rfl) ?_
    refine WL_step rfl rfl (r_assign rfl) ?_
    refine WL_nil ?_
    have _on_14 : Ol bcs 4 1 _w_12 (.slice _Av7 ((List.replicate a.length false)).length _Cv7) (a.take (k + 1) ++ List.replicate (a.length - (k + 1)) false) := by
      have hx := _o_13
      rwa [fill_step a false _hy18] at hx
    exact thn_nrm (Exists.intro (k + 1) ⟨⟨E, (by omega), (by omega), _on_14⟩, Sub.cons rfl (Sub.cons rfl (Sub.cons rfl (Sub.cons rfl (Sub.cons rfl (Sub.cons rfl (Sub.cons rfl (Sub.nil _))))))), (by first | omega | (dsimp only; omega))⟩)
  · have _h11 := bf_d _h11
    refine W_exit (thn_exit (thn_exit (inB_hit ?_)))
    refine thn_nrm (_hK_4 _ _ ?_)
    clear _hK_4
    refine W_seq fun _K_15 _hK_15 => ?_
    refine W_region ?_
    refine WL_step rfl rfl (r_move rfl) ?_
    refine WL_step rfl rfl (r_assign rfl) ?_
    refine WL_nil ?_
    refine thn_nrm (_hK_15 _ _ ?_)
    clear _hK_15
    refine W_ret ?_
    clear _hK_8
    have _o_16 : Ol bcs 4 1 _wr_7 (.slice _Av7 ((List.replicate a.length false)).length _Cv7) (a) := by
      have hx := _o0_3
      simpa [List.take_of_length_le (show a.length ≤ k by omega), show a.length - k = 0 by omega] using hx
    exact ret_intro [_] ⟨rfl, trivial⟩ ⟨_o_16, Lo.down _lo7 (by omega), E⟩

/-- laws.toIntS -/
theorem c_laws_toIntS {w : World} {_B_a : Nat} {_v_a : Value} {a : List Int} (_h_a : Ls ics 1 w _B_a _v_a a) (hb : a.length ≤ 1048576) :
    Ctr Try.prog 25 #[_v_a] w (fun v w' => Ol ics 3 1 w' v (a) ∧ Lo w.heap.size v ∧ Ch [] w w') := by
  obtain ⟨_A_a, _C_a, _e1_a⟩ := _h_a.val
  subst _e1_a
  have _l_a := _h_a.len
  have _h_a := _h_a.here (by decide)
  have E := Ch.refl [] w
  refine Ctr_of_W (N := 22) (vs0 := [(.slice _A_a a.length _C_a)]) Try.func25 rfl rfl rfl ?_
  refine W_seq fun _K_1 _hK_1 => ?_
  refine W_region ?_
  refine WL_step rfl rfl (r_assign rfl) ?_
  refine WL_nil ?_
  refine thn_nrm (_hK_1 _ _ ?_)
  clear _hK_1
  refine W_seq fun _K_2 _hK_2 => ?_
  refine W_region ?_
  refine WL_step rfl rfl (r_move rfl) ?_
  refine WL_step rfl rfl (r_len (by rw [el35]; rfl) rfl) ?_
  refine WL_s rfl rfl ?_
  refine s_make (cs := ics) (0 : Int) el35 sz3 by3 zr3 ics_len (by decide) rfl rfl (by omega) (by omega) fun _v7 _w_3 _q7 _lo7 _cw_3 => ?_
  have _cw_3z := _cw_3.size
  have E := E.trans _cw_3
  obtain ⟨_Av7, _Cv7, _ev7⟩ := _q7.val
  subst _ev7
  have _lv7 := _q7.len
  have _hiv7 := _q7.lt
  refine WL_step rfl rfl (r_assign rfl) ?_
  refine WL_nil ?_
  refine thn_nrm (_hK_2 _ _ ?_)
  clear _hK_2
  refine W_seq fun _K_4 _hK_4 => ?_
  refine W_seq fun _K_5 _hK_5 => ?_
  refine W_region ?_
  refine WL_step rfl rfl (r_assign rfl) ?_
  refine WL_nil ?_
  refine thn_nrm (_hK_5 _ _ ?_)
  clear _hK_5
  refine W_block ?_
  have _oi_6 : Ol ics 3 1 _w_3 (.slice _Av7 ((List.replicate a.length (0 : Int))).length _Cv7) (a.take 0 ++ List.replicate (a.length - 0) (0 : Int)) := by
    have hx := _q7
    simpa using hx
  refine W_loop (σ := Nat) (fun (k : Nat) => [(0, (.slice _A_a a.length _C_a)), (2, (.slice none 0 0)), (3, (.slice _Av7 ((List.replicate a.length (0 : Int))).length _Cv7)), (4, (.int .i64 ((k : Nat) : Int))), (5, (.slice _A_a a.length _C_a)), (6, (.int .i64 ((a.length : Nat) : Int))), (7, (.slice _Av7 ((List.replicate a.length (0 : Int))).length _Cv7))]) (fun (k : Nat) wx => Ch [] w wx ∧ _w_3.heap.size ≤ wx.heap.size ∧ (k ≤ a.length) ∧ Ol ics 3 1 wx (.slice _Av7 ((List.replicate a.length (0 : Int))).length _Cv7) (a.take k ++ List.replicate (a.length - k) (0 : Int))) (fun (k : Nat) => a.length - k) 0 (Sub.cons rfl (Sub.cons rfl (Sub.cons rfl (Sub.cons rfl (Sub.cons rfl (Sub.cons rfl (Sub.cons rfl (Sub.nil _)))))))) ⟨E, (Nat.le_refl _), (by omega), _oi_6⟩ ?_
  rintro k _wr_7 ⟨E, _zz0, _hk, _o0_3⟩
  have _E0h := E
  have _E0hz := _E0h.size
  refine W_seq fun _K_8 _hK_8 => ?_
  refine W_seq fun _K_9 _hK_9 => ?_
  refine W_region ?_
  refine WL_step rfl rfl (r_move rfl) ?_
  refine WL_step rfl rfl (r_move rfl) ?_
  refine WL_step rfl rfl (r_len (by rw [el35]; rfl) rfl) ?_
  refine WL_step rfl rfl (r_lss rfl rfl) ?_
  refine WL_nil ?_
  refine thn_nrm (_hK_9 _ _ ?_)
  clear _hK_9
  refine W_cond rfl (fun _h11 => ?_) (fun _h11 => ?_)
  · have _h11 := bt_d _h11
    refine W_skip ?_
    refine thn_nrm (_hK_8 _ _ ?_)
    clear _hK_8
    refine W_seq fun _K_10 _hK_10 => ?_
    refine W_block ?_
    refine W_region ?_
    refine WL_step rfl rfl (r_move rfl) ?_
    refine WL_step rfl rfl (r_move rfl) ?_
    refine WL_step rfl rfl (r_move rfl) ?_
    refine WL_step rfl rfl (r_move rfl) ?_
    refine WL_s rfl rfl ?_
    have _f_11 := (_h_a.ch0 _E0h)
    refine (s_index _f_11 ics_len el35 sz3 rfl rfl rfl (by omega) fun _p18 _y18 _hy18 _a18 => ?_)
    refine WL_step rfl rfl (r_loadAt0 _a18 agg3 rfl rfl) ?_
    refine WL_s rfl rfl ?_
    refine s_indexO (j := k) _o0_3 el35 sz3 rfl rfl rfl (by simp; omega) fun _g20 _o20 _cp20 _q20 => ?_
    refine WL_s rfl rfl ?_
    refine s_storeO (j := k) _y18 _o0_3 _q20 ics_len sz3 rfl rfl rfl rfl (by simp; omega) fun _w_12 _o_13 _cw_12 => ?_
    have _cw_12z := _cw_12.size
    have E := E.step _cw_12 (fun i hi => .inl (by have _h1 := _lo7 _ hi; omega))
    refine WL_nil ?_
    refine inB_nrm ?_
    refine thn_nrm (_hK_10 _ _ ?_)
    clear _hK_10
    refine W_region ?_
    refine WL_step rfl rfl (r_move rfl) ?_
    refine WL_step rfl rfl (r_add (by omega) rfl rfl) ?_
    refine WL_step rfl rfl (r_assign rfl) ?_
    refine WL_nil ?_
    have _on_14 : Ol ics 3 1 _w_12 (.slice _Av7 ((List.replicate a.length (0 : Int))).length _Cv7) (a.take (k + 1) ++ List.replicate (a.length - (k + 1)) (0 : Int)) := by
      have hx := _o_13
      rwa [fill_step a (0 : Int) _hy18] at hx
    exact thn_nrm (Exists.intro (k + 1) ⟨⟨E, (by omega), (by omega), _on_14⟩, Sub.cons rfl (Sub.cons rfl (Sub.cons rfl (Sub.cons rfl (Sub.cons rfl (Sub.cons rfl (Sub.cons rfl (Sub.nil _))))))), (by first | omega | (dsimp only; omega))⟩)
  · have _h11 := bf_d _h11
    refine W_exit (thn_exit (thn_exit (inB_hit ?_)))
    refine thn_nrm (_hK_4 _ _ ?_)
    clear _hK_4
    refine W_seq fun _K_15 _hK_15 => ?_
    refine W_region ?_
    refine WL_step rfl rfl (r_move rfl) ?_
    refine WL_step rfl rfl (r_assign rfl) ?_
    refine WL_nil ?_
    refine thn_nrm (_hK_15 _ _ ?_)
    clear _hK_15
    refine W_ret ?_
    clear _hK_8
    have _o_16 : Ol ics 3 1 _wr_7 (.slice _Av7 ((List.replicate a.length (0 : Int))).length _Cv7) (a) := by
      have hx := _o0_3
      simpa [List.take_of_length_le (show a.length ≤ k by omega), show a.length - k = 0 by omega] using hx
    exact ret_intro [_] ⟨rfl, trivial⟩ ⟨_o_16, Lo.down _lo7 (by omega), E⟩

/-- laws.toIntSS -/
theorem c_laws_toIntSS {w : World} {_B_sa : Nat} {_v_sa : Value} {sa : List Sv} (_h_sa : Ls Sv.cs 1 w _B_sa _v_sa sa) {BB_a : Nat} {a : List (List Int)} (_rd_a : Rd ics 1 w BB_a sa a) (hb : a.length + a.flatten.length ≤ 1048576) :
    Ctr Try.prog 54 #[_v_sa] w (fun v w' => ∃ vs, Ol Sv.cs 35 1 w' v vs ∧ Lo w.heap.size v ∧ Od ics 3 1 w' w.heap.size w'.heap.size vs (a) ∧ Ch [] w w') := by
  obtain ⟨_A_sa, _C_sa, _e1_sa⟩ := _h_sa.val
  subst _e1_sa
  have _l_sa := _h_sa.len
  have _h_sa := _h_sa.here (by decide)
  have _rd_a := _rd_a.here (by decide)
  have _rl_a := _rd_a.1
  have E := Ch.refl [] w
  refine Ctr_of_W (N := 23) (vs0 := [(.slice _A_sa sa.length _C_sa)]) Try.func54 rfl rfl rfl ?_
  refine W_seq fun _K_1 _hK_1 => ?_
  refine W_region ?_
  refine WL_step rfl rfl (r_assign rfl) ?_
  refine WL_nil ?_
  refine thn_nrm (_hK_1 _ _ ?_)
  clear _hK_1
  refine W_seq fun _K_2 _hK_2 => ?_
  refine W_region ?_
  refine WL_step rfl rfl (r_move rfl) ?_
  refine WL_step rfl rfl (r_len (by rw [el23]; rfl) rfl) ?_
  refine WL_s rfl rfl ?_
  refine s_make (cs := Sv.cs) (⟨none, 0, 0⟩ : Sv) el23 sz35 by35 zr35 Sv.len (by decide) rfl rfl (by omega) (by omega) fun _v7 _w_3 _q7 _lo7 _cw_3 => ?_
  have _cw_3z := _cw_3.size
  have E := E.trans _cw_3
  obtain ⟨_Av7, _Cv7, _ev7⟩ := _q7.val
  subst _ev7
  have _lv7 := _q7.len
  have _hiv7 := _q7.lt
  refine WL_step rfl rfl (r_assign rfl) ?_
  refine WL_nil ?_
  refine thn_nrm (_hK_2 _ _ ?_)
  clear _hK_2
  refine W_seq fun _K_4 _hK_4 => ?_
  refine W_seq fun _K_5 _hK_5 => ?_
  refine W_region ?_
  refine WL_step rfl rfl (r_assign rfl) ?_
  refine WL_nil ?_
  refine thn_nrm (_hK_5 _ _ ?_)
  clear _hK_5
  refine W_block ?_
  have _oi_6 : Ol Sv.cs 35 1 _w_3 (.slice _Av7 ((List.replicate sa.length (⟨none, 0, 0⟩ : Sv))).length _Cv7) (([] : List Sv) ++ List.replicate (a.length - 0) (⟨none, 0, 0⟩ : Sv)) := by
    have hx := _q7
    simpa [_rl_a] using hx
  refine W_loop (σ := Nat × List Sv) (fun ⟨k, vs⟩ => [(0, (.slice _A_sa sa.length _C_sa)), (2, (.slice none 0 0)), (3, (.slice _Av7 ((List.replicate sa.length (⟨none, 0, 0⟩ : Sv))).length _Cv7)), (4, (.int .i64 ((k : Nat) : Int))), (5, (.slice _A_sa sa.length _C_sa)), (6, (.int .i64 ((sa.length : Nat) : Int))), (7, (.slice _Av7 ((List.replicate sa.length (⟨none, 0, 0⟩ : Sv))).length _Cv7))]) (fun ⟨k, vs⟩ wx => Ch [] w wx ∧ _w_3.heap.size ≤ wx.heap.size ∧ (k ≤ a.length) ∧ (vs.length = k) ∧ Ol Sv.cs 35 1 wx (.slice _Av7 ((List.replicate sa.length (⟨none, 0, 0⟩ : Sv))).length _Cv7) (vs ++ List.replicate (a.length - k) (⟨none, 0, 0⟩ : Sv)) ∧ Od ics 3 1 wx _w_3.heap.size wx.heap.size vs (a.take k)) (fun ⟨k, vs⟩ => a.length - k) (0, ([] : List Sv)) (Sub.cons rfl (Sub.cons rfl (Sub.cons rfl (Sub.cons rfl (Sub.cons rfl (Sub.cons rfl (Sub.cons rfl (Sub.nil _)))))))) ⟨E, (Nat.le_refl _), (by omega), rfl, _oi_6, Od.nil⟩ ?_
  rintro ⟨k, vs⟩ _wr_7 ⟨E, _zz0, _hk, hv, _o0_3, od⟩
  have _E0h := E
  have _E0hz := _E0h.size
  refine W_seq fun _K_8 _hK_8 => ?_
  refine W_seq fun _K_9 _hK_9 => ?_
  refine W_region ?_
  refine WL_step rfl rfl (r_move rfl) ?_
  refine WL_step rfl rfl (r_move rfl) ?_
  refine WL_step rfl rfl (r_len (by rw [el23]; rfl) rfl) ?_
  refine WL_step rfl rfl (r_lss rfl rfl) ?_
  refine WL_nil ?_
  refine thn_nrm (_hK_9 _ _ ?_)
  clear _hK_9
  refine W_cond rfl (fun _h11 => ?_) (fun _h11 => ?_)
  · have _h11 := bt_d _h11
    refine W_skip ?_
    refine thn_nrm (_hK_8 _ _ ?_)
    clear _hK_8
    refine W_seq fun _K_10 _hK_10 => ?_
    refine W_block ?_
    refine W_region ?_
    refine WL_step rfl rfl (r_move rfl) ?_
    refine WL_step rfl rfl (r_move rfl) ?_
    refine WL_step rfl rfl (r_move rfl) ?_
    refine WL_step rfl rfl (r_move rfl) ?_
    refine WL_s rfl rfl ?_
    have _f_11 := (_h_sa.ch0 _E0h)
    refine (s_index _f_11 Sv.len el23 sz35 rfl rfl rfl (by omega) fun _p18 _y18 _hy18 _a18 => ?_)
    have _f_12 := (_rd_a.ch0 _E0h)
    obtain ⟨_ys18, _hys18, _fs18⟩ := _f_12.get _hy18
    obtain ⟨_A18, _n18, _C18⟩ := _y18
    obtain rfl := _fs18.eqn
    have _l18 := _fs18.len
    replace _fs18 : Ls ics 1 _wr_7 w.heap.size (.slice _A18 _ys18.length _C18) _ys18 := _fs18
    replace _a18 : At _wr_7 w.heap.size _p18 ([(.slice _A18 _ys18.length _C18)]) := _a18
    refine WL_step rfl rfl (r_loadAt0 _a18 agg35 rfl rfl) ?_
    refine WL_s rfl rfl ?_
    refine Step.call (r_call (xs := [.tmp 19]) fk25 rfl) (c_laws_toIntS _fs18 (by have _h9 := fl_le _hys18; omega)) fun _v20 _w_13 _q20 => ?_
    obtain ⟨_q20, _lo20, _cw_13⟩ := _q20
    have _cw_13z := _cw_13.size
    have E := E.trans _cw_13
    obtain ⟨_Av20, _Cv20, _ev20⟩ := _q20.val
    subst _ev20
    have _lv20 := _q20.len
    have _hiv20 := _q20.lt
    refine WL_s rfl rfl ?_
    have _f_14 := (_o0_3.ch0 _cw_13)
    refine s_indexO (j := k) _f_14 el23 sz35 rfl rfl rfl (by simp; omega) fun _g21 _o21 _cp21 _q21 => ?_
    refine WL_s rfl rfl ?_
    refine s_storeO (j := k) (⟨_Av20, (_ys18).length, _Cv20⟩ : Sv) _f_14 _q21 Sv.len sz35 rfl rfl rfl rfl (by simp; omega) fun _w_15 _o_16 _cw_15 => ?_
    have _cw_15z := _cw_15.size
    have E := E.step _cw_15 (fun i hi => .inl (by have _h1 := _lo7 _ hi; omega))
    refine WL_nil ?_
    refine inB_nrm ?_
    refine thn_nrm (_hK_10 _ _ ?_)
    clear _hK_10
    refine W_region ?_
    refine WL_step rfl rfl (r_move rfl) ?_
    refine WL_step rfl rfl (r_add (by omega) rfl rfl) ?_
    refine WL_step rfl rfl (r_assign rfl) ?_
    refine WL_nil ?_
    have _on_17 : Ol Sv.cs 35 1 _w_15 (.slice _Av7 ((List.replicate sa.length (⟨none, 0, 0⟩ : Sv))).length _Cv7) ((vs ++ [(⟨_Av20, (_ys18).length, _Cv20⟩ : Sv)]) ++ List.replicate (a.length - (k + 1)) (⟨none, 0, 0⟩ : Sv)) := by
      have hx := _o_16
      rwa [fill_sv hv (by omega)] at hx
    have _f_18 := ((od.ch0 _cw_13).ch _cw_15 (fun i hm => by have _h1 := _lo7 _ hm; have _h2 := _hiv7 _ hm; omega))
    have _f_19 := (_q20.ch _cw_15 (fun g hg hm => by have _h1 := _lo7 _ hm; have _h2 := _hiv7 _ hm; have _h3 := _lo20 _ hg; have _h4 := _hiv20 _ hg; omega))
    exact thn_nrm (Exists.intro ((k + 1), (vs ++ [(⟨_Av20, (_ys18).length, _Cv20⟩ : Sv)])) ⟨⟨E, (by omega), (by omega), (by simp [hv]), _on_17, (by rw [take_snoc _hys18]; exact Od.snoc _f_18 _f_19 (Lo.down _lo20 (by omega)) (fun g hg => by have _h1 := _hiv20 g hg; omega) (by omega) (by omega))⟩, Sub.cons rfl (Sub.cons rfl (Sub.cons rfl (Sub.cons rfl (Sub.cons rfl (Sub.cons rfl (Sub.cons rfl (Sub.nil _))))))), (by first | omega | (dsimp only; omega))⟩)
  · have _h11 := bf_d _h11
    refine W_exit (thn_exit (thn_exit (inB_hit ?_)))
    refine thn_nrm (_hK_4 _ _ ?_)
    clear _hK_4
    refine W_seq fun _K_20 _hK_20 => ?_
    refine W_region ?_
    refine WL_step rfl rfl (r_move rfl) ?_
    refine WL_step rfl rfl (r_assign rfl) ?_
    refine WL_nil ?_
    refine thn_nrm (_hK_20 _ _ ?_)
    clear _hK_20
    refine W_ret ?_
    clear _hK_8
    have _o_21 : Ol Sv.cs 35 1 _wr_7 (.slice _Av7 ((List.replicate sa.length (⟨none, 0, 0⟩ : Sv))).length _Cv7) vs := by
      have hx := _o0_3
      simpa [show a.length - k = 0 by omega, show sa.length - k = 0 by omega] using hx
    have _o_22 : Od ics 3 1 _wr_7 w.heap.size _wr_7.heap.size vs (a) := by
      have hx := od.up (lo' := w.heap.size) (hi' := _wr_7.heap.size) (by omega) (by omega)
      rwa [List.take_of_length_le (by omega)] at hx
    exact ret_intro [_] ⟨rfl, trivial⟩ ⟨vs, _o_21, (Lo.down _lo7 (by omega)), _o_22, E⟩

/-- laws.toAutomaton -/
theorem c_laws_toAutomaton {w : World} (aS : Int) {_B_aA : Nat} {_v_aA : Value} {aA : List Bool} (_h_aA : Ls bcs 1 w _B_aA _v_aA aA) {_B_saN : Nat} {_v_saN : Value} {saN : List Sv} (_h_saN : Ls Sv.cs 1 w _B_saN _v_saN saN) {BB_aN : Nat} {aN : List (List Int)} (_rd_aN : Rd ics 1 w BB_aN saN aN) (hb : aA.length + aN.length + aN.flatten.length ≤ 1048576) :
    Ctr Try.prog 17 #[(.agg #[(.int .i64 aS), _v_aA, _v_saN])] w (fun v w' => ∃ _u1 _u2 vs, v = .agg #[.int .i64 (aS), _u1, _u2] ∧ Ol bcs 4 1 w' _u1 (aA) ∧ Lo w.heap.size _u1 ∧ Ol Sv.cs 35 1 w' _u2 vs ∧ Lo w.heap.size _u2 ∧ Od ics 3 1 w' w.heap.size w'.heap.size vs (aN) ∧ Ch [] w w') := by
  obtain ⟨_A_aA, _C_aA, _e1_aA⟩ := _h_aA.val
  subst _e1_aA
  have _l_aA := _h_aA.len
  have _h_aA := _h_aA.here (by decide)
  obtain ⟨_A_saN, _C_saN, _e1_saN⟩ := _h_saN.val
  subst _e1_saN
  have _l_saN := _h_saN.len
  have _h_saN := _h_saN.here (by decide)
  have _rd_aN := _rd_aN.here (by decide)
  have _rl_aN := _rd_aN.1
  have E := Ch.refl [] w
  refine Ctr_of_W (N := 16) (vs0 := [(.agg #[(.int .i64 aS), (.slice _A_aA aA.length _C_aA), (.slice _A_saN saN.length _C_saN)])]) Try.func17 rfl rfl rfl ?_
  refine W_seq fun _K_1 _hK_1 => ?_
  refine W_region ?_
  refine WL_s rfl rfl ?_
  refine s_box rfl fun _b1 _w_2 _m1 _cw_2 _e1 => ?_
  have _cw_2z := _cw_2.size
  have E := E.trans _cw_2
  have _z1 := _m1.lt
  replace _m1 : Blk _w_2 _b1 25 [(.int .i64 aS), (.slice _A_aA aA.length _C_aA), (.slice _A_saN saN.length _C_saN)] := _m1
  refine WL_s rfl rfl ?_
  refine s_alloc zr28 fun _b2 _w_3 _m2 _cw_3 _e2 => ?_
  have _cw_3z := _cw_3.size
  have E := E.trans _cw_3
  have _z2 := _m2.lt
  replace _m2 : Blk _w_3 _b2 28 [(.int .i64 0), (.slice none 0 0), (.slice none 0 0)] := _m2
  refine WL_nil ?_
  refine thn_nrm (_hK_1 _ _ ?_)
  clear _hK_1
  refine W_seq fun _K_4 _hK_4 => ?_
  refine W_region ?_
  refine WL_s rfl rfl ?_
  refine s_alloc zr28 fun _b3 _w_5 _m3 _cw_5 _e3 => ?_
  have _cw_5z := _cw_5.size
  have E := E.trans _cw_5
  have _z3 := _m3.lt
  replace _m3 : Blk _w_5 _b3 28 [(.int .i64 0), (.slice none 0 0), (.slice none 0 0)] := _m3
  refine WL_nil ?_
  refine thn_nrm (_hK_4 _ _ ?_)
  clear _hK_4
  refine W_seq fun _K_6 _hK_6 => ?_
  refine W_region ?_
  refine WL_step rfl rfl (r_fieldAddr fa25_0 rfl) ?_
  have _f_7 := ((_m1.ch0 _cw_3).ch0 _cw_5)
  refine WL_step rfl rfl (r_loadAt _f_7.at_ agg3 rfl rfl) ?_
  refine WL_step rfl rfl (r_fieldAddr fa28_0 rfl) ?_
  refine WL_s rfl rfl ?_
  refine s_store1 (off := 0) _m3 sz3 rfl rfl rfl rfl fun _w_8 _m_9 _cw_8 => ?_
  have _cw_8z := _cw_8.size
  have E := E.step _cw_8 (fun i hi => .inl (by have _h1 := List.mem_singleton.1 hi; omega))
  replace _m_9 : Blk _w_8 _b3 28 [(.int .i64 aS), (.slice none 0 0), (.slice none 0 0)] := _m_9
  refine WL_nil ?_
  refine thn_nrm (_hK_6 _ _ ?_)
  clear _hK_6
  refine W_seq fun _K_10 _hK_10 => ?_
  refine W_region ?_
  refine WL_step rfl rfl (r_fieldAddr fa25_1 rfl) ?_
  have _f_11 := (_f_7.ch _cw_8 (fun hm => by have _h1 := List.mem_singleton.1 hm; omega))
  refine WL_step rfl rfl (r_loadAt _f_11.at_ agg22 rfl rfl) ?_
  refine WL_s rfl rfl ?_
  have _f_12 := ((((_h_aA.ch0 _cw_2).ch0 _cw_3).ch0 _cw_5).ch _cw_8 (fun i hi => by have _h1 := List.mem_singleton.1 hi; omega))
  refine Step.call (r_call (xs := [.tmp 8]) fk53 rfl) (c_laws_toBoolS _f_12 (by omega)) fun _v9 _w_13 _q9 => ?_
  obtain ⟨_q9, _lo9, _cw_13⟩ := _q9
  have _cw_13z := _cw_13.size
  have E := E.trans _cw_13
  obtain ⟨_Av9, _Cv9, _ev9⟩ := _q9.val
  subst _ev9
  have _lv9 := _q9.len
  have _hiv9 := _q9.lt
  refine WL_step rfl rfl (r_fieldAddr fa28_1 rfl) ?_
  refine WL_s rfl rfl ?_
  have _f_14 := (_m_9.ch0 _cw_13)
  refine s_store1 (off := 1) _f_14 sz22 rfl rfl rfl rfl fun _w_15 _m_16 _cw_15 => ?_
  have _cw_15z := _cw_15.size
  have E := E.step _cw_15 (fun i hi => .inl (by have _h1 := List.mem_singleton.1 hi; omega))
  replace _m_16 : Blk _w_15 _b3 28 [(.int .i64 aS), (.slice _Av9 (aA).length _Cv9), (.slice none 0 0)] := _m_16
  refine WL_nil ?_
  refine thn_nrm (_hK_10 _ _ ?_)
  clear _hK_10
  refine W_seq fun _K_17 _hK_17 => ?_
  refine W_region ?_
  refine WL_step rfl rfl (r_fieldAddr fa25_2 rfl) ?_
  have _f_18 := ((_f_11.ch0 _cw_13).ch _cw_15 (fun hm => by have _h1 := List.mem_singleton.1 hm; omega))
  refine WL_step rfl rfl (r_loadAt _f_18.at_ agg23 rfl rfl) ?_
  refine WL_s rfl rfl ?_
  have _f_19 := ((((((_rd_aN.ch0 _cw_2).ch0 _cw_3).ch0 _cw_5).ch _cw_8 (fun i hi => by have _h1 := List.mem_singleton.1 hi; omega)).ch0 _cw_13).ch _cw_15 (fun i hi => by have _h1 := List.mem_singleton.1 hi; omega))
  have _f_20 := ((((((_h_saN.ch0 _cw_2).ch0 _cw_3).ch0 _cw_5).ch _cw_8 (fun i hi => by have _h1 := List.mem_singleton.1 hi; omega)).ch0 _cw_13).ch _cw_15 (fun i hi => by have _h1 := List.mem_singleton.1 hi; omega))
  refine Step.call (r_call (xs := [.tmp 12]) fk54 rfl) (c_laws_toIntSS _f_20 _f_19 (by omega)) fun _v13 _w_21 _q13 => ?_
  obtain ⟨vs13, _q213, _lo213, od13, _cw_21⟩ := _q13
  have _cw_21z := _cw_21.size
  have E := E.trans _cw_21
  obtain ⟨_Av13, _Cv13, _ev13⟩ := _q213.val
  subst _ev13
  have _lv13 := _q213.len
  have _hiv13 := _q213.lt
  refine WL_step rfl rfl (r_fieldAddr fa28_2 rfl) ?_
  refine WL_s rfl rfl ?_
  have _f_22 := (_m_16.ch0 _cw_21)
  refine s_store1 (off := 2) _f_22 sz23 rfl rfl rfl rfl fun _w_23 _m_24 _cw_23 => ?_
  have _cw_23z := _cw_23.size
  have E := E.step _cw_23 (fun i hi => .inl (by have _h1 := List.mem_singleton.1 hi; omega))
  replace _m_24 : Blk _w_23 _b3 28 [(.int .i64 aS), (.slice _Av9 (aA).length _Cv9), (.slice _Av13 (vs13).length _Cv13)] := _m_24
  refine WL_nil ?_
  refine thn_nrm (_hK_17 _ _ ?_)
  clear _hK_17
  refine W_seq fun _K_25 _hK_25 => ?_
  refine W_region ?_
  refine WL_step rfl rfl (r_loadAtA0 _m_24.at_ agg28 sz28 rfl) ?_
  refine WL_s rfl rfl ?_
  have _f_26 := ((((((_m2.ch0 _cw_5).ch _cw_8 (fun hm => by have _h1 := List.mem_singleton.1 hm; omega)).ch0 _cw_13).ch _cw_15 (fun hm => by have _h1 := List.mem_singleton.1 hm; omega)).ch0 _cw_21).ch _cw_23 (fun hm => by have _h1 := List.mem_singleton.1 hm; omega))
  refine s_storeA (off := 0) 3 _f_26 sz28 rfl (us := [(.int .i64 aS), (.slice _Av9 (aA).length _Cv9), (.slice _Av13 (vs13).length _Cv13)]) rfl rfl rfl rfl fun _w_27 _m_28 _cw_27 => ?_
  have _cw_27z := _cw_27.size
  have E := E.step _cw_27 (fun i hi => .inl (by have _h1 := List.mem_singleton.1 hi; omega))
  replace _m_28 : Blk _w_27 _b2 28 [(.int .i64 aS), (.slice _Av9 (aA).length _Cv9), (.slice _Av13 (vs13).length _Cv13)] := _m_28
  refine WL_nil ?_
  refine thn_nrm (_hK_25 _ _ ?_)
  clear _hK_25
  refine W_ret ?_
  have _f_30 := ((((_q9.ch _cw_15 (fun g hg hm => by have _h0 := List.mem_singleton.1 hm; have _h2 := _lo9 _ hg; have _h3 := _hiv9 _ hg; omega)).ch0 _cw_21).ch _cw_23 (fun g hg hm => by have _h0 := List.mem_singleton.1 hm; have _h2 := _lo9 _ hg; have _h3 := _hiv9 _ hg; omega)).ch _cw_27 (fun g hg hm => by have _h0 := List.mem_singleton.1 hm; have _h2 := _lo9 _ hg; have _h3 := _hiv9 _ hg; omega))
  have _o_29 : Ol bcs 4 1 _w_27 (.slice _Av9 (aA).length _Cv9) (aA) := by
    have hx := _f_30
    simpa using hx
  have _f_33 := ((_q213.ch _cw_23 (fun g hg hm => by have _h0 := List.mem_singleton.1 hm; have _h2 := _lo213 _ hg; have _h3 := _hiv13 _ hg; omega)).ch _cw_27 (fun g hg hm => by have _h0 := List.mem_singleton.1 hm; have _h2 := _lo213 _ hg; have _h3 := _hiv13 _ hg; omega))
  have _f_34 := ((od13.ch _cw_23 (fun i hi => by have _h1 := List.mem_singleton.1 hi; omega)).ch _cw_27 (fun i hi => by have _h1 := List.mem_singleton.1 hi; omega))
  have _o_31 : Ol Sv.cs 35 1 _w_27 (.slice _Av13 (vs13).length _Cv13) vs13 := by
    have hx := _f_33
    exact hx
  have _o_32 : Od ics 3 1 _w_27 w.heap.size _w_27.heap.size vs13 (aN) := by
    have hx := _f_34.up (lo' := w.heap.size) (hi' := _w_27.heap.size) (by omega) (by omega)
    exact hx
  exact ret_intro [_] (resOf_loadA _m_28 rfl agg28 sz28 trivial) ⟨_, _, vs13, rfl, _o_29, Lo.down _lo9 (by omega), _o_31, (Lo.down _lo213 (by omega)), _o_32, E⟩

/-- spec.l2Cmp -/
theorem c_spec_l2Cmp {w : World} {_B_a : Nat} {_v_a : Value} {a : List Int} (_h_a : Ls ics 1 w _B_a _v_a a) {_B_b : Nat} {_v_b : Value} {b : List Int} (_h_b : Ls ics 1 w _B_b _v_b b) :
    Ctr Try.prog 60 #[_v_a, _v_b] w (fun v w' => v = .int .i64 (cmpL a b) ∧ Ch [] w w') := by
  obtain ⟨_A_a, _C_a, _e1_a⟩ := _h_a.val
  subst _e1_a
  have _l_a := _h_a.len
  have _h_a := _h_a.here (by decide)
  obtain ⟨_A_b, _C_b, _e1_b⟩ := _h_b.val
  subst _e1_b
  have _l_b := _h_b.len
  have _h_b := _h_b.here (by decide)
  have E := Ch.refl [] w
  refine Ctr_of_W (N := 46) (vs0 := [(.slice _A_a a.length _C_a), (.slice _A_b b.length _C_b)]) Try.func60 rfl rfl rfl ?_
  refine W_seq fun _K_1 _hK_1 => ?_
  refine W_region ?_
  refine WL_step rfl rfl (r_assign rfl) ?_
  refine WL_nil ?_
  refine thn_nrm (_hK_1 _ _ ?_)
  clear _hK_1
  refine W_seq fun _K_2 _hK_2 => ?_
  refine W_seq fun _K_3 _hK_3 => ?_
  refine W_region ?_
  refine WL_step rfl rfl (r_assign rfl) ?_
  refine WL_nil ?_
  refine thn_nrm (_hK_3 _ _ ?_)
  clear _hK_3
  refine W_block ?_
  refine W_loop (σ := Nat) (fun (k : Nat) => [(0, (.slice _A_a a.length _C_a)), (1, (.slice _A_b b.length _C_b)), (5, (.int .i64 ((k : Nat) : Int)))]) (fun (k : Nat) wx => Ch [] w wx ∧ w.heap.size ≤ wx.heap.size ∧ (k ≤ a.length) ∧ (k ≤ b.length) ∧ (a.take k = b.take k)) (fun (k : Nat) => a.length - k) 0 (Sub.cons rfl (Sub.cons rfl (Sub.cons rfl (Sub.nil _)))) ⟨E, (Nat.le_refl _), (by omega), (by omega), rfl⟩ ?_
  rintro k _wr_4 ⟨E, _zz0, _hk, hk2, _ht⟩
  have _E0h := E
  have _E0hz := _E0h.size
  refine W_seq fun _K_5 _hK_5 => ?_
  refine W_seq fun _K_6 _hK_6 => ?_
  refine W_region ?_
  refine WL_step rfl rfl (r_move rfl) ?_
  refine WL_step rfl rfl (r_move rfl) ?_
  refine WL_step rfl rfl (r_len (by rw [el35]; rfl) rfl) ?_
  refine WL_step rfl rfl (r_lss rfl rfl) ?_
  refine WL_step rfl rfl (r_move rfl) ?_
  refine WL_split (d := 10) rfl (fun _h10 => ?_) (fun _h10 => ?_)
  · have _h10 := bt_d _h10
    refine WL_step rfl rfl (r_move rfl) ?_
    refine WL_step rfl rfl (r_move rfl) ?_
    refine WL_step rfl rfl (r_len (by rw [el35]; rfl) rfl) ?_
    refine WL_step rfl rfl (r_lss rfl rfl) ?_
    refine WL_step rfl rfl (r_pickT rfl rfl) ?_
    refine WL_nil ?_
    refine thn_nrm (_hK_6 _ _ ?_)
    clear _hK_6
    refine W_cond rfl (fun _h15 => ?_) (fun _h15 => ?_)
    · have _h15 := bt_d _h15
      refine W_skip ?_
      refine thn_nrm (_hK_5 _ _ ?_)
      clear _hK_5
      refine W_seq fun _K_7 _hK_7 => ?_
      refine W_block ?_
      refine W_seq fun _K_8 _hK_8 => ?_
      refine W_seq fun _K_9 _hK_9 => ?_
      refine W_drawC [] 9 mixed rfl fun _w_10 _cw_10 => ?_
      have _cw_10z := _cw_10.size
      have E := E.trans _cw_10
      refine DR_s 0 rfl (by kernel_rfl) rfl rfl (t_v (fun _ => (r_move rfl)) ?_)
      refine DR_s 1 rfl (by kernel_rfl) rfl rfl (t_v (fun _ => (r_move rfl)) ?_)
      have _f_11 := ((_h_a.ch0 _E0h).ch0 _cw_10)
      refine DR_s 2 rfl (by kernel_rfl) rfl rfl (t_index _f_11 ics_len el35 sz3 rfl rfl rfl (by omega) fun _p20 _y20 _hy20 _a20 => ?_)
      refine DR_s 3 rfl (by kernel_rfl) rfl rfl (t_loadAt0 _a20 (fun i hi => by first | exact absurd hi (List.not_mem_nil) | (have _h1 := List.mem_singleton.1 hi; omega)) agg3 rfl rfl ?_)
      refine DR_s 4 rfl (by kernel_rfl) rfl rfl (t_v (fun _ => (r_move rfl)) ?_)
      refine DR_s 5 rfl (by kernel_rfl) rfl rfl (t_v (fun _ => (r_move rfl)) ?_)
      have _f_12 := ((_h_b.ch0 _E0h).ch0 _cw_10)
      refine DR_s 6 rfl (by kernel_rfl) rfl rfl (t_index _f_12 ics_len el35 sz3 rfl rfl rfl (by omega) fun _p24 _y24 _hy24 _a24 => ?_)
      refine DR_s 7 rfl (by kernel_rfl) rfl rfl (t_loadAt0 _a24 (fun i hi => by first | exact absurd hi (List.not_mem_nil) | (have _h1 := List.mem_singleton.1 hi; omega)) agg3 rfl rfl ?_)
      refine DR_s 8 rfl (by kernel_rfl) rfl rfl (t_v (fun _ => (r_lss rfl rfl)) ?_)
      refine DR_done (by kernel_rfl) ?_
      refine thn_nrm (_hK_9 _ _ ?_)
      clear _hK_9
      refine W_cond rfl (fun _h26 => ?_) (fun _h26 => ?_)
      · have _h26 := bt_d _h26
        refine W_seq fun _K_13 _hK_13 => ?_
        refine W_region ?_
        refine WL_step rfl rfl (r_assign rfl) ?_
        refine WL_nil ?_
        refine thn_nrm (_hK_13 _ _ ?_)
        clear _hK_13
        refine W_ret (thn_ret (inB_ret (thn_ret (thn_ret (inB_ret (thn_ret ?_))))))
        clear _hK_2 _hK_7 _hK_8
        exact ret_intro [_] ⟨rfl, trivial⟩ ⟨congrArg (Value.int .i64) (by first | exact cmpL_lt _ht _hy20 _hy24 _h26 | exact cmpL_gt _ht _hy29 _hy33 _h35 | (have hc := cmpL_end _ht (by omega) (by omega) (by omega); rw [hc]; first | (rw [if_pos (by omega)]; done) | (rw [if_neg (by omega), if_pos (by omega)]; done) | (rw [if_neg (by omega), if_neg (by omega)]; done))), E⟩
      · have _h26 := bf_d _h26
        refine W_skip ?_
        refine thn_nrm (_hK_8 _ _ ?_)
        clear _hK_8
        refine W_seq fun _K_14 _hK_14 => ?_
        refine W_drawC [] 9 mixed rfl fun _w_15 _cw_15 => ?_
        have _cw_15z := _cw_15.size
        have E := E.trans _cw_15
        refine DR_s 0 rfl (by kernel_rfl) rfl rfl (t_v (fun _ => (r_move rfl)) ?_)
        refine DR_s 1 rfl (by kernel_rfl) rfl rfl (t_v (fun _ => (r_move rfl)) ?_)
        have _f_16 := (_f_11.ch0 _cw_15)
        refine DR_s 2 rfl (by kernel_rfl) rfl rfl (t_index _f_16 ics_len el35 sz3 rfl rfl rfl (by omega) fun _p29 _y29 _hy29 _a29 => ?_)
        refine DR_s 3 rfl (by kernel_rfl) rfl rfl (t_loadAt0 _a29 (fun i hi => by first | exact absurd hi (List.not_mem_nil) | (have _h1 := List.mem_singleton.1 hi; omega)) agg3 rfl rfl ?_)
        refine DR_s 4 rfl (by kernel_rfl) rfl rfl (t_v (fun _ => (r_move rfl)) ?_)
        refine DR_s 5 rfl (by kernel_rfl) rfl rfl (t_v (fun _ => (r_move rfl)) ?_)
        have _f_17 := (_f_12.ch0 _cw_15)
        refine DR_s 6 rfl (by kernel_rfl) rfl rfl (t_index _f_17 ics_len el35 sz3 rfl rfl rfl (by omega) fun _p33 _y33 _hy33 _a33 => ?_)
        refine DR_s 7 rfl (by kernel_rfl) rfl rfl (t_loadAt0 _a33 (fun i hi => by first | exact absurd hi (List.not_mem_nil) | (have _h1 := List.mem_singleton.1 hi; omega)) agg3 rfl rfl ?_)
        refine DR_s 8 rfl (by kernel_rfl) rfl rfl (t_v (fun _ => (r_gtr rfl rfl)) ?_)
        refine DR_done (by kernel_rfl) ?_
        refine thn_nrm (_hK_14 _ _ ?_)
        clear _hK_14
        refine W_cond rfl (fun _h35 => ?_) (fun _h35 => ?_)
        · have _h35 := bt_d _h35
          refine W_seq fun _K_18 _hK_18 => ?_
          refine W_region ?_
          refine WL_step rfl rfl (r_assign rfl) ?_
          refine WL_nil ?_
          refine thn_nrm (_hK_18 _ _ ?_)
          clear _hK_18
          refine W_ret (inB_ret (thn_ret (thn_ret (inB_ret (thn_ret ?_)))))
          clear _hK_2 _hK_7
          exact ret_intro [_] ⟨rfl, trivial⟩ ⟨congrArg (Value.int .i64) (by first | exact cmpL_lt _ht _hy20 _hy24 _h26 | exact cmpL_gt _ht _hy29 _hy33 _h35 | (have hc := cmpL_end _ht (by omega) (by omega) (by omega); rw [hc]; first | (rw [if_pos (by omega)]; done) | (rw [if_neg (by omega), if_pos (by omega)]; done) | (rw [if_neg (by omega), if_neg (by omega)]; done))), E⟩
        · have _h35 := bf_d _h35
          refine W_skip ?_
          refine inB_nrm ?_
          refine thn_nrm (_hK_7 _ _ ?_)
          clear _hK_7
          refine W_region ?_
          refine WL_step rfl rfl (r_move rfl) ?_
          refine WL_step rfl rfl (r_add (by omega) rfl rfl) ?_
          refine WL_step rfl rfl (r_assign rfl) ?_
          refine WL_nil ?_
          exact thn_nrm (Exists.intro (k + 1) ⟨⟨E, (by omega), (by omega), (by omega), (take_eq_succ _ht _hy20 _hy24 (by have _e1 := get_uniq _hy20 _hy29; have _e2 := get_uniq _hy24 _hy33; omega))⟩, Sub.cons rfl (Sub.cons rfl (Sub.cons rfl (Sub.nil _))), (by first | omega | (dsimp only; omega))⟩)
    · have _h15 := bf_d _h15
      refine W_exit (thn_exit (thn_exit (inB_hit ?_)))
      refine thn_nrm (_hK_2 _ _ ?_)
      clear _hK_2
      refine W_seq fun _K_19 _hK_19 => ?_
      refine W_seq fun _K_20 _hK_20 => ?_
      refine W_region ?_
      refine WL_step rfl rfl (r_move rfl) ?_
      refine WL_step rfl rfl (r_len (by rw [el35]; rfl) rfl) ?_
      refine WL_step rfl rfl (r_move rfl) ?_
      refine WL_step rfl rfl (r_len (by rw [el35]; rfl) rfl) ?_
      refine WL_step rfl rfl (r_lss rfl rfl) ?_
      refine WL_nil ?_
      refine thn_nrm (_hK_20 _ _ ?_)
      clear _hK_20
      refine W_cond rfl (fun _h40 => ?_) (fun _h40 => ?_)
      · have _h40 := bt_d _h40
        refine W_seq fun _K_21 _hK_21 => ?_
        refine W_region ?_
        refine WL_step rfl rfl (r_assign rfl) ?_
        refine WL_nil ?_
        refine thn_nrm (_hK_21 _ _ ?_)
        clear _hK_21
        refine W_ret (thn_ret ?_)
        clear _hK_5 _hK_19
        exact ret_intro [_] ⟨rfl, trivial⟩ ⟨congrArg (Value.int .i64) (by first | exact cmpL_lt _ht _hy20 _hy24 _h26 | exact cmpL_gt _ht _hy29 _hy33 _h35 | (have hc := cmpL_end _ht (by omega) (by omega) (by omega); rw [hc]; first | (rw [if_pos (by omega)]; done) | (rw [if_neg (by omega), if_pos (by omega)]; done) | (rw [if_neg (by omega), if_neg (by omega)]; done))), E⟩
      · have _h40 := bf_d _h40
        refine W_skip ?_
        refine thn_nrm (_hK_19 _ _ ?_)
        clear _hK_19
        refine W_seq fun _K_22 _hK_22 => ?_
        refine W_seq fun _K_23 _hK_23 => ?_
        refine W_region ?_
        refine WL_step rfl rfl (r_move rfl) ?_
        refine WL_step rfl rfl (r_len (by rw [el35]; rfl) rfl) ?_
        refine WL_step rfl rfl (r_move rfl) ?_
        refine WL_step rfl rfl (r_len (by rw [el35]; rfl) rfl) ?_
        refine WL_step rfl rfl (r_gtr rfl rfl) ?_
        refine WL_nil ?_
        refine thn_nrm (_hK_23 _ _ ?_)
        clear _hK_23
        refine W_cond rfl (fun _h45 => ?_) (fun _h45 => ?_)
        · have _h45 := bt_d _h45
          refine W_seq fun _K_24 _hK_24 => ?_
          refine W_region ?_
          refine WL_step rfl rfl (r_assign rfl) ?_
          refine WL_nil ?_
          refine thn_nrm (_hK_24 _ _ ?_)
          clear _hK_24
          refine W_ret (thn_ret ?_)
          clear _hK_5 _hK_22
          exact ret_intro [_] ⟨rfl, trivial⟩ ⟨congrArg (Value.int .i64) (by first | exact cmpL_lt _ht _hy20 _hy24 _h26 | exact cmpL_gt _ht _hy29 _hy33 _h35 | (have hc := cmpL_end _ht (by omega) (by omega) (by omega); rw [hc]; first | (rw [if_pos (by omega)]; done) | (rw [if_neg (by omega), if_pos (by omega)]; done) | (rw [if_neg (by omega), if_neg (by omega)]; done))), E⟩
        · have _h45 := bf_d _h45
          refine W_skip ?_
          refine thn_nrm (_hK_22 _ _ ?_)
          clear _hK_22
          refine W_seq fun _K_25 _hK_25 => ?_
          refine W_region ?_
          refine WL_step rfl rfl (r_assign rfl) ?_
          refine WL_nil ?_
          refine thn_nrm (_hK_25 _ _ ?_)
          clear _hK_25
          refine W_ret ?_
          clear _hK_5
          exact ret_intro [_] ⟨rfl, trivial⟩ ⟨congrArg (Value.int .i64) (by first | exact cmpL_lt _ht _hy20 _hy24 _h26 | exact cmpL_gt _ht _hy29 _hy33 _h35 | (have hc := cmpL_end _ht (by omega) (by omega) (by omega); rw [hc]; first | (rw [if_pos (by omega)]; done) | (rw [if_neg (by omega), if_pos (by omega)]; done) | (rw [if_neg (by omega), if_neg (by omega)]; done))), E⟩
  · have _h10 := bf_d _h10
    refine WL_skip rfl rfl ?_
    refine WL_skip rfl rfl ?_
    refine WL_skip rfl rfl ?_
    refine WL_skip rfl rfl ?_
    refine WL_step rfl rfl (r_pickF rfl rfl) ?_
    refine WL_nil ?_
    refine thn_nrm (_hK_6 _ _ ?_)
    clear _hK_6
    refine W_condF rfl ?_
    refine W_exit (thn_exit (thn_exit (inB_hit ?_)))
    refine thn_nrm (_hK_2 _ _ ?_)
    clear _hK_2
    refine W_seq fun _K_26 _hK_26 => ?_
    refine W_seq fun _K_27 _hK_27 => ?_
    refine W_region ?_
    refine WL_step rfl rfl (r_move rfl) ?_
    refine WL_step rfl rfl (r_len (by rw [el35]; rfl) rfl) ?_
    refine WL_step rfl rfl (r_move rfl) ?_
    refine WL_step rfl rfl (r_len (by rw [el35]; rfl) rfl) ?_
    refine WL_step rfl rfl (r_lss rfl rfl) ?_
    refine WL_nil ?_
    refine thn_nrm (_hK_27 _ _ ?_)
    clear _hK_27
    refine W_cond rfl (fun _h40 => ?_) (fun _h40 => ?_)
    · have _h40 := bt_d _h40
      refine W_seq fun _K_28 _hK_28 => ?_
      refine W_region ?_
      refine WL_step rfl rfl (r_assign rfl) ?_
      refine WL_nil ?_
      refine thn_nrm (_hK_28 _ _ ?_)
      clear _hK_28
      refine W_ret (thn_ret ?_)
      clear _hK_5 _hK_26
      exact ret_intro [_] ⟨rfl, trivial⟩ ⟨congrArg (Value.int .i64) (by first | exact cmpL_lt _ht _hy20 _hy24 _h26 | exact cmpL_gt _ht _hy29 _hy33 _h35 | (have hc := cmpL_end _ht (by omega) (by omega) (by omega); rw [hc]; first | (rw [if_pos (by omega)]; done) | (rw [if_neg (by omega), if_pos (by omega)]; done) | (rw [if_neg (by omega), if_neg (by omega)]; done))), E⟩
    · have _h40 := bf_d _h40
      refine W_skip ?_
      refine thn_nrm (_hK_26 _ _ ?_)
      clear _hK_26
      refine W_seq fun _K_29 _hK_29 => ?_
      refine W_seq fun _K_30 _hK_30 => ?_
      refine W_region ?_
      refine WL_step rfl rfl (r_move rfl) ?_
      refine WL_step rfl rfl (r_len (by rw [el35]; rfl) rfl) ?_
      refine WL_step rfl rfl (r_move rfl) ?_
      refine WL_step rfl rfl (r_len (by rw [el35]; rfl) rfl) ?_
      refine WL_step rfl rfl (r_gtr rfl rfl) ?_
      refine WL_nil ?_
      refine thn_nrm (_hK_30 _ _ ?_)
      clear _hK_30
      refine W_cond rfl (fun _h45 => ?_) (fun _h45 => ?_)
      · have _h45 := bt_d _h45
        refine W_seq fun _K_31 _hK_31 => ?_
        refine W_region ?_
        refine WL_step rfl rfl (r_assign rfl) ?_
        refine WL_nil ?_
        refine thn_nrm (_hK_31 _ _ ?_)
        clear _hK_31
        refine W_ret (thn_ret ?_)
        clear _hK_5 _hK_29
        exact ret_intro [_] ⟨rfl, trivial⟩ ⟨congrArg (Value.int .i64) (by first | exact cmpL_lt _ht _hy20 _hy24 _h26 | exact cmpL_gt _ht _hy29 _hy33 _h35 | (have hc := cmpL_end _ht (by omega) (by omega) (by omega); rw [hc]; first | (rw [if_pos (by omega)]; done) | (rw [if_neg (by omega), if_pos (by omega)]; done) | (rw [if_neg (by omega), if_neg (by omega)]; done))), E⟩
      · have _h45 := bf_d _h45
        refine W_skip ?_
        refine thn_nrm (_hK_29 _ _ ?_)
        clear _hK_29
        refine W_seq fun _K_32 _hK_32 => ?_
        refine W_region ?_
        refine WL_step rfl rfl (r_assign rfl) ?_
        refine WL_nil ?_
        refine thn_nrm (_hK_32 _ _ ?_)
        clear _hK_32
        refine W_ret ?_
        clear _hK_5
        exact ret_intro [_] ⟨rfl, trivial⟩ ⟨congrArg (Value.int .i64) (by first | exact cmpL_lt _ht _hy20 _hy24 _h26 | exact cmpL_gt _ht _hy29 _hy33 _h35 | (have hc := cmpL_end _ht (by omega) (by omega) (by omega); rw [hc]; first | (rw [if_pos (by omega)]; done) | (rw [if_neg (by omega), if_pos (by omega)]; done) | (rw [if_neg (by omega), if_neg (by omega)]; done))), E⟩

/-- spec.EqualAutomata -/
theorem c_spec_EqualAutomata {w : World} (aS : Int) {_B_aA : Nat} {_v_aA : Value} {aA : List Bool} (_h_aA : Ls bcs 1 w _B_aA _v_aA aA) {_B_saN : Nat} {_v_saN : Value} {saN : List Sv} (_h_saN : Ls Sv.cs 1 w _B_saN _v_saN saN) {BB_aN : Nat} {aN : List (List Int)} (_rd_aN : Rd ics 1 w BB_aN saN aN) (bS : Int) {_B_bA : Nat} {_v_bA : Value} {bA : List Bool} (_h_bA : Ls bcs 1 w _B_bA _v_bA bA) {_B_sbN : Nat} {_v_sbN : Value} {sbN : List Sv} (_h_sbN : Ls Sv.cs 1 w _B_sbN _v_sbN sbN) {BB_bN : Nat} {bN : List (List Int)} (_rd_bN : Rd ics 1 w BB_bN sbN bN) :
    Ctr Try.prog 22 #[(.agg #[(.int .i64 aS), _v_aA, _v_saN]), (.agg #[(.int .i64 bS), _v_bA, _v_sbN])] w (fun v w' => v = .bool (decide (aS = bS ∧ aA = bA ∧ aN = bN)) ∧ Ch [] w w') := by
  obtain ⟨_A_aA, _C_aA, _e1_aA⟩ := _h_aA.val
  subst _e1_aA
  have _l_aA := _h_aA.len
  have _h_aA := _h_aA.here (by decide)
  obtain ⟨_A_saN, _C_saN, _e1_saN⟩ := _h_saN.val
  subst _e1_saN
  have _l_saN := _h_saN.len
  have _h_saN := _h_saN.here (by decide)
  have _rd_aN := _rd_aN.here (by decide)
  have _rl_aN := _rd_aN.1
  obtain ⟨_A_bA, _C_bA, _e1_bA⟩ := _h_bA.val
  subst _e1_bA
  have _l_bA := _h_bA.len
  have _h_bA := _h_bA.here (by decide)
  obtain ⟨_A_sbN, _C_sbN, _e1_sbN⟩ := _h_sbN.val
  subst _e1_sbN
  have _l_sbN := _h_sbN.len
  have _h_sbN := _h_sbN.here (by decide)
  have _rd_bN := _rd_bN.here (by decide)
  have _rl_bN := _rd_bN.1
  have E := Ch.refl [] w
  refine Ctr_of_W (N := 67) (vs0 := [(.agg #[(.int .i64 aS), (.slice _A_aA aA.length _C_aA), (.slice _A_saN saN.length _C_saN)]), (.agg #[(.int .i64 bS), (.slice _A_bA bA.length _C_bA), (.slice _A_sbN sbN.length _C_sbN)])]) Try.func22 rfl rfl rfl ?_
  refine W_seq fun _K_1 _hK_1 => ?_
  refine W_region ?_
  refine WL_s rfl rfl ?_
  refine s_box rfl fun _b2 _w_2 _m2 _cw_2 _e2 => ?_
  have _cw_2z := _cw_2.size
  have E := E.trans _cw_2
  have _z2 := _m2.lt
  replace _m2 : Blk _w_2 _b2 28 [(.int .i64 aS), (.slice _A_aA aA.length _C_aA), (.slice _A_saN saN.length _C_saN)] := _m2
  refine WL_s rfl rfl ?_
  refine s_box rfl fun _b3 _w_3 _m3 _cw_3 _e3 => ?_
  have _cw_3z := _cw_3.size
  have E := E.trans _cw_3
  have _z3 := _m3.lt
  replace _m3 : Blk _w_3 _b3 28 [(.int .i64 bS), (.slice _A_bA bA.length _C_bA), (.slice _A_sbN sbN.length _C_sbN)] := _m3
  refine WL_step rfl rfl (r_assign rfl) ?_
  refine WL_nil ?_
  refine thn_nrm (_hK_1 _ _ ?_)
  clear _hK_1
  refine W_seq fun _K_4 _hK_4 => ?_
  refine W_seq fun _K_5 _hK_5 => ?_
  refine W_region ?_
  refine WL_step rfl rfl (r_fieldAddr fa28_0 rfl) ?_
  have _f_6 := (_m2.ch0 _cw_3)
  refine WL_step rfl rfl (r_loadAt _f_6.at_ agg3 rfl rfl) ?_
  refine WL_step rfl rfl (r_fieldAddr fa28_0 rfl) ?_
  refine WL_step rfl rfl (r_loadAt _m3.at_ agg3 rfl rfl) ?_
  refine WL_step rfl rfl (r_neq rfl rfl) ?_
  refine WL_step rfl rfl (r_move rfl) ?_
  refine WL_split (d := 12) rfl (fun _h12 => ?_) (fun _h12 => ?_)
  · have _h12 := bf_d (bt_n _h12)
    refine WL_skip rfl rfl ?_
    refine WL_skip rfl rfl ?_
    refine WL_skip rfl rfl ?_
    refine WL_skip rfl rfl ?_
    refine WL_skip rfl rfl ?_
    refine WL_skip rfl rfl ?_
    refine WL_skip rfl rfl ?_
    refine WL_step rfl rfl (r_pickT rfl rfl) ?_
    refine WL_step rfl rfl (r_move rfl) ?_
    refine WL_skip rfl rfl ?_
    refine WL_skip rfl rfl ?_
    refine WL_skip rfl rfl ?_
    refine WL_skip rfl rfl ?_
    refine WL_skip rfl rfl ?_
    refine WL_skip rfl rfl ?_
    refine WL_skip rfl rfl ?_
    refine WL_step rfl rfl (r_pickT rfl rfl) ?_
    refine WL_nil ?_
    refine thn_nrm (_hK_5 _ _ ?_)
    clear _hK_5
    refine W_condT rfl ?_
    refine W_seq fun _K_7 _hK_7 => ?_
    refine W_region ?_
    refine WL_step rfl rfl (r_assign rfl) ?_
    refine WL_nil ?_
    refine thn_nrm (_hK_7 _ _ ?_)
    clear _hK_7
    refine W_ret (thn_ret ?_)
    clear _hK_4
    exact ret_intro [_] ⟨rfl, trivial⟩ ⟨congrArg Value.bool (by first | exact (decide_eq_true ⟨_h12, eq_of_take _ht (by omega) (by omega), eq_of_take hu (by omega) (by omega)⟩).symm | exact (decide_eq_false (fun e => _h12 e.1)).symm | exact (decide_eq_false (fun e => _h21 (by rw [e.2.1]))).symm | exact (decide_eq_false (fun e => _h29 (by rw [_rl_aN, _rl_bN, e.2.2]))).symm | exact (decide_eq_false (fun e => ne_of_get _hy40 _hy45 _h47 e.2.1)).symm | exact (decide_eq_false (fun e => ne_of_get _hys58 _hys63 (fun q => _h66 (cmpL_eq.2 q)) e.2.2)).symm), E⟩
  · have _h12 := bt_d (bf_n _h12)
    refine WL_step rfl rfl (r_fieldAddr fa28_1 rfl) ?_
    refine WL_step rfl rfl (r_loadAt _f_6.at_ agg22 rfl rfl) ?_
    refine WL_step rfl rfl (r_len (by rw [el22]; rfl) rfl) ?_
    refine WL_step rfl rfl (r_fieldAddr fa28_1 rfl) ?_
    refine WL_step rfl rfl (r_loadAt _m3.at_ agg22 rfl rfl) ?_
    refine WL_step rfl rfl (r_len (by rw [el22]; rfl) rfl) ?_
    refine WL_step rfl rfl (r_neq rfl rfl) ?_
    refine WL_step rfl rfl (r_pickF rfl rfl) ?_
    refine WL_step rfl rfl (r_move rfl) ?_
    refine WL_split (d := 21) rfl (fun _h21 => ?_) (fun _h21 => ?_)
    · have _h21 := bf_d (bt_n _h21)
      refine WL_skip rfl rfl ?_
      refine WL_skip rfl rfl ?_
      refine WL_skip rfl rfl ?_
      refine WL_skip rfl rfl ?_
      refine WL_skip rfl rfl ?_
      refine WL_skip rfl rfl ?_
      refine WL_skip rfl rfl ?_
      refine WL_step rfl rfl (r_pickT rfl rfl) ?_
      refine WL_nil ?_
      refine thn_nrm (_hK_5 _ _ ?_)
      clear _hK_5
      refine W_condT rfl ?_
      refine W_seq fun _K_8 _hK_8 => ?_
      refine W_region ?_
      refine WL_step rfl rfl (r_assign rfl) ?_
      refine WL_nil ?_
      refine thn_nrm (_hK_8 _ _ ?_)
      clear _hK_8
      refine W_ret (thn_ret ?_)
      clear _hK_4
      exact ret_intro [_] ⟨rfl, trivial⟩ ⟨congrArg Value.bool (by first | exact (decide_eq_true ⟨_h12, eq_of_take _ht (by omega) (by omega), eq_of_take hu (by omega) (by omega)⟩).symm | exact (decide_eq_false (fun e => _h12 e.1)).symm | exact (decide_eq_false (fun e => _h21 (by rw [e.2.1]))).symm | exact (decide_eq_false (fun e => _h29 (by rw [_rl_aN, _rl_bN, e.2.2]))).symm | exact (decide_eq_false (fun e => ne_of_get _hy40 _hy45 _h47 e.2.1)).symm | exact (decide_eq_false (fun e => ne_of_get _hys58 _hys63 (fun q => _h66 (cmpL_eq.2 q)) e.2.2)).symm), E⟩
    · have _h21 := bt_d (bf_n _h21)
      refine WL_step rfl rfl (r_fieldAddr fa28_2 rfl) ?_
      refine WL_step rfl rfl (r_loadAt _f_6.at_ agg23 rfl rfl) ?_
      refine WL_step rfl rfl (r_len (by rw [el23]; rfl) rfl) ?_
      refine WL_step rfl rfl (r_fieldAddr fa28_2 rfl) ?_
      refine WL_step rfl rfl (r_loadAt _m3.at_ agg23 rfl rfl) ?_
      refine WL_step rfl rfl (r_len (by rw [el23]; rfl) rfl) ?_
      refine WL_step rfl rfl (r_neq rfl rfl) ?_
      refine WL_step rfl rfl (r_pickF rfl rfl) ?_
      refine WL_nil ?_
      refine thn_nrm (_hK_5 _ _ ?_)
      clear _hK_5
      refine W_cond rfl (fun _h29 => ?_) (fun _h29 => ?_)
      · have _h29 := bf_d (bt_n _h29)
        refine W_seq fun _K_9 _hK_9 => ?_
        refine W_region ?_
        refine WL_step rfl rfl (r_assign rfl) ?_
        refine WL_nil ?_
        refine thn_nrm (_hK_9 _ _ ?_)
        clear _hK_9
        refine W_ret (thn_ret ?_)
        clear _hK_4
        exact ret_intro [_] ⟨rfl, trivial⟩ ⟨congrArg Value.bool (by first | exact (decide_eq_true ⟨_h12, eq_of_take _ht (by omega) (by omega), eq_of_take hu (by omega) (by omega)⟩).symm | exact (decide_eq_false (fun e => _h12 e.1)).symm | exact (decide_eq_false (fun e => _h21 (by rw [e.2.1]))).symm | exact (decide_eq_false (fun e => _h29 (by rw [_rl_aN, _rl_bN, e.2.2]))).symm | exact (decide_eq_false (fun e => ne_of_get _hy40 _hy45 _h47 e.2.1)).symm | exact (decide_eq_false (fun e => ne_of_get _hys58 _hys63 (fun q => _h66 (cmpL_eq.2 q)) e.2.2)).symm), E⟩
      · have _h29 := bt_d (bf_n _h29)
        refine W_skip ?_
        refine thn_nrm (_hK_4 _ _ ?_)
        clear _hK_4
        refine W_seq fun _K_10 _hK_10 => ?_
        refine W_seq fun _K_11 _hK_11 => ?_
        refine W_region ?_
        refine WL_step rfl rfl (r_assign rfl) ?_
        refine WL_nil ?_
        refine thn_nrm (_hK_11 _ _ ?_)
        clear _hK_11
        refine W_block ?_
        refine W_loop (σ := Nat) (fun (k : Nat) => [(0, (.agg #[(.int .i64 aS), (.slice _A_aA aA.length _C_aA), (.slice _A_saN saN.length _C_saN)])), (1, (.agg #[(.int .i64 bS), (.slice _A_bA bA.length _C_bA), (.slice _A_sbN sbN.length _C_sbN)])), (2, (.pointer (some ⟨_b2, 0, none⟩))), (3, (.pointer (some ⟨_b3, 0, none⟩))), (5, (.int .i64 ((k : Nat) : Int))), (7, (.pointer (some (Addr.add ⟨_b2, 0, none⟩ 0)))), (8, (.int .i64 aS)), (9, (.pointer (some (Addr.add ⟨_b3, 0, none⟩ 0)))), (10, (.int .i64 bS)), (11, (.bool (!decide (aS = bS)))), (12, (.bool false)), (13, (.pointer (some (Addr.add ⟨_b2, 0, none⟩ 1)))), (14, (.slice _A_aA aA.length _C_aA)), (15, (.int .i64 ((aA.length : Nat) : Int))), (16, (.pointer (some (Addr.add ⟨_b3, 0, none⟩ 1)))), (17, (.slice _A_bA bA.length _C_bA)), (18, (.int .i64 ((bA.length : Nat) : Int))), (19, (.bool (!decide (((aA.length : Nat) : Int) = ((bA.length : Nat) : Int))))), (20, (.bool (!decide (((aA.length : Nat) : Int) = ((bA.length : Nat) : Int))))), (21, (.bool false)), (22, (.pointer (some (Addr.add ⟨_b2, 0, none⟩ 2)))), (23, (.slice _A_saN saN.length _C_saN)), (24, (.int .i64 ((saN.length : Nat) : Int))), (25, (.pointer (some (Addr.add ⟨_b3, 0, none⟩ 2)))), (26, (.slice _A_sbN sbN.length _C_sbN)), (27, (.int .i64 ((sbN.length : Nat) : Int))), (28, (.bool (!decide (((saN.length : Nat) : Int) = ((sbN.length : Nat) : Int))))), (29, (.bool (!decide (((saN.length : Nat) : Int) = ((sbN.length : Nat) : Int)))))]) (fun (k : Nat) wx => Ch [] w wx ∧ _w_3.heap.size ≤ wx.heap.size ∧ (k ≤ aA.length) ∧ (aA.take k = bA.take k) ∧ Blk wx _b2 28 [(.int .i64 aS), (.slice _A_aA aA.length _C_aA), (.slice _A_saN saN.length _C_saN)] ∧ Blk wx _b3 28 [(.int .i64 bS), (.slice _A_bA bA.length _C_bA), (.slice _A_sbN sbN.length _C_sbN)]) (fun (k : Nat) => aA.length - k) 0 (Sub.cons rfl (Sub.cons rfl (Sub.cons rfl (Sub.cons rfl (Sub.cons rfl (Sub.cons rfl (Sub.cons rfl (Sub.cons rfl (Sub.cons rfl (Sub.cons rfl (Sub.cons rfl (Sub.cons rfl (Sub.cons rfl (Sub.cons rfl (Sub.cons rfl (Sub.cons rfl (Sub.cons rfl (Sub.cons rfl (Sub.cons rfl (Sub.cons rfl (Sub.cons rfl (Sub.cons rfl (Sub.cons rfl (Sub.cons rfl (Sub.cons rfl (Sub.cons rfl (Sub.cons rfl (Sub.cons rfl (Sub.nil _))))))))))))))))))))))))))))) ⟨E, (Nat.le_refl _), (by omega), rfl, _f_6, _m3⟩ ?_
        rintro k _wr_12 ⟨E, _zz0, _hk, _ht, _F0_6, _F0_7⟩
        have _E0h := E
        have _E0hz := _E0h.size
        have _F0_6z := _F0_6.lt
        have _F0_7z := _F0_7.lt
        refine W_seq fun _K_13 _hK_13 => ?_
        refine W_seq fun _K_14 _hK_14 => ?_
        refine W_region ?_
        refine WL_step rfl rfl (r_move rfl) ?_
        refine WL_step rfl rfl (r_fieldAddr fa28_1 rfl) ?_
        refine WL_step rfl rfl (r_loadAt _F0_6.at_ agg22 rfl rfl) ?_
        refine WL_step rfl rfl (r_len (by rw [el22]; rfl) rfl) ?_
        refine WL_step rfl rfl (r_lss rfl rfl) ?_
        refine WL_nil ?_
        refine thn_nrm (_hK_14 _ _ ?_)
        clear _hK_14
        refine W_cond rfl (fun _h34 => ?_) (fun _h34 => ?_)
        · have _h34 := bt_d _h34
          refine W_skip ?_
          refine thn_nrm (_hK_13 _ _ ?_)
          clear _hK_13
          refine W_seq fun _K_15 _hK_15 => ?_
          refine W_block ?_
          refine W_seq fun _K_16 _hK_16 => ?_
          refine W_drawC [] 11 mixed rfl fun _w_17 _cw_17 => ?_
          have _cw_17z := _cw_17.size
          have E := E.trans _cw_17
          refine DR_s 0 rfl (by kernel_rfl) rfl rfl (t_v (fun _ => (r_fieldAddr fa28_1 rfl)) ?_)
          have _f_18 := (_F0_6.ch0 _cw_17)
          refine DR_s 1 rfl (by kernel_rfl) rfl rfl (t_loadAt _f_18.at_ (fun i hi => by first | exact absurd hi (List.not_mem_nil) | (have _h1 := List.mem_singleton.1 hi; omega)) agg22 rfl rfl ?_)
          refine DR_s 2 rfl (by kernel_rfl) rfl rfl (t_v (fun _ => (r_move rfl)) ?_)
          have _f_19 := ((_h_aA.ch0 _E0h).ch0 _cw_17)
          refine DR_s 3 rfl (by kernel_rfl) rfl rfl (t_index _f_19 bcs_len el22 sz4 rfl rfl rfl (by omega) fun _p40 _y40 _hy40 _a40 => ?_)
          refine DR_s 4 rfl (by kernel_rfl) rfl rfl (t_loadAt0 _a40 (fun i hi => by first | exact absurd hi (List.not_mem_nil) | (have _h1 := List.mem_singleton.1 hi; omega)) agg4 rfl rfl ?_)
          refine DR_s 5 rfl (by kernel_rfl) rfl rfl (t_v (fun _ => (r_fieldAddr fa28_1 rfl)) ?_)
          have _f_20 := (_F0_7.ch0 _cw_17)
          refine DR_s 6 rfl (by kernel_rfl) rfl rfl (t_loadAt _f_20.at_ (fun i hi => by first | exact absurd hi (List.not_mem_nil) | (have _h1 := List.mem_singleton.1 hi; omega)) agg22 rfl rfl ?_)
          refine DR_s 7 rfl (by kernel_rfl) rfl rfl (t_v (fun _ => (r_move rfl)) ?_)
          have _f_21 := ((_h_bA.ch0 _E0h).ch0 _cw_17)
          refine DR_s 8 rfl (by kernel_rfl) rfl rfl (t_index _f_21 bcs_len el22 sz4 rfl rfl rfl (by omega) fun _p45 _y45 _hy45 _a45 => ?_)
          refine DR_s 9 rfl (by kernel_rfl) rfl rfl (t_loadAt0 _a45 (fun i hi => by first | exact absurd hi (List.not_mem_nil) | (have _h1 := List.mem_singleton.1 hi; omega)) agg4 rfl rfl ?_)
          refine DR_s 10 rfl (by kernel_rfl) rfl rfl (t_v (fun _ => (r_neqB un4 rfl rfl)) ?_)
          refine DR_done (by kernel_rfl) ?_
          refine thn_nrm (_hK_16 _ _ ?_)
          clear _hK_16
          refine W_cond rfl (fun _h47 => ?_) (fun _h47 => ?_)
          · have _h47 := bf_e (bt_n _h47)
            refine W_seq fun _K_22 _hK_22 => ?_
            refine W_region ?_
            refine WL_step rfl rfl (r_assign rfl) ?_
            refine WL_nil ?_
            refine thn_nrm (_hK_22 _ _ ?_)
            clear _hK_22
            refine W_ret (inB_ret (thn_ret (thn_ret (inB_ret (thn_ret ?_)))))
            clear _hK_10 _hK_15
            exact ret_intro [_] ⟨rfl, trivial⟩ ⟨congrArg Value.bool (by first | exact (decide_eq_true ⟨_h12, eq_of_take _ht (by omega) (by omega), eq_of_take hu (by omega) (by omega)⟩).symm | exact (decide_eq_false (fun e => _h12 e.1)).symm | exact (decide_eq_false (fun e => _h21 (by rw [e.2.1]))).symm | exact (decide_eq_false (fun e => _h29 (by rw [_rl_aN, _rl_bN, e.2.2]))).symm | exact (decide_eq_false (fun e => ne_of_get _hy40 _hy45 _h47 e.2.1)).symm | exact (decide_eq_false (fun e => ne_of_get _hys58 _hys63 (fun q => _h66 (cmpL_eq.2 q)) e.2.2)).symm), E⟩
          · have _h47 := bt_e (bf_n _h47)
            refine W_skip ?_
            refine inB_nrm ?_
            refine thn_nrm (_hK_15 _ _ ?_)
            clear _hK_15
            refine W_region ?_
            refine WL_step rfl rfl (r_move rfl) ?_
            refine WL_step rfl rfl (r_add (by omega) rfl rfl) ?_
            refine WL_step rfl rfl (r_assign rfl) ?_
            refine WL_nil ?_
            exact thn_nrm (Exists.intro (k + 1) ⟨⟨E, (by omega), (by omega), (take_eq_succ _ht _hy40 _hy45 _h47), _f_18, _f_20⟩, Sub.cons rfl (Sub.cons rfl (Sub.cons rfl (Sub.cons rfl (Sub.cons rfl (Sub.cons rfl (Sub.cons rfl (Sub.cons rfl (Sub.cons rfl (Sub.cons rfl (Sub.cons rfl (Sub.cons rfl (Sub.cons rfl (Sub.cons rfl (Sub.cons rfl (Sub.cons rfl (Sub.cons rfl (Sub.cons rfl (Sub.cons rfl (Sub.cons rfl (Sub.cons rfl (Sub.cons rfl (Sub.cons rfl (Sub.cons rfl (Sub.cons rfl (Sub.cons rfl (Sub.cons rfl (Sub.cons rfl (Sub.nil _)))))))))))))))))))))))))))), (by first | omega | (dsimp only; omega))⟩)
        · have _h34 := bf_d _h34
          refine W_exit (thn_exit (thn_exit (inB_hit ?_)))
          refine thn_nrm (_hK_10 _ _ ?_)
          clear _hK_10
          refine W_seq fun _K_23 _hK_23 => ?_
          refine W_seq fun _K_24 _hK_24 => ?_
          refine W_region ?_
          refine WL_step rfl rfl (r_assign rfl) ?_
          refine WL_nil ?_
          refine thn_nrm (_hK_24 _ _ ?_)
          clear _hK_24
          refine W_block ?_
          refine W_loop (σ := Nat) (fun (k2 : Nat) => [(0, (.agg #[(.int .i64 aS), (.slice _A_aA aA.length _C_aA), (.slice _A_saN saN.length _C_saN)])), (1, (.agg #[(.int .i64 bS), (.slice _A_bA bA.length _C_bA), (.slice _A_sbN sbN.length _C_sbN)])), (2, (.pointer (some ⟨_b2, 0, none⟩))), (3, (.pointer (some ⟨_b3, 0, none⟩))), (5, (.int .i64 ((k : Nat) : Int))), (6, (.int .i64 ((k2 : Nat) : Int))), (7, (.pointer (some (Addr.add ⟨_b2, 0, none⟩ 0)))), (8, (.int .i64 aS)), (9, (.pointer (some (Addr.add ⟨_b3, 0, none⟩ 0)))), (10, (.int .i64 bS)), (11, (.bool (!decide (aS = bS)))), (12, (.bool false)), (13, (.pointer (some (Addr.add ⟨_b2, 0, none⟩ 1)))), (14, (.slice _A_aA aA.length _C_aA)), (15, (.int .i64 ((aA.length : Nat) : Int))), (16, (.pointer (some (Addr.add ⟨_b3, 0, none⟩ 1)))), (17, (.slice _A_bA bA.length _C_bA)), (18, (.int .i64 ((bA.length : Nat) : Int))), (19, (.bool (!decide (((aA.length : Nat) : Int) = ((bA.length : Nat) : Int))))), (20, (.bool (!decide (((aA.length : Nat) : Int) = ((bA.length : Nat) : Int))))), (21, (.bool false)), (22, (.pointer (some (Addr.add ⟨_b2, 0, none⟩ 2)))), (23, (.slice _A_saN saN.length _C_saN)), (24, (.int .i64 ((saN.length : Nat) : Int))), (25, (.pointer (some (Addr.add ⟨_b3, 0, none⟩ 2)))), (26, (.slice _A_sbN sbN.length _C_sbN)), (27, (.int .i64 ((sbN.length : Nat) : Int))), (28, (.bool (!decide (((saN.length : Nat) : Int) = ((sbN.length : Nat) : Int))))), (29, (.bool (!decide (((saN.length : Nat) : Int) = ((sbN.length : Nat) : Int))))), (30, (.int .i64 ((k : Nat) : Int))), (31, (.pointer (some (Addr.add ⟨_b2, 0, none⟩ 1)))), (32, (.slice _A_aA aA.length _C_aA)), (33, (.int .i64 ((aA.length : Nat) : Int))), (34, (.bool (decide (((k : Nat) : Int) < ((aA.length : Nat) : Int)))))]) (fun (k2 : Nat) wx => Ch [] w wx ∧ _wr_12.heap.size ≤ wx.heap.size ∧ (k2 ≤ aN.length) ∧ (aN.take k2 = bN.take k2) ∧ Blk wx _b2 28 [(.int .i64 aS), (.slice _A_aA aA.length _C_aA), (.slice _A_saN saN.length _C_saN)] ∧ Blk wx _b3 28 [(.int .i64 bS), (.slice _A_bA bA.length _C_bA), (.slice _A_sbN sbN.length _C_sbN)]) (fun (k2 : Nat) => aN.length - k2) 0 (Sub.cons rfl (Sub.cons rfl (Sub.cons rfl (Sub.cons rfl (Sub.cons rfl (Sub.cons rfl (Sub.cons rfl (Sub.cons rfl (Sub.cons rfl (Sub.cons rfl (Sub.cons rfl (Sub.cons rfl (Sub.cons rfl (Sub.cons rfl (Sub.cons rfl (Sub.cons rfl (Sub.cons rfl (Sub.cons rfl (Sub.cons rfl (Sub.cons rfl (Sub.cons rfl (Sub.cons rfl (Sub.cons rfl (Sub.cons rfl (Sub.cons rfl (Sub.cons rfl (Sub.cons rfl (Sub.cons rfl (Sub.cons rfl (Sub.cons rfl (Sub.cons rfl (Sub.cons rfl (Sub.cons rfl (Sub.cons rfl (Sub.nil _))))))))))))))))))))))))))))))))))) ⟨E, (Nat.le_refl _), (by omega), rfl, _F0_6, _F0_7⟩ ?_
          rintro k2 _wr_25 ⟨E, _zz1, hk2, hu, _F1_6, _F1_7⟩
          have _E1h := E
          have _E1hz := _E1h.size
          have _F1_6z := _F1_6.lt
          have _F1_7z := _F1_7.lt
          refine W_seq fun _K_26 _hK_26 => ?_
          refine W_seq fun _K_27 _hK_27 => ?_
          refine W_region ?_
          refine WL_step rfl rfl (r_move rfl) ?_
          refine WL_step rfl rfl (r_fieldAddr fa28_2 rfl) ?_
          refine WL_step rfl rfl (r_loadAt _F1_6.at_ agg23 rfl rfl) ?_
          refine WL_step rfl rfl (r_len (by rw [el23]; rfl) rfl) ?_
          refine WL_step rfl rfl (r_lss rfl rfl) ?_
          refine WL_nil ?_
          refine thn_nrm (_hK_27 _ _ ?_)
          clear _hK_27
          refine W_cond rfl (fun _h52 => ?_) (fun _h52 => ?_)
          · have _h52 := bt_d _h52
            refine W_skip ?_
            refine thn_nrm (_hK_26 _ _ ?_)
            clear _hK_26
            refine W_seq fun _K_28 _hK_28 => ?_
            refine W_block ?_
            refine W_seq fun _K_29 _hK_29 => ?_
            refine W_drawC [] 12 mixed rfl fun _w_30 _cw_30 => ?_
            have _cw_30z := _cw_30.size
            have E := E.trans _cw_30
            refine DR_s 0 rfl (by kernel_rfl) rfl rfl (t_v (fun _ => (r_fieldAddr fa28_2 rfl)) ?_)
            have _f_31 := (_F1_6.ch0 _cw_30)
            refine DR_s 1 rfl (by kernel_rfl) rfl rfl (t_loadAt _f_31.at_ (fun i hi => by first | exact absurd hi (List.not_mem_nil) | (have _h1 := List.mem_singleton.1 hi; omega)) agg23 rfl rfl ?_)
            refine DR_s 2 rfl (by kernel_rfl) rfl rfl (t_v (fun _ => (r_move rfl)) ?_)
            have _f_32 := ((_h_saN.ch0 _E1h).ch0 _cw_30)
            have _f_33 := ((_rd_aN.ch0 _E1h).ch0 _cw_30)
            refine DR_s 3 rfl (by kernel_rfl) rfl rfl (t_index _f_32 Sv.len el23 sz35 rfl rfl rfl (by omega) fun _p58 _y58 _hy58 _a58 => ?_)
            obtain ⟨_ys58, _hys58, _fs58⟩ := _f_33.get _hy58
            obtain ⟨_A58, _n58, _C58⟩ := _y58
            obtain rfl := _fs58.eqn
            have _l58 := _fs58.len
            replace _fs58 : Ls ics 1 _w_30 w.heap.size (.slice _A58 _ys58.length _C58) _ys58 := _fs58
            replace _a58 : At _w_30 w.heap.size _p58 ([(.slice _A58 _ys58.length _C58)]) := _a58
            refine DR_s 4 rfl (by kernel_rfl) rfl rfl (t_loadAt0 _a58 (fun i hi => by first | exact absurd hi (List.not_mem_nil) | (have _h1 := List.mem_singleton.1 hi; omega)) agg35 rfl rfl ?_)
            refine DR_s 5 rfl (by kernel_rfl) rfl rfl (t_v (fun _ => (r_fieldAddr fa28_2 rfl)) ?_)
            have _f_34 := (_F1_7.ch0 _cw_30)
            refine DR_s 6 rfl (by kernel_rfl) rfl rfl (t_loadAt _f_34.at_ (fun i hi => by first | exact absurd hi (List.not_mem_nil) | (have _h1 := List.mem_singleton.1 hi; omega)) agg23 rfl rfl ?_)
            refine DR_s 7 rfl (by kernel_rfl) rfl rfl (t_v (fun _ => (r_move rfl)) ?_)
            have _f_35 := ((_h_sbN.ch0 _E1h).ch0 _cw_30)
            have _f_36 := ((_rd_bN.ch0 _E1h).ch0 _cw_30)
            refine DR_s 8 rfl (by kernel_rfl) rfl rfl (t_index _f_35 Sv.len el23 sz35 rfl rfl rfl (by omega) fun _p63 _y63 _hy63 _a63 => ?_)
            obtain ⟨_ys63, _hys63, _fs63⟩ := _f_36.get _hy63
            obtain ⟨_A63, _n63, _C63⟩ := _y63
            obtain rfl := _fs63.eqn
            have _l63 := _fs63.len
            replace _fs63 : Ls ics 1 _w_30 w.heap.size (.slice _A63 _ys63.length _C63) _ys63 := _fs63
            replace _a63 : At _w_30 w.heap.size _p63 ([(.slice _A63 _ys63.length _C63)]) := _a63
            refine DR_s 9 rfl (by kernel_rfl) rfl rfl (t_loadAt0 _a63 (fun i hi => by first | exact absurd hi (List.not_mem_nil) | (have _h1 := List.mem_singleton.1 hi; omega)) agg35 rfl rfl ?_)
            refine DR_one 10 (by kernel_rfl) ?_
            refine DO_s rfl rfl rfl ?_
            refine Step.call (r_call (xs := [.tmp 59, .tmp 64]) fk60 rfl) (c_spec_l2Cmp _fs58 _fs63 ) fun _v65 _w_37 _q65 => ?_
            obtain ⟨rfl, _cw_37⟩ := _q65
            have _cw_37z := _cw_37.size
            have E := E.trans _cw_37
            have _S_38 : Ch [] _w_30 _w_37 := ((Ch.refl _ _).trans _cw_37.of_nil)
            refine ⟨_S_38, ?_⟩
            refine DR_s 11 rfl (by kernel_rfl) rfl rfl (t_v (fun _ => (r_neq rfl rfl)) ?_)
            refine DR_done (by kernel_rfl) ?_
            refine thn_nrm (_hK_29 _ _ ?_)
            clear _hK_29
            refine W_cond rfl (fun _h66 => ?_) (fun _h66 => ?_)
            · have _h66 := bf_d (bt_n _h66)
              refine W_seq fun _K_39 _hK_39 => ?_
              refine W_region ?_
              refine WL_step rfl rfl (r_assign rfl) ?_
              refine WL_nil ?_
              refine thn_nrm (_hK_39 _ _ ?_)
              clear _hK_39
              refine W_ret (inB_ret (thn_ret (thn_ret (inB_ret (thn_ret ?_)))))
              clear _hK_13 _hK_23 _hK_28
              exact ret_intro [_] ⟨rfl, trivial⟩ ⟨congrArg Value.bool (by first | exact (decide_eq_true ⟨_h12, eq_of_take _ht (by omega) (by omega), eq_of_take hu (by omega) (by omega)⟩).symm | exact (decide_eq_false (fun e => _h12 e.1)).symm | exact (decide_eq_false (fun e => _h21 (by rw [e.2.1]))).symm | exact (decide_eq_false (fun e => _h29 (by rw [_rl_aN, _rl_bN, e.2.2]))).symm | exact (decide_eq_false (fun e => ne_of_get _hy40 _hy45 _h47 e.2.1)).symm | exact (decide_eq_false (fun e => ne_of_get _hys58 _hys63 (fun q => _h66 (cmpL_eq.2 q)) e.2.2)).symm), E⟩
            · have _h66 := bt_d (bf_n _h66)
              refine W_skip ?_
              refine inB_nrm ?_
              refine thn_nrm (_hK_28 _ _ ?_)
              clear _hK_28
              refine W_region ?_
              refine WL_step rfl rfl (r_move rfl) ?_
              refine WL_step rfl rfl (r_add (by omega) rfl rfl) ?_
              refine WL_step rfl rfl (r_assign rfl) ?_
              refine WL_nil ?_
              have _f_40 := (_f_31.ch0 _cw_37)
              have _f_41 := (_f_34.ch0 _cw_37)
              exact thn_nrm (Exists.intro (k2 + 1) ⟨⟨E, (by omega), (by omega), (take_eq_succ hu _hys58 _hys63 (cmpL_eq.1 _h66)), _f_40, _f_41⟩, Sub.cons rfl (Sub.cons rfl (Sub.cons rfl (Sub.cons rfl (Sub.cons rfl (Sub.cons rfl (Sub.cons rfl (Sub.cons rfl (Sub.cons rfl (Sub.cons rfl (Sub.cons rfl (Sub.cons rfl (Sub.cons rfl (Sub.cons rfl (Sub.cons rfl (Sub.cons rfl (Sub.cons rfl (Sub.cons rfl (Sub.cons rfl (Sub.cons rfl (Sub.cons rfl (Sub.cons rfl (Sub.cons rfl (Sub.cons rfl (Sub.cons rfl (Sub.cons rfl (Sub.cons rfl (Sub.cons rfl (Sub.cons rfl (Sub.cons rfl (Sub.cons rfl (Sub.cons rfl (Sub.cons rfl (Sub.cons rfl (Sub.nil _)))))))))))))))))))))))))))))))))), (by first | omega | (dsimp only; omega))⟩)
          · have _h52 := bf_d _h52
            refine W_exit (thn_exit (thn_exit (inB_hit ?_)))
            refine thn_nrm (_hK_23 _ _ ?_)
            clear _hK_23
            refine W_seq fun _K_42 _hK_42 => ?_
            refine W_region ?_
            refine WL_step rfl rfl (r_assign rfl) ?_
            refine WL_nil ?_
            refine thn_nrm (_hK_42 _ _ ?_)
            clear _hK_42
            refine W_ret ?_
            clear _hK_13 _hK_26
            exact ret_intro [_] ⟨rfl, trivial⟩ ⟨congrArg Value.bool (by first | exact (decide_eq_true ⟨_h12, eq_of_take _ht (by omega) (by omega), eq_of_take hu (by omega) (by omega)⟩).symm | exact (decide_eq_false (fun e => _h12 e.1)).symm | exact (decide_eq_false (fun e => _h21 (by rw [e.2.1]))).symm | exact (decide_eq_false (fun e => _h29 (by rw [_rl_aN, _rl_bN, e.2.2]))).symm | exact (decide_eq_false (fun e => ne_of_get _hy40 _hy45 _h47 e.2.1)).symm | exact (decide_eq_false (fun e => ne_of_get _hys58 _hys63 (fun q => _h66 (cmpL_eq.2 q)) e.2.2)).symm), E⟩

/-- laws.FnExactEqualAutomata -/
theorem c_laws_FnExactEqualAutomata {w : World} (aS : Int) {_B_aA : Nat} {_v_aA : Value} {aA : List Bool} (_h_aA : Ls bcs 1 w _B_aA _v_aA aA) {_B_saN : Nat} {_v_saN : Value} {saN : List Sv} (_h_saN : Ls Sv.cs 1 w _B_saN _v_saN saN) {BB_aN : Nat} {aN : List (List Int)} (_rd_aN : Rd ics 1 w BB_aN saN aN) (bS : Int) {_B_bA : Nat} {_v_bA : Value} {bA : List Bool} (_h_bA : Ls bcs 1 w _B_bA _v_bA bA) {_B_sbN : Nat} {_v_sbN : Value} {sbN : List Sv} (_h_sbN : Ls Sv.cs 1 w _B_sbN _v_sbN sbN) {BB_bN : Nat} {bN : List (List Int)} (_rd_bN : Rd ics 1 w BB_bN sbN bN) :
    Ctr Try.prog 5 #[(.agg #[(.int .i64 aS), _v_aA, _v_saN]), (.agg #[(.int .i64 bS), _v_bA, _v_sbN])] w (fun v w' => v = .bool (true) ∧ Ch [] w w') := by
  obtain ⟨_A_aA, _C_aA, _e1_aA⟩ := _h_aA.val
  subst _e1_aA
  have _l_aA := _h_aA.len
  have _h_aA := _h_aA.here (by decide)
  obtain ⟨_A_saN, _C_saN, _e1_saN⟩ := _h_saN.val
  subst _e1_saN
  have _l_saN := _h_saN.len
  have _h_saN := _h_saN.here (by decide)
  have _rd_aN := _rd_aN.here (by decide)
  have _rl_aN := _rd_aN.1
  obtain ⟨_A_bA, _C_bA, _e1_bA⟩ := _h_bA.val
  subst _e1_bA
  have _l_bA := _h_bA.len
  have _h_bA := _h_bA.here (by decide)
  obtain ⟨_A_sbN, _C_sbN, _e1_sbN⟩ := _h_sbN.val
  subst _e1_sbN
  have _l_sbN := _h_sbN.len
  have _h_sbN := _h_sbN.here (by decide)
  have _rd_bN := _rd_bN.here (by decide)
  have _rl_bN := _rd_bN.1
  have E := Ch.refl [] w
  refine Ctr_of_W (N := 45) (vs0 := [(.agg #[(.int .i64 aS), (.slice _A_aA aA.length _C_aA), (.slice _A_saN saN.length _C_saN)]), (.agg #[(.int .i64 bS), (.slice _A_bA bA.length _C_bA), (.slice _A_sbN sbN.length _C_sbN)])]) Try.func5 rfl rfl rfl ?_
  refine W_seq fun _K_1 _hK_1 => ?_
  refine W_region ?_
  refine WL_s rfl rfl ?_
  refine s_box rfl fun _b2 _w_2 _m2 _cw_2 _e2 => ?_
  have _cw_2z := _cw_2.size
  have E := E.trans _cw_2
  have _z2 := _m2.lt
  replace _m2 : Blk _w_2 _b2 25 [(.int .i64 aS), (.slice _A_aA aA.length _C_aA), (.slice _A_saN saN.length _C_saN)] := _m2
  refine WL_s rfl rfl ?_
  refine s_box rfl fun _b3 _w_3 _m3 _cw_3 _e3 => ?_
  have _cw_3z := _cw_3.size
  have E := E.trans _cw_3
  have _z3 := _m3.lt
  replace _m3 : Blk _w_3 _b3 25 [(.int .i64 bS), (.slice _A_bA bA.length _C_bA), (.slice _A_sbN sbN.length _C_sbN)] := _m3
  refine WL_step rfl rfl (r_assign rfl) ?_
  refine WL_nil ?_
  refine thn_nrm (_hK_1 _ _ ?_)
  clear _hK_1
  refine W_seq fun _K_4 _hK_4 => ?_
  refine W_region ?_
  refine WL_step rfl rfl (r_assign rfl) ?_
  refine WL_nil ?_
  refine thn_nrm (_hK_4 _ _ ?_)
  clear _hK_4
  refine W_seq fun _K_5 _hK_5 => ?_
  refine W_region ?_
  have _f_6 := (_m2.ch0 _cw_3)
  refine WL_step rfl rfl (r_loadAtA0 _f_6.at_ agg25 sz25 rfl) ?_
  refine WL_step rfl rfl (r_move rfl) ?_
  refine WL_s rfl rfl ?_
  have _f_7 := ((_h_aA.ch0 _cw_2).ch0 _cw_3)
  have _f_8 := ((_rd_aN.ch0 _cw_2).ch0 _cw_3)
  have _f_9 := ((_h_saN.ch0 _cw_2).ch0 _cw_3)
  refine Step.call (r_call (xs := [.tmp 10, .tmp 11]) fk15 rfl) (c_laws_szAutomaton _ _f_7 _f_9 _f_8 _ (by omega) (by omega)) fun _v12 _w_10 _q12 => ?_
  obtain ⟨rfl, _cw_10⟩ := _q12
  have _cw_10z := _cw_10.size
  have E := E.trans _cw_10
  refine WL_step rfl rfl (r_assign rfl) ?_
  refine WL_nil ?_
  refine thn_nrm (_hK_5 _ _ ?_)
  clear _hK_5
  refine W_seq fun _K_11 _hK_11 => ?_
  refine W_seq fun _K_12 _hK_12 => ?_
  refine W_region ?_
  refine WL_step rfl rfl (r_move rfl) ?_
  refine WL_step rfl rfl (r_lss rfl rfl) ?_
  refine WL_nil ?_
  refine thn_nrm (_hK_12 _ _ ?_)
  clear _hK_12
  refine W_cond rfl (fun _h14 => ?_) (fun _h14 => ?_)
  · have _h14 := bt_d _h14
    refine W_seq fun _K_13 _hK_13 => ?_
    refine W_region ?_
    refine WL_step rfl rfl (r_assign rfl) ?_
    refine WL_nil ?_
    refine thn_nrm (_hK_13 _ _ ?_)
    clear _hK_13
    refine W_ret (thn_ret ?_)
    clear _hK_11
    exact ret_intro [_] ⟨rfl, trivial⟩ ⟨congrArg Value.bool (by first | rfl | (exfalso; omega) | (exfalso; revert _h14; simp; done) | (exfalso; revert _h14; simp; omega)), E⟩
  · have _h14 := bf_d _h14
    refine W_skip ?_
    refine thn_nrm (_hK_11 _ _ ?_)
    clear _hK_11
    refine W_seq fun _K_14 _hK_14 => ?_
    refine W_region ?_
    have _f_15 := (_m3.ch0 _cw_10)
    refine WL_step rfl rfl (r_loadAtA0 _f_15.at_ agg25 sz25 rfl) ?_
    refine WL_step rfl rfl (r_move rfl) ?_
    refine WL_s rfl rfl ?_
    have _f_16 := (((_h_bA.ch0 _cw_2).ch0 _cw_3).ch0 _cw_10)
    have _f_17 := (((_rd_bN.ch0 _cw_2).ch0 _cw_3).ch0 _cw_10)
    have _f_18 := (((_h_sbN.ch0 _cw_2).ch0 _cw_3).ch0 _cw_10)
    refine Step.call (r_call (xs := [.tmp 15, .tmp 16]) fk15 rfl) (c_laws_szAutomaton _ _f_16 _f_18 _f_17 _ (by omega) (by omega)) fun _v17 _w_19 _q17 => ?_
    obtain ⟨rfl, _cw_19⟩ := _q17
    have _cw_19z := _cw_19.size
    have E := E.trans _cw_19
    refine WL_step rfl rfl (r_assign rfl) ?_
    refine WL_nil ?_
    refine thn_nrm (_hK_14 _ _ ?_)
    clear _hK_14
    refine W_seq fun _K_20 _hK_20 => ?_
    refine W_seq fun _K_21 _hK_21 => ?_
    refine W_region ?_
    refine WL_step rfl rfl (r_move rfl) ?_
    refine WL_step rfl rfl (r_lss rfl rfl) ?_
    refine WL_nil ?_
    refine thn_nrm (_hK_21 _ _ ?_)
    clear _hK_21
    refine W_cond rfl (fun _h19 => ?_) (fun _h19 => ?_)
    · have _h19 := bt_d _h19
      refine W_seq fun _K_22 _hK_22 => ?_
      refine W_region ?_
      refine WL_step rfl rfl (r_assign rfl) ?_
      refine WL_nil ?_
      refine thn_nrm (_hK_22 _ _ ?_)
      clear _hK_22
      refine W_ret (thn_ret ?_)
      clear _hK_20
      exact ret_intro [_] ⟨rfl, trivial⟩ ⟨congrArg Value.bool (by first | rfl | (exfalso; omega) | (exfalso; revert _h19; simp; done) | (exfalso; revert _h19; simp; omega)), E⟩
    · have _h19 := bf_d _h19
      refine W_skip ?_
      refine thn_nrm (_hK_20 _ _ ?_)
      clear _hK_20
      refine W_seq fun _K_23 _hK_23 => ?_
      refine W_drawC [] 6 mixed rfl fun _w_24 _cw_24 => ?_
      have _cw_24z := _cw_24.size
      have E := E.trans _cw_24
      have _f_25 := (((_f_6.ch0 _cw_10).ch0 _cw_19).ch0 _cw_24)
      refine DR_s 0 rfl (by kernel_rfl) rfl rfl (t_loadAtA0 _f_25.at_ (fun i hi => by first | exact absurd hi (List.not_mem_nil) | (have _h1 := List.mem_singleton.1 hi; omega)) agg25 sz25 rfl ?_)
      have _f_26 := ((_f_15.ch0 _cw_19).ch0 _cw_24)
      refine DR_s 2 rfl (by kernel_rfl) rfl rfl (t_loadAtA0 _f_26.at_ (fun i hi => by first | exact absurd hi (List.not_mem_nil) | (have _h1 := List.mem_singleton.1 hi; omega)) agg25 sz25 rfl ?_)
      refine DR_one 1 (by kernel_rfl) ?_
      refine DO_s rfl rfl rfl ?_
      have _f_27 := (((_f_7.ch0 _cw_10).ch0 _cw_19).ch0 _cw_24)
      have _f_28 := (((_f_8.ch0 _cw_10).ch0 _cw_19).ch0 _cw_24)
      have _f_29 := (((_f_9.ch0 _cw_10).ch0 _cw_19).ch0 _cw_24)
      refine Step.call (r_call (xs := [.tmp 20]) fk17 rfl) (c_laws_toAutomaton _ _f_27 _f_29 _f_28 (by omega)) fun _v21 _w_30 _q21 => ?_
      obtain ⟨_u21, _t21, vs21, rfl, _q21, _lo21, _q221, _lo221, od21, _cw_30⟩ := _q21
      have _cw_30z := _cw_30.size
      have E := E.trans _cw_30
      obtain ⟨_Au21, _Cu21, _eu21⟩ := _q21.val
      subst _eu21
      have _lu21 := _q21.len
      have _hiu21 := _q21.lt
      obtain ⟨_At21, _Ct21, _et21⟩ := _q221.val
      subst _et21
      have _lt21 := _q221.len
      have _hit21 := _q221.lt
      have _S_31 : Ch [] _w_24 _w_30 := ((Ch.refl _ _).trans _cw_30.of_nil)
      refine ⟨_S_31, ?_⟩
      refine DR_one 3 (by kernel_rfl) ?_
      refine DO_s rfl rfl rfl ?_
      have _f_32 := (((_f_16.ch0 _cw_19).ch0 _cw_24).ch0 _cw_30)
      have _f_33 := (((_f_17.ch0 _cw_19).ch0 _cw_24).ch0 _cw_30)
      have _f_34 := (((_f_18.ch0 _cw_19).ch0 _cw_24).ch0 _cw_30)
      refine Step.call (r_call (xs := [.tmp 22]) fk17 rfl) (c_laws_toAutomaton _ _f_32 _f_34 _f_33 (by omega)) fun _v23 _w_35 _q23 => ?_
      obtain ⟨_u23, _t23, vs23, rfl, _q23, _lo23, _q223, _lo223, od23, _cw_35⟩ := _q23
      have _cw_35z := _cw_35.size
      have E := E.trans _cw_35
      obtain ⟨_Au23, _Cu23, _eu23⟩ := _q23.val
      subst _eu23
      have _lu23 := _q23.len
      have _hiu23 := _q23.lt
      obtain ⟨_At23, _Ct23, _et23⟩ := _q223.val
      subst _et23
      have _lt23 := _q223.len
      have _hit23 := _q223.lt
      have _S_36 : Ch [] _w_24 _w_35 := (_S_31.trans _cw_35.of_nil)
      refine ⟨_S_36, ?_⟩
      refine DR_one 4 (by kernel_rfl) ?_
      refine DO_s rfl rfl rfl ?_
      have _f_37 := (_q21.ch0 _cw_35)
      have _f_38 := (od21.ch0 _cw_35)
      have _f_39 := (_q221.ch0 _cw_35)
      refine Step.call (r_call (xs := [.tmp 21, .tmp 23]) fk22 rfl) (c_spec_EqualAutomata _ _f_37.ls _f_39.ls _f_38.rd _ _q23.ls _q223.ls od23.rd ) fun _v24 _w_40 _q24 => ?_
      obtain ⟨rfl, _cw_40⟩ := _q24
      have _cw_40z := _cw_40.size
      have E := E.trans _cw_40
      have _S_41 : Ch [] _w_24 _w_40 := (_S_36.trans _cw_40.of_nil)
      refine ⟨_S_41, ?_⟩
      refine DR_s 5 rfl (by kernel_rfl) rfl rfl (t_v (fun _ => (r_assign rfl)) ?_)
      refine DR_done (by kernel_rfl) ?_
      refine thn_nrm (_hK_23 _ _ ?_)
      clear _hK_23
      refine W_seq fun _K_42 _hK_42 => ?_
      refine W_region ?_
      have _f_43 := (((_f_25.ch0 _cw_30).ch0 _cw_35).ch0 _cw_40)
      refine WL_step rfl rfl (r_loadAtA0 _f_43.at_ agg25 sz25 rfl) ?_
      refine WL_s rfl rfl ?_
      have _f_44 := (((_f_27.ch0 _cw_30).ch0 _cw_35).ch0 _cw_40)
      have _f_45 := (((_f_28.ch0 _cw_30).ch0 _cw_35).ch0 _cw_40)
      have _f_46 := (((_f_29.ch0 _cw_30).ch0 _cw_35).ch0 _cw_40)
      refine Step.call (r_call (xs := [.tmp 25]) fk17 rfl) (c_laws_toAutomaton _ _f_44 _f_46 _f_45 (by omega)) fun _v26 _w_47 _q26 => ?_
      obtain ⟨_u26, _t26, vs26, rfl, _q26, _lo26, _q226, _lo226, od26, _cw_47⟩ := _q26
      have _cw_47z := _cw_47.size
      have E := E.trans _cw_47
      obtain ⟨_Au26, _Cu26, _eu26⟩ := _q26.val
      subst _eu26
      have _lu26 := _q26.len
      have _hiu26 := _q26.lt
      obtain ⟨_At26, _Ct26, _et26⟩ := _q226.val
      subst _et26
      have _lt26 := _q226.len
      have _hit26 := _q226.lt
      refine WL_s rfl rfl ?_
      refine s_alloc zr28 fun _b7 _w_48 _m7 _cw_48 _e7 => ?_
      have _cw_48z := _cw_48.size
      have E := E.trans _cw_48
      have _z7 := _m7.lt
      replace _m7 : Blk _w_48 _b7 28 [(.int .i64 0), (.slice none 0 0), (.slice none 0 0)] := _m7
      refine WL_s rfl rfl ?_
      refine s_storeA (off := 0) 3 _m7 sz28 rfl (us := [(.int .i64 aS), (.slice _Au26 (aA).length _Cu26), (.slice _At26 (vs26).length _Ct26)]) rfl rfl rfl rfl fun _w_49 _m_50 _cw_49 => ?_
      have _cw_49z := _cw_49.size
      have E := E.step _cw_49 (fun i hi => .inl (by have _h1 := List.mem_singleton.1 hi; omega))
      replace _m_50 : Blk _w_49 _b7 28 [(.int .i64 aS), (.slice _Au26 (aA).length _Cu26), (.slice _At26 (vs26).length _Ct26)] := _m_50
      refine WL_nil ?_
      refine thn_nrm (_hK_42 _ _ ?_)
      clear _hK_42
      refine W_seq fun _K_51 _hK_51 => ?_
      refine W_region ?_
      have _f_52 := ((((((_f_26.ch0 _cw_30).ch0 _cw_35).ch0 _cw_40).ch0 _cw_47).ch0 _cw_48).ch _cw_49 (fun hm => by have _h1 := List.mem_singleton.1 hm; omega))
      refine WL_step rfl rfl (r_loadAtA0 _f_52.at_ agg25 sz25 rfl) ?_
      refine WL_s rfl rfl ?_
      have _f_53 := (((((_f_32.ch0 _cw_35).ch0 _cw_40).ch0 _cw_47).ch0 _cw_48).ch _cw_49 (fun i hi => by have _h1 := List.mem_singleton.1 hi; omega))
      have _f_54 := (((((_f_33.ch0 _cw_35).ch0 _cw_40).ch0 _cw_47).ch0 _cw_48).ch _cw_49 (fun i hi => by have _h1 := List.mem_singleton.1 hi; omega))
      have _f_55 := (((((_f_34.ch0 _cw_35).ch0 _cw_40).ch0 _cw_47).ch0 _cw_48).ch _cw_49 (fun i hi => by have _h1 := List.mem_singleton.1 hi; omega))
      refine Step.call (r_call (xs := [.tmp 27]) fk17 rfl) (c_laws_toAutomaton _ _f_53 _f_55 _f_54 (by omega)) fun _v28 _w_56 _q28 => ?_
      obtain ⟨_u28, _t28, vs28, rfl, _q28, _lo28, _q228, _lo228, od28, _cw_56⟩ := _q28
      have _cw_56z := _cw_56.size
      have E := E.trans _cw_56
      obtain ⟨_Au28, _Cu28, _eu28⟩ := _q28.val
      subst _eu28
      have _lu28 := _q28.len
      have _hiu28 := _q28.lt
      obtain ⟨_At28, _Ct28, _et28⟩ := _q228.val
      subst _et28
      have _lt28 := _q228.len
      have _hit28 := _q228.lt
      refine WL_s rfl rfl ?_
      refine s_alloc zr28 fun _b8 _w_57 _m8 _cw_57 _e8 => ?_
      have _cw_57z := _cw_57.size
      have E := E.trans _cw_57
      have _z8 := _m8.lt
      replace _m8 : Blk _w_57 _b8 28 [(.int .i64 0), (.slice none 0 0), (.slice none 0 0)] := _m8
      refine WL_s rfl rfl ?_
      refine s_storeA (off := 0) 3 _m8 sz28 rfl (us := [(.int .i64 bS), (.slice _Au28 (bA).length _Cu28), (.slice _At28 (vs28).length _Ct28)]) rfl rfl rfl rfl fun _w_58 _m_59 _cw_58 => ?_
      have _cw_58z := _cw_58.size
      have E := E.step _cw_58 (fun i hi => .inl (by have _h1 := List.mem_singleton.1 hi; omega))
      replace _m_59 : Blk _w_58 _b8 28 [(.int .i64 bS), (.slice _Au28 (bA).length _Cu28), (.slice _At28 (vs28).length _Ct28)] := _m_59
      refine WL_nil ?_
      refine thn_nrm (_hK_51 _ _ ?_)
      clear _hK_51
      refine W_seq fun _K_60 _hK_60 => ?_
      refine W_region ?_
      have _f_61 := (((_m_50.ch0 _cw_56).ch0 _cw_57).ch _cw_58 (fun hm => by have _h1 := List.mem_singleton.1 hm; omega))
      refine WL_step rfl rfl (r_loadAtA0 _f_61.at_ agg28 sz28 rfl) ?_
      refine WL_step rfl rfl (r_loadAtA0 _m_59.at_ agg28 sz28 rfl) ?_
      refine WL_s rfl rfl ?_
      have _f_62 := (((((_q26.ch0 _cw_48).ch _cw_49 (fun g hg hm => by have _h0 := List.mem_singleton.1 hm; have _h2 := _lo26 _ hg; have _h3 := _hiu26 _ hg; omega)).ch0 _cw_56).ch0 _cw_57).ch _cw_58 (fun g hg hm => by have _h0 := List.mem_singleton.1 hm; have _h2 := _lo26 _ hg; have _h3 := _hiu26 _ hg; omega))
      have _f_63 := (((((od26.ch0 _cw_48).ch _cw_49 (fun i hi => by have _h1 := List.mem_singleton.1 hi; omega)).ch0 _cw_56).ch0 _cw_57).ch _cw_58 (fun i hi => by have _h1 := List.mem_singleton.1 hi; omega))
      have _f_64 := (((((_q226.ch0 _cw_48).ch _cw_49 (fun g hg hm => by have _h0 := List.mem_singleton.1 hm; have _h2 := _lo226 _ hg; have _h3 := _hit26 _ hg; omega)).ch0 _cw_56).ch0 _cw_57).ch _cw_58 (fun g hg hm => by have _h0 := List.mem_singleton.1 hm; have _h2 := _lo226 _ hg; have _h3 := _hit26 _ hg; omega))
      have _f_65 := ((_q28.ch0 _cw_57).ch _cw_58 (fun g hg hm => by have _h0 := List.mem_singleton.1 hm; have _h2 := _lo28 _ hg; have _h3 := _hiu28 _ hg; omega))
      have _f_66 := ((od28.ch0 _cw_57).ch _cw_58 (fun i hi => by have _h1 := List.mem_singleton.1 hi; omega))
      have _f_67 := ((_q228.ch0 _cw_57).ch _cw_58 (fun g hg hm => by have _h0 := List.mem_singleton.1 hm; have _h2 := _lo228 _ hg; have _h3 := _hit28 _ hg; omega))
      refine Step.call (r_call (xs := [.tmp 29, .tmp 30]) fk23 rfl) (c_impl_EqualAutomata _ _f_62.ls _f_64.ls _f_63.rd _ _f_65.ls _f_67.ls _f_66.rd ) fun _v31 _w_68 _q31 => ?_
      obtain ⟨rfl, _cw_68⟩ := _q31
      have _cw_68z := _cw_68.size
      have E := E.trans _cw_68
      refine WL_step rfl rfl (r_assign rfl) ?_
      refine WL_nil ?_
      refine thn_nrm (_hK_60 _ _ ?_)
      clear _hK_60
      refine W_seq fun _K_69 _hK_69 => ?_
      refine W_seq fun _K_70 _hK_70 => ?_
      refine W_region ?_
      refine WL_step rfl rfl (r_move rfl) ?_
      refine WL_step rfl rfl (r_move rfl) ?_
      refine WL_step rfl rfl (r_neqB un4 rfl rfl) ?_
      refine WL_nil ?_
      refine thn_nrm (_hK_70 _ _ ?_)
      clear _hK_70
      refine W_cond rfl (fun _h34 => ?_) (fun _h34 => ?_)
      · have _h34 := bf_e (bt_n _h34)
        refine W_seq fun _K_71 _hK_71 => ?_
        refine W_region ?_
        refine WL_step rfl rfl (r_assign rfl) ?_
        refine WL_nil ?_
        refine thn_nrm (_hK_71 _ _ ?_)
        clear _hK_71
        refine W_ret (thn_ret ?_)
        clear _hK_69
        exact ret_intro [_] ⟨rfl, trivial⟩ ⟨congrArg Value.bool (by first | rfl | (exfalso; omega) | (exfalso; revert _h34; simp; done) | (exfalso; revert _h34; simp; omega)), E⟩
      · have _h34 := bt_e (bf_n _h34)
        refine W_skip ?_
        refine thn_nrm (_hK_69 _ _ ?_)
        clear _hK_69
        refine W_seq fun _K_72 _hK_72 => ?_
        refine W_seq fun _K_73 _hK_73 => ?_
        refine W_drawC [] 5 mixed rfl fun _w_74 _cw_74 => ?_
        have _cw_74z := _cw_74.size
        have E := E.trans _cw_74
        have _f_75 := ((_f_61.ch0 _cw_68).ch0 _cw_74)
        refine DR_s 0 rfl (by kernel_rfl) rfl rfl (t_loadAtA0 _f_75.at_ (fun i hi => by first | exact absurd hi (List.not_mem_nil) | (have _h1 := List.mem_singleton.1 hi; omega)) agg28 sz28 rfl ?_)
        have _f_76 := ((((((((_f_43.ch0 _cw_47).ch0 _cw_48).ch _cw_49 (fun hm => by have _h1 := List.mem_singleton.1 hm; omega)).ch0 _cw_56).ch0 _cw_57).ch _cw_58 (fun hm => by have _h1 := List.mem_singleton.1 hm; omega)).ch0 _cw_68).ch0 _cw_74)
        refine DR_s 1 rfl (by kernel_rfl) rfl rfl (t_loadAtA0 _f_76.at_ (fun i hi => by first | exact absurd hi (List.not_mem_nil) | (have _h1 := List.mem_singleton.1 hi; omega)) agg25 sz25 rfl ?_)
        refine DR_one 2 (by kernel_rfl) ?_
        refine DO_s rfl rfl rfl ?_
        have _f_77 := ((((((((_f_44.ch0 _cw_47).ch0 _cw_48).ch _cw_49 (fun i hi => by have _h1 := List.mem_singleton.1 hi; omega)).ch0 _cw_56).ch0 _cw_57).ch _cw_58 (fun i hi => by have _h1 := List.mem_singleton.1 hi; omega)).ch0 _cw_68).ch0 _cw_74)
        have _f_78 := ((((((((_f_45.ch0 _cw_47).ch0 _cw_48).ch _cw_49 (fun i hi => by have _h1 := List.mem_singleton.1 hi; omega)).ch0 _cw_56).ch0 _cw_57).ch _cw_58 (fun i hi => by have _h1 := List.mem_singleton.1 hi; omega)).ch0 _cw_68).ch0 _cw_74)
        have _f_79 := ((((((((_f_46.ch0 _cw_47).ch0 _cw_48).ch _cw_49 (fun i hi => by have _h1 := List.mem_singleton.1 hi; omega)).ch0 _cw_56).ch0 _cw_57).ch _cw_58 (fun i hi => by have _h1 := List.mem_singleton.1 hi; omega)).ch0 _cw_68).ch0 _cw_74)
        refine Step.call (r_call (xs := [.tmp 36]) fk17 rfl) (c_laws_toAutomaton _ _f_77 _f_79 _f_78 (by omega)) fun _v37 _w_80 _q37 => ?_
        obtain ⟨_u37, _t37, vs37, rfl, _q37, _lo37, _q237, _lo237, od37, _cw_80⟩ := _q37
        have _cw_80z := _cw_80.size
        have E := E.trans _cw_80
        obtain ⟨_Au37, _Cu37, _eu37⟩ := _q37.val
        subst _eu37
        have _lu37 := _q37.len
        have _hiu37 := _q37.lt
        obtain ⟨_At37, _Ct37, _et37⟩ := _q237.val
        subst _et37
        have _lt37 := _q237.len
        have _hit37 := _q237.lt
        have _S_81 : Ch [] _w_74 _w_80 := ((Ch.refl _ _).trans _cw_80.of_nil)
        refine ⟨_S_81, ?_⟩
        refine DR_one 3 (by kernel_rfl) ?_
        refine DO_s rfl rfl rfl ?_
        have _f_82 := (((_f_62.ch0 _cw_68).ch0 _cw_74).ch0 _cw_80)
        have _f_83 := (((_f_63.ch0 _cw_68).ch0 _cw_74).ch0 _cw_80)
        have _f_84 := (((_f_64.ch0 _cw_68).ch0 _cw_74).ch0 _cw_80)
        refine Step.call (r_call (xs := [.tmp 35, .tmp 37]) fk19 rfl) (c_laws_eqAutomaton _ _f_82.ls _f_84.ls _f_83.rd _ _q37.ls _q237.ls od37.rd ) fun _v38 _w_85 _q38 => ?_
        obtain ⟨rfl, _cw_85⟩ := _q38
        have _cw_85z := _cw_85.size
        have E := E.trans _cw_85
        have _S_86 : Ch [] _w_74 _w_85 := (_S_81.trans _cw_85.of_nil)
        refine ⟨_S_86, ?_⟩
        refine DR_s 4 rfl (by kernel_rfl) rfl rfl (t_v (fun _ => (r_not rfl)) ?_)
        refine DR_done (by kernel_rfl) ?_
        refine thn_nrm (_hK_73 _ _ ?_)
        clear _hK_73
        refine W_cond rfl (fun _h39 => ?_) (fun _h39 => ?_)
        · have _h39 := bf_d (bt_n _h39)
          refine W_seq fun _K_87 _hK_87 => ?_
          refine W_region ?_
          refine WL_step rfl rfl (r_assign rfl) ?_
          refine WL_nil ?_
          refine thn_nrm (_hK_87 _ _ ?_)
          clear _hK_87
          refine W_ret (thn_ret ?_)
          clear _hK_72
          exact ret_intro [_] ⟨rfl, trivial⟩ ⟨congrArg Value.bool (by first | rfl | (exfalso; omega) | (exfalso; revert _h39; simp; done) | (exfalso; revert _h39; simp; omega)), E⟩
        · have _h39 := bt_d (bf_n _h39)
          refine W_skip ?_
          refine thn_nrm (_hK_72 _ _ ?_)
          clear _hK_72
          refine W_seq fun _K_88 _hK_88 => ?_
          refine W_seq fun _K_89 _hK_89 => ?_
          refine W_drawC [] 5 mixed rfl fun _w_90 _cw_90 => ?_
          have _cw_90z := _cw_90.size
          have E := E.trans _cw_90
          have _f_91 := (((((_m_59.ch0 _cw_68).ch0 _cw_74).ch0 _cw_80).ch0 _cw_85).ch0 _cw_90)
          refine DR_s 0 rfl (by kernel_rfl) rfl rfl (t_loadAtA0 _f_91.at_ (fun i hi => by first | exact absurd hi (List.not_mem_nil) | (have _h1 := List.mem_singleton.1 hi; omega)) agg28 sz28 rfl ?_)
          have _f_92 := ((((((((_f_52.ch0 _cw_56).ch0 _cw_57).ch _cw_58 (fun hm => by have _h1 := List.mem_singleton.1 hm; omega)).ch0 _cw_68).ch0 _cw_74).ch0 _cw_80).ch0 _cw_85).ch0 _cw_90)
          refine DR_s 1 rfl (by kernel_rfl) rfl rfl (t_loadAtA0 _f_92.at_ (fun i hi => by first | exact absurd hi (List.not_mem_nil) | (have _h1 := List.mem_singleton.1 hi; omega)) agg25 sz25 rfl ?_)
          refine DR_one 2 (by kernel_rfl) ?_
          refine DO_s rfl rfl rfl ?_
          have _f_93 := ((((((((_f_53.ch0 _cw_56).ch0 _cw_57).ch _cw_58 (fun i hi => by have _h1 := List.mem_singleton.1 hi; omega)).ch0 _cw_68).ch0 _cw_74).ch0 _cw_80).ch0 _cw_85).ch0 _cw_90)
          have _f_94 := ((((((((_f_54.ch0 _cw_56).ch0 _cw_57).ch _cw_58 (fun i hi => by have _h1 := List.mem_singleton.1 hi; omega)).ch0 _cw_68).ch0 _cw_74).ch0 _cw_80).ch0 _cw_85).ch0 _cw_90)
          have _f_95 := ((((((((_f_55.ch0 _cw_56).ch0 _cw_57).ch _cw_58 (fun i hi => by have _h1 := List.mem_singleton.1 hi; omega)).ch0 _cw_68).ch0 _cw_74).ch0 _cw_80).ch0 _cw_85).ch0 _cw_90)
          refine Step.call (r_call (xs := [.tmp 41]) fk17 rfl) (c_laws_toAutomaton _ _f_93 _f_95 _f_94 (by omega)) fun _v42 _w_96 _q42 => ?_
          obtain ⟨_u42, _t42, vs42, rfl, _q42, _lo42, _q242, _lo242, od42, _cw_96⟩ := _q42
          have _cw_96z := _cw_96.size
          have E := E.trans _cw_96
          obtain ⟨_Au42, _Cu42, _eu42⟩ := _q42.val
          subst _eu42
          have _lu42 := _q42.len
          have _hiu42 := _q42.lt
          obtain ⟨_At42, _Ct42, _et42⟩ := _q242.val
          subst _et42
          have _lt42 := _q242.len
          have _hit42 := _q242.lt
          have _S_97 : Ch [] _w_90 _w_96 := ((Ch.refl _ _).trans _cw_96.of_nil)
          refine ⟨_S_97, ?_⟩
          refine DR_one 3 (by kernel_rfl) ?_
          refine DO_s rfl rfl rfl ?_
          have _f_98 := ((((((_f_65.ch0 _cw_68).ch0 _cw_74).ch0 _cw_80).ch0 _cw_85).ch0 _cw_90).ch0 _cw_96)
          have _f_99 := ((((((_f_66.ch0 _cw_68).ch0 _cw_74).ch0 _cw_80).ch0 _cw_85).ch0 _cw_90).ch0 _cw_96)
          have _f_100 := ((((((_f_67.ch0 _cw_68).ch0 _cw_74).ch0 _cw_80).ch0 _cw_85).ch0 _cw_90).ch0 _cw_96)
          refine Step.call (r_call (xs := [.tmp 40, .tmp 42]) fk19 rfl) (c_laws_eqAutomaton _ _f_98.ls _f_100.ls _f_99.rd _ _q42.ls _q242.ls od42.rd ) fun _v43 _w_101 _q43 => ?_
          obtain ⟨rfl, _cw_101⟩ := _q43
          have _cw_101z := _cw_101.size
          have E := E.trans _cw_101
          have _S_102 : Ch [] _w_90 _w_101 := (_S_97.trans _cw_101.of_nil)
          refine ⟨_S_102, ?_⟩
          refine DR_s 4 rfl (by kernel_rfl) rfl rfl (t_v (fun _ => (r_not rfl)) ?_)
          refine DR_done (by kernel_rfl) ?_
          refine thn_nrm (_hK_89 _ _ ?_)
          clear _hK_89
          refine W_cond rfl (fun _h44 => ?_) (fun _h44 => ?_)
          · have _h44 := bf_d (bt_n _h44)
            refine W_seq fun _K_103 _hK_103 => ?_
            refine W_region ?_
            refine WL_step rfl rfl (r_assign rfl) ?_
            refine WL_nil ?_
            refine thn_nrm (_hK_103 _ _ ?_)
            clear _hK_103
            refine W_ret (thn_ret ?_)
            clear _hK_88
            exact ret_intro [_] ⟨rfl, trivial⟩ ⟨congrArg Value.bool (by first | rfl | (exfalso; omega) | (exfalso; revert _h44; simp; done) | (exfalso; revert _h44; simp; omega)), E⟩
          · have _h44 := bt_d (bf_n _h44)
            refine W_skip ?_
            refine thn_nrm (_hK_88 _ _ ?_)
            clear _hK_88
            refine W_seq fun _K_104 _hK_104 => ?_
            refine W_region ?_
            refine WL_step rfl rfl (r_assign rfl) ?_
            refine WL_nil ?_
            refine thn_nrm (_hK_104 _ _ ?_)
            clear _hK_104
            refine W_ret ?_
            exact ret_intro [_] ⟨rfl, trivial⟩ ⟨congrArg Value.bool (by first | rfl | (exfalso; omega) | (exfalso; revert _h44; simp; done) | (exfalso; revert _h44; simp; omega)), E⟩

end Go.Proofs.Ytdhadlkeogoiiaa
