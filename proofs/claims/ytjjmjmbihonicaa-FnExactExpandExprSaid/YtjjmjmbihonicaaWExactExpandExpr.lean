/- Walks of functions that FnExactExpandExpr reaches: what each returns, and that it leaves the memory that was there alone. -/
import Derived.Test.YtjjmjmbihonicaaKF
import Derived.Test.YtjjmjmbihonicaaKG
import Derived.Test.YtjjmjmbihonicaaKH
import Derived.Test.YtjjmjmbihonicaaKI
import Derived.Test.YtjjmjmbihonicaaKJ
import Derived.Test.YtjjmjmbihonicaaKM
import Derived.Test.YtjjmjmbihonicaaKN
import Derived.Test.YtjjmjmbihonicaaKO
import Derived.Test.YtjjmjmbihonicaaKP
import Derived.Test.YtjjmjmbihonicaaKQ
import Derived.Test.YtjjmjmbihonicaaKR
import Derived.Test.YtjjmjmbihonicaaKS
import Derived.Test.YtjjmjmbihonicaaKT
import Derived.Test.YtjjmjmbihonicaaKU
import Derived.Test.YtjjmjmbihonicaaKV
import Derived.Test.YtjjmjmbihonicaaKX
import Derived.Test.YtjjmjmbihonicaaKY
import Derived.Test.YtjjmjmbihonicaaKZ
import Derived.Test.YtjjmjmbihonicaaJA
import Derived.Test.YtjjmjmbihonicaaWExactDerivativeWord
import Derived.Test.YtjjmjmbihonicaaWExactDerivativeWordb
import Derived.Test.YtjjmjmbihonicaaWExactDerivativeWordc
import Derived.Test.YtjjmjmbihonicaaProg
namespace Go.Proofs.Ytjjmjmbihonicaa
open Go.KLib
set_option maxRecDepth 20000
set_option linter.unusedVariables false
set_option linter.unusedSimpArgs false
namespace TExactExpandExpr
theorem agg24 : aggB Try.prog 24 = some true := by kernel_rfl
theorem agg27 : aggB Try.prog 27 = some false := by kernel_rfl
theorem agg29 : aggB Try.prog 29 = some true := by kernel_rfl
theorem agg3 : aggB Try.prog 3 = some false := by kernel_rfl
theorem agg57 : aggB Try.prog 57 = some true := by kernel_rfl
theorem agg59 : aggB Try.prog 59 = some false := by kernel_rfl
theorem agg66 : aggB Try.prog 66 = some false := by kernel_rfl
theorem by59 : bytesB Try.prog 59 = some 8 := by kernel_rfl
theorem el27 : elB Try.prog 27 = some 57 := by kernel_rfl
theorem el66 : elB Try.prog 66 = some 59 := by kernel_rfl
theorem fa29_0 : faB Try.prog 29 0 = some 0 := by kernel_rfl
theorem fa57_0 : faB Try.prog 57 0 = some 0 := by kernel_rfl
theorem fa57_2 : faB Try.prog 57 2 = some 2 := by kernel_rfl
theorem fa57_3 : faB Try.prog 57 3 = some 3 := by kernel_rfl
theorem fa68_0 : faB Try.prog 68 0 = some 0 := by kernel_rfl
theorem fa68_1 : faB Try.prog 68 1 = some 4 := by kernel_rfl
theorem fk117 : fnB Try.prog 117 = true := by kernel_rfl
theorem fk14 : fnB Try.prog 14 = true := by kernel_rfl
theorem fk15 : fnB Try.prog 15 = true := by kernel_rfl
theorem fk16 : fnB Try.prog 16 = true := by kernel_rfl
theorem fk17 : fnB Try.prog 17 = true := by kernel_rfl
theorem fk18 : fnB Try.prog 18 = true := by kernel_rfl
theorem fk19 : fnB Try.prog 19 = true := by kernel_rfl
theorem fk20 : fnB Try.prog 20 = true := by kernel_rfl
theorem fk25 : fnB Try.prog 25 = true := by kernel_rfl
theorem fk26 : fnB Try.prog 26 = true := by kernel_rfl
theorem fk36 : fnB Try.prog 36 = true := by kernel_rfl
theorem fk37 : fnB Try.prog 37 = true := by kernel_rfl
theorem fk51 : fnB Try.prog 51 = true := by kernel_rfl
theorem fk56 : fnB Try.prog 56 = true := by kernel_rfl
theorem fk57 : fnB Try.prog 57 = true := by kernel_rfl
theorem fk67 : fnB Try.prog 67 = true := by kernel_rfl
theorem fk68 : fnB Try.prog 68 = true := by kernel_rfl
theorem fk69 : fnB Try.prog 69 = true := by kernel_rfl
theorem fk70 : fnB Try.prog 70 = true := by kernel_rfl
theorem fk88 : fnB Try.prog 88 = true := by kernel_rfl
theorem fk97 : fnB Try.prog 97 = true := by kernel_rfl
theorem fk98 : fnB Try.prog 98 = true := by kernel_rfl
theorem fk99 : fnB Try.prog 99 = true := by kernel_rfl
theorem mixed : Try.prog.follows .mixedOrders = true := by kernel_rfl
theorem pl29 : placesB Try.prog 29 = some [(0, 1)] := by kernel_rfl
theorem pl57 : placesB Try.prog 57 = some [(0, 1), (1, 1), (2, 1), (3, 1)] := by kernel_rfl
theorem pl68 : placesB Try.prog 68 = some [(0, 4), (4, 1)] := by kernel_rfl
theorem sz24 : sizeB Try.prog 24 = some 1 := by kernel_rfl
theorem sz29 : sizeB Try.prog 29 = some 1 := by kernel_rfl
theorem sz57 : sizeB Try.prog 57 = some 4 := by kernel_rfl
theorem sz59 : sizeB Try.prog 59 = some 1 := by kernel_rfl
theorem sz66 : sizeB Try.prog 66 = some 1 := by kernel_rfl
theorem un4 : Try.prog.underlying 4 = some (.bool) := by kernel_rfl
theorem zr29 : zeroB Try.prog 29 = some (.agg #[.slice none 0 0]) := by kernel_rfl
theorem zr57 : zeroB Try.prog 57 = some (.agg #[.int .i64 0, .int .i64 0, .int .i64 0, .int .i64 0]) := by kernel_rfl
theorem zr59 : zeroB Try.prog 59 = some (.pointer none) := by kernel_rfl
theorem zr68 : zeroB Try.prog 68 = some (.agg #[.int .i64 0, .int .i64 0, .int .i64 0, .int .i64 0, .slice none 0 0]) := by kernel_rfl
end TExactExpandExpr
open TExactExpandExpr

/-- impl.IsValidExpr -/
theorem c_impl_IsValidExpr {w : World} {LL_e _B_e : Nat} {_v_e : Value} {e : List Token} (_h_e : Ls Token.cs 4 w LL_e _B_e _v_e e) (hb : e.length ≤ 1048576) :
    Ctr Try.prog 20 #[(.agg #[_v_e])] w (fun v w' => v = .bool (ivE e) ∧ Ch [] w w') := by
  obtain ⟨_A_e, _C_e, _e1_e⟩ := _h_e.val
  subst _e1_e
  have _l_e := _h_e.len
  have _h_e := _h_e.here (by decide)
  have E := Ch.refl [] w
  refine Ctr_of_W (N := 11) (vs0 := [(.agg #[(.slice _A_e e.length _C_e)])]) Try.func20 rfl rfl rfl ?_
  refine W_seq fun _K_1 _hK_1 => ?_
  refine W_region ?_
  refine WL_s rfl rfl ?_
  refine s_box rfl fun _b1 _w_2 _m1 _cw_2 _e1 => ?_
  have _cw_2z := _cw_2.size
  have E := E.trans _cw_2
  have _z1 := _m1.lt
  replace _m1 : Blk _w_2 _b1 29 [(.slice _A_e e.length _C_e)] := _m1
  refine WL_step rfl rfl (r_assign rfl) ?_
  refine WL_nil ?_
  refine thn_nrm (_hK_1 _ _ ?_)
  clear _hK_1
  refine W_seq fun _K_3 _hK_3 => ?_
  refine W_region ?_
  refine WL_step rfl rfl (r_fieldAddr fa29_0 rfl) ?_
  refine WL_step rfl rfl (r_loadAt _m1.at_ agg27 rfl rfl) ?_
  refine WL_step rfl rfl (r_len (by rw [el27]; rfl) rfl) ?_
  refine WL_step rfl rfl (r_leq rfl rfl) ?_
  refine WL_step rfl rfl (r_move rfl) ?_
  refine WL_split (d := 7) rfl (fun _h7 => ?_) (fun _h7 => ?_)
  · have _kb_4 := _h7
    have _h7 := bt_d _h7
    refine WL_step rfl rfl (r_loadAtA0 _m1.at_ agg29 sz29 rfl) ?_
    refine WL_s rfl rfl ?_
    have _f_5 := (_h_e.ch0 _cw_2)
    refine Step.call (r_call (xs := [.tmp 8]) fk17 rfl) (c_impl_IsExpr _f_5 (by omega)) fun _v9 _w_6 _q9 => ?_
    obtain ⟨rfl, _cw_6⟩ := _q9
    have _cw_6z := _cw_6.size
    have E := E.trans _cw_6
    refine WL_step rfl rfl (r_pickT rfl rfl) ?_
    refine WL_step rfl rfl (r_assign rfl) ?_
    refine WL_nil ?_
    refine thn_nrm (_hK_3 _ _ ?_)
    clear _hK_3
    refine W_ret ?_
    exact ret_intro [_] ⟨rfl, trivial⟩ ⟨congrArg Value.bool (by unfold ivE; first | (rw [decide_eq_true (by omega)]; rfl) | (rw [decide_eq_false (by omega)]; rfl)), E⟩
  · have _kb_4 := _h7
    have _h7 := bf_d _h7
    refine WL_skip rfl rfl ?_
    refine WL_skip rfl rfl ?_
    refine WL_step rfl rfl (r_pickF rfl rfl) ?_
    refine WL_step rfl rfl (r_assign rfl) ?_
    refine WL_nil ?_
    refine thn_nrm (_hK_3 _ _ ?_)
    clear _hK_3
    refine W_ret ?_
    exact ret_intro [_] ⟨rfl, trivial⟩ ⟨congrArg Value.bool (by unfold ivE; first | (rw [decide_eq_true (by omega)]; rfl) | (rw [decide_eq_false (by omega)]; rfl)), E⟩

/-- impl.tree).bound -/
theorem c_impl_tree_bound_n : ∀ (n : Nat) {w : World} {LT_x _B_x : Nat} {p_x : Addr} {x : Tr} (_h_x : TrAt w LT_x _B_x p_x x) (hok : Okd x) (hsz : x.sz < n),
    Ctr Try.prog 69 #[(.pointer (some p_x))] w (fun v w' => v = .int .i64 (bndT x) ∧ Ch [] w w') := by
  intro n
  induction n with
  | zero => intros; omega
  | succ n ih =>
  intro w LT_x _B_x p_x x _h_x hok hsz
  have _h_x := _h_x.here
  obtain ⟨_A_x, _C_x, _ps_x, _hc_x, _hk_x, _kd_x⟩ := _h_x.open
  have _kl_x := _kd_x.1
  have E := Ch.refl [] w
  have k2 := x.kids_le
  refine Ctr_of_W (N := 39) (vs0 := [(.pointer (some p_x))]) Try.func69 rfl rfl rfl ?_
  refine W_seq fun _K_1 _hK_1 => ?_
  refine W_region ?_
  refine WL_step rfl rfl (r_assign rfl) ?_
  refine WL_nil ?_
  refine thn_nrm (_hK_1 _ _ ?_)
  clear _hK_1
  refine W_seq fun _K_2 _hK_2 => ?_
  refine W_region ?_
  refine WL_step rfl rfl (r_assign rfl) ?_
  refine WL_nil ?_
  refine thn_nrm (_hK_2 _ _ ?_)
  clear _hK_2
  refine W_seq fun _K_3 _hK_3 => ?_
  refine W_seq fun _K_4 _hK_4 => ?_
  refine W_region ?_
  refine WL_step rfl rfl (r_move rfl) ?_
  refine WL_step rfl rfl (r_nilCheck rfl) ?_
  refine WL_step rfl rfl (r_fieldAddr fa68_1 rfl) ?_
  refine WL_step rfl rfl (r_loadAt _hc_x agg66 rfl rfl) ?_
  refine WL_step rfl rfl (r_len (by rw [el66]; rfl) rfl) ?_
  refine WL_step rfl rfl (r_move rfl) ?_
  refine WL_nil ?_
  refine thn_nrm (_hK_4 _ _ ?_)
  clear _hK_4
  refine W_block ?_
  refine W_loop (σ := Nat × Int) (fun ⟨i, n⟩ => [(0, (.pointer (some p_x))), (2, (.int .i64 0)), (3, (.int .i64 n)), (9, (.slice _A_x _ps_x.length _C_x)), (10, (.int .i64 ((_ps_x.length : Nat) : Int))), (11, (.int .i64 ((i : Nat) : Int)))]) (fun ⟨i, n⟩ wx => Ch [] w wx ∧ w.heap.size ≤ wx.heap.size ∧ (i ≤ x.kids.length) ∧ (n = 1 + bndS x i)) (fun ⟨i, n⟩ => x.kids.length - i) (0, 1) (Sub.cons rfl (Sub.cons rfl (Sub.cons rfl (Sub.cons rfl (Sub.cons rfl (Sub.cons rfl (Sub.nil _))))))) ⟨E, (Nat.le_refl _), (by omega), (by simp [bndS])⟩ ?_
  rintro ⟨i, n⟩ _wr_5 ⟨E, _zz0, hi, hn⟩
  have _E0h := E
  have _E0hz := _E0h.size
  have rs := bndS_rng (i := i) hok
  refine W_seq fun _K_6 _hK_6 => ?_
  refine W_region ?_
  refine WL_step rfl rfl (r_lss rfl rfl) ?_
  refine WL_nil ?_
  refine thn_nrm (_hK_6 _ _ ?_)
  clear _hK_6
  refine W_seq fun _K_7 _hK_7 => ?_
  refine W_cond rfl (fun _h12 => ?_) (fun _h12 => ?_)
  · have _kb_8 := _h12
    have _h12 := bt_d _h12
    refine W_skip ?_
    refine thn_nrm (_hK_7 _ _ ?_)
    clear _hK_7
    refine W_seq fun _K_9 _hK_9 => ?_
    refine W_block ?_
    refine W_seq fun _K_10 _hK_10 => ?_
    refine W_region ?_
    refine WL_s rfl rfl ?_
    have _f_11 := (_hk_x.ch0 _E0h)
    refine (s_index _f_11 acs_len el66 sz59 rfl rfl rfl (by omega) fun _p13 _y13 _hy13 _a13 => ?_)
    have _f_12 := (_kd_x.ch0 _E0h)
    obtain ⟨_t13, ht13, _tr13⟩ := _f_12.get _hy13
    obtain ⟨_A_13, _C_13, _ps_13, _hc_13, _hk_13, _kd_13⟩ := _tr13.open
    have _kl_13 := _kd_13.1
    replace _a13 : At _wr_5 LT_x w.heap.size _p13 ([(.pointer (some _y13))]) := _a13
    have rk := bndT_rng (hok.kid ht13)
    refine WL_step rfl rfl (r_loadAt0 _a13 agg59 rfl rfl) ?_
    refine WL_step rfl rfl (r_assign rfl) ?_
    refine WL_nil ?_
    refine thn_nrm (_hK_10 _ _ ?_)
    clear _hK_10
    refine W_seq fun _K_13 _hK_13 => ?_
    refine W_region ?_
    refine WL_step rfl rfl (r_move rfl) ?_
    refine WL_step rfl rfl (r_nilCheck rfl) ?_
    refine WL_step rfl rfl (r_fieldAddr fa68_0 rfl) ?_
    refine WL_step rfl rfl (r_fieldAddrN (n := 0) fa57_0 rfl rfl) ?_
    have _f_14 := (_hc_x.ch0 _E0h)
    refine WL_step rfl rfl (r_loadAt _f_14 agg3 rfl rfl) ?_
    refine WL_step rfl rfl (r_eql rfl rfl) ?_
    refine WL_nil ?_
    refine thn_nrm (_hK_13 _ _ ?_)
    clear _hK_13
    refine W_cond rfl (fun _h20 => ?_) (fun _h20 => ?_)
    · have _kb_15 := _h20
      have _h20 := bt_d _h20
      have r7 := hok.r7 (by omega)
      have _m1 := Int.mul_nonneg (show 0 ≤ bndT _t13 + 3 by omega) (show 0 ≤ x.tok.high by omega)
      have _m2 := Int.mul_le_mul (show bndT _t13 + 3 ≤ 100003 by omega) (show x.tok.high ≤ 3 by omega) (by omega) (by omega)
      refine W_drawC [] 12 mixed rfl fun _w_16 _cw_16 => ?_
      have _cw_16z := _cw_16.size
      have E := E.trans _cw_16
      refine DR_s 0 rfl (by kernel_rfl) rfl rfl (t_v (fun _ => (r_move rfl)) ?_)
      refine DR_s 1 rfl (by kernel_rfl) rfl rfl (t_v (fun _ => (r_move rfl)) ?_)
      refine DR_s 4 rfl (by kernel_rfl) rfl rfl (t_v (fun _ => (r_move rfl)) ?_)
      refine DR_s 5 rfl (by kernel_rfl) rfl rfl (t_v (fun _ => (r_nilCheck rfl)) ?_)
      refine DR_s 6 rfl (by kernel_rfl) rfl rfl (t_v (fun _ => (r_fieldAddr fa68_0 rfl)) ?_)
      refine DR_s 7 rfl (by kernel_rfl) rfl rfl (t_v (fun _ => (r_fieldAddrN (n := 3) fa57_3 rfl rfl)) ?_)
      have _f_17 := (_f_14.ch0 _cw_16)
      refine DR_s 8 rfl (by kernel_rfl) rfl rfl (t_loadAt _f_17 (fun i hi => absurd hi List.not_mem_nil) agg3 rfl rfl ?_)
      refine DR_one 2 (by kernel_rfl) ?_
      refine DO_s rfl rfl rfl ?_
      have _f_18 := (_tr13.ch0 _cw_16)
      refine Step.call (r_call (xs := [.tmp 22]) fk69 rfl) (ih _f_18 (hok.kid ht13) (by have := Tr.kid_sz ht13; omega)) fun _v23 _w_19 _q23 => ?_
      obtain ⟨rfl, _cw_19⟩ := _q23
      have _cw_19z := _cw_19.size
      have E := E.trans _cw_19
      have _S_20 : Ch [] _w_16 _w_19 := ((Ch.refl _ _).trans _cw_19)
      refine ⟨_S_20, ?_⟩
      refine DR_s 3 rfl (by kernel_rfl) rfl rfl (t_v (fun _ => (r_add (by omega) rfl rfl)) ?_)
      refine DR_s 9 rfl (by kernel_rfl) rfl rfl (t_v (fun _ => (r_mul (by omega) rfl rfl)) ?_)
      refine DR_s 10 rfl (by kernel_rfl) rfl rfl (t_v (fun _ => (r_add (by omega) rfl rfl)) ?_)
      refine DR_s 11 rfl (by kernel_rfl) rfl rfl (t_v (fun _ => (r_assign rfl)) ?_)
      refine DR_done (by kernel_rfl) ?_
      refine inB_nrm ?_
      refine thn_nrm (_hK_9 _ _ ?_)
      clear _hK_9
      refine W_region ?_
      refine WL_step rfl rfl (r_add (by omega) rfl rfl) ?_
      refine WL_step rfl rfl (r_move rfl) ?_
      refine WL_nil ?_
      exact thn_nrm (Exists.intro ((i + 1), (n + ((bndT _t13 + 3) * x.tok.high))) ⟨⟨E, (by omega), (by omega), (by rw [bndS_step ht13]; first | (rw [if_pos (by omega)]; omega) | (rw [if_neg (by omega)]; omega))⟩, Sub.cons rfl (Sub.cons rfl (Sub.cons rfl (Sub.cons rfl (Sub.cons rfl (Sub.cons rfl (Sub.nil _)))))), (by first | omega | (dsimp only; omega))⟩)
    · have _kb_15 := _h20
      have _h20 := bf_d _h20
      refine W_region ?_
      refine WL_step rfl rfl (r_move rfl) ?_
      refine WL_step rfl rfl (r_move rfl) ?_
      refine WL_s rfl rfl ?_
      refine Step.call (r_call (xs := [.tmp 33]) fk69 rfl) (ih _tr13 (hok.kid ht13) (by have := Tr.kid_sz ht13; omega)) fun _v34 _w_21 _q34 => ?_
      obtain ⟨rfl, _cw_21⟩ := _q34
      have _cw_21z := _cw_21.size
      have E := E.trans _cw_21
      refine WL_step rfl rfl (r_add (by omega) rfl rfl) ?_
      refine WL_step rfl rfl (r_assign rfl) ?_
      refine WL_nil ?_
      refine inB_nrm ?_
      refine thn_nrm (_hK_9 _ _ ?_)
      clear _hK_9
      refine W_region ?_
      refine WL_step rfl rfl (r_add (by omega) rfl rfl) ?_
      refine WL_step rfl rfl (r_move rfl) ?_
      refine WL_nil ?_
      exact thn_nrm (Exists.intro ((i + 1), (n + bndT _t13)) ⟨⟨E, (by omega), (by omega), (by rw [bndS_step ht13]; first | (rw [if_pos (by omega)]; omega) | (rw [if_neg (by omega)]; omega))⟩, Sub.cons rfl (Sub.cons rfl (Sub.cons rfl (Sub.cons rfl (Sub.cons rfl (Sub.cons rfl (Sub.nil _)))))), (by first | omega | (dsimp only; omega))⟩)
  · have _kb_8 := _h12
    have _h12 := bf_d _h12
    refine W_exit (thn_exit (thn_exit (inB_hit ?_)))
    refine thn_nrm (_hK_3 _ _ ?_)
    clear _hK_3
    refine W_seq fun _K_22 _hK_22 => ?_
    refine W_region ?_
    refine WL_step rfl rfl (r_move rfl) ?_
    refine WL_step rfl rfl (r_min rfl rfl) ?_
    refine WL_step rfl rfl (r_assign rfl) ?_
    refine WL_nil ?_
    refine thn_nrm (_hK_22 _ _ ?_)
    clear _hK_22
    refine W_ret ?_
    clear _hK_7
    exact ret_intro [_] ⟨rfl, trivial⟩ ⟨congrArg (Value.int .i64) (by rw [hn]; exact bndS_end hok (by omega)), E⟩
theorem c_impl_tree_bound {w : World} {LT_x _B_x : Nat} {p_x : Addr} {x : Tr} (_h_x : TrAt w LT_x _B_x p_x x) (hok : Okd x) :
    Ctr Try.prog 69 #[(.pointer (some p_x))] w (fun v w' => v = .int .i64 (bndT x) ∧ Ch [] w w') := c_impl_tree_bound_n _ _h_x hok (Nat.lt_succ_self _)

/-- impl.leaf -/
theorem c_impl_leaf {w : World} (kind : Int) :
    Ctr Try.prog 117 #[(.int .i64 kind)] w (fun v w' => ∃ p, v = .pointer (some p) ∧ TrAt w' w.heap.size w'.heap.size p (.l0 ⟨kind, 0, 0, 0⟩) ∧ Ch [] w w') := by
  have E := Ch.refl [] w
  refine Ctr_of_W (N := 7) (vs0 := [(.int .i64 kind)]) Try.func117 rfl rfl rfl ?_
  refine W_seq fun _K_1 _hK_1 => ?_
  refine W_region ?_
  refine WL_step rfl rfl (r_assign rfl) ?_
  refine WL_nil ?_
  refine thn_nrm (_hK_1 _ _ ?_)
  clear _hK_1
  refine W_seq fun _K_2 _hK_2 => ?_
  refine W_region ?_
  refine WL_step rfl rfl (r_move rfl) ?_
  refine WL_step rfl rfl (r_build (parts := [(0, .tmp 3)]) (cells := [(.int .i64 kind), (.int .i64 0), (.int .i64 0), (.int .i64 0)]) zr57 pl57 rfl rfl) ?_
  refine WL_step rfl rfl (r_build (parts := [(0, .tmp 4)]) (cells := [(.int .i64 kind), (.int .i64 0), (.int .i64 0), (.int .i64 0), (.slice none 0 0)]) zr68 pl68 rfl rfl) ?_
  refine WL_s rfl rfl ?_
  refine s_box rfl fun _b6 _w_3 _m6 _cw_3 _e6 => ?_
  have _cw_3z := _cw_3.size
  have E := E.trans _cw_3
  have _z6 := _m6.lt
  replace _m6 : Blk _w_3 _b6 68 [(.int .i64 kind), (.int .i64 0), (.int .i64 0), (.int .i64 0), (.slice none 0 0)] := _m6
  refine WL_step rfl rfl (r_assign rfl) ?_
  refine WL_nil ?_
  refine thn_nrm (_hK_2 _ _ ?_)
  clear _hK_2
  refine W_ret ?_
  exact ret_intro [_] ⟨rfl, trivial⟩ ⟨_, rfl, (TrAt.mk (k := ⟨kind, 0, 0, 0⟩) (L := w.heap.size) (B := w.heap.size) _m6 (by omega) (Ol.nil (cs := acs) (e := 0) _) (Lo.nil _) Kd.nil (by decide) (by omega)), E⟩

/-- impl.repeated -/
theorem c_impl_repeated_n : ∀ (n : Nat) {w : World} {LT_x _B_x : Nat} {p_x : Addr} {x : Tr} (_h_x : TrAt w LT_x _B_x p_x x) (low : Int) (high : Int) (_h0 : 0 ≤ low) (hh : 0 ≤ high) (_h4 : low ≤ 3) (_h5 : high ≤ 3) (hsz : high.toNat < n),
    Ctr Try.prog 99 #[(.pointer (some p_x)), (.int .i64 low), (.int .i64 high)] w (fun v w' => ∃ p, v = .pointer (some p) ∧ TrAt w' LT_x w'.heap.size p (timT x low (high).toNat) ∧ Ch [] w w') := by
  intro n
  induction n with
  | zero => intros; omega
  | succ n ih =>
  intro w LT_x _B_x p_x x _h_x low high _h0 hh _h4 _h5 hsz
  have _h_x := _h_x.here
  obtain ⟨_A_x, _C_x, _ps_x, _hc_x, _hk_x, _kd_x⟩ := _h_x.open
  have _kl_x := _kd_x.1
  have E := Ch.refl [] w
  have lbx := _h_x.lb
  refine Ctr_of_W (N := 32) (vs0 := [(.pointer (some p_x)), (.int .i64 low), (.int .i64 high)]) Try.func99 rfl rfl rfl ?_
  refine W_seq fun _K_1 _hK_1 => ?_
  refine W_region ?_
  refine WL_step rfl rfl (r_assign rfl) ?_
  refine WL_nil ?_
  refine thn_nrm (_hK_1 _ _ ?_)
  clear _hK_1
  refine W_seq fun _K_2 _hK_2 => ?_
  refine W_seq fun _K_3 _hK_3 => ?_
  refine W_region ?_
  refine WL_step rfl rfl (r_move rfl) ?_
  refine WL_step rfl rfl (r_eql rfl rfl) ?_
  refine WL_nil ?_
  refine thn_nrm (_hK_3 _ _ ?_)
  clear _hK_3
  refine W_cond rfl (fun _h9 => ?_) (fun _h9 => ?_)
  · have _kb_4 := _h9
    have _h9 := bt_d _h9
    refine W_seq fun _K_5 _hK_5 => ?_
    refine W_region ?_
    refine WL_s rfl rfl ?_
    refine Step.call (r_call (xs := [.const (Go.Value.int Go.IntKind.i64 2)]) fk117 rfl) (c_impl_leaf _ ) fun _v10 _w_6 _q10 => ?_
    obtain ⟨_p10, rfl, _tr10, _cw_6⟩ := _q10
    have _cw_6z := _cw_6.size
    have E := E.trans _cw_6
    replace _tr10 : TrAt _w_6 w.heap.size _w_6.heap.size _p10 (.l0 ⟨2, 0, 0, 0⟩) := _tr10
    obtain ⟨_A_10, _C_10, _ps_10, _hc_10, _hk_10, _kd_10⟩ := _tr10.open
    have _kl_10 := _kd_10.1
    refine WL_step rfl rfl (r_assign rfl) ?_
    refine WL_nil ?_
    refine thn_nrm (_hK_5 _ _ ?_)
    clear _hK_5
    refine W_ret (thn_ret ?_)
    clear _hK_2
    exact ret_intro [_] ⟨rfl, trivial⟩ ⟨_, rfl, (tim0 (x := x) (low := low) (high := high) (by omega) ▸ (_tr10.up (by omega) (by omega))), E⟩
  · have _kb_4 := _h9
    have _h9 := bf_d _h9
    refine W_skip ?_
    refine thn_nrm (_hK_2 _ _ ?_)
    clear _hK_2
    refine W_seq fun _K_7 _hK_7 => ?_
    refine W_region ?_
    refine WL_step rfl rfl (r_build (parts := [(0, .const (Go.Value.int Go.IntKind.i64 4))]) (cells := [(.int .i64 4), (.int .i64 0), (.int .i64 0), (.int .i64 0)]) zr57 pl57 rfl rfl) ?_
    refine WL_step rfl rfl (r_move rfl) ?_
    refine WL_step rfl rfl (r_move rfl) ?_
    refine WL_step rfl rfl (r_move rfl) ?_
    refine WL_step rfl rfl (r_sub (by omega) rfl rfl) ?_
    refine WL_step rfl rfl (r_max rfl rfl) ?_
    refine WL_step rfl rfl (r_move rfl) ?_
    refine WL_step rfl rfl (r_sub (by omega) rfl rfl) ?_
    refine WL_s rfl rfl ?_
    refine Step.call (r_call (xs := [.tmp 13, .tmp 16, .tmp 18]) fk99 rfl) (ih _h_x _ _ (by split <;> omega) (by omega) (by split <;> omega) (by omega) (by omega)) fun _v19 _w_8 _q19 => ?_
    obtain ⟨_p19, rfl, _tr19, _cw_8⟩ := _q19
    have _cw_8z := _cw_8.size
    have E := E.trans _cw_8
    replace _tr19 : TrAt _w_8 LT_x _w_8.heap.size _p19 (timT x (if (low - 1) > 0 then (low - 1) else 0) ((high - 1)).toNat) := _tr19
    obtain ⟨_A_19, _C_19, _ps_19, _hc_19, _hk_19, _kd_19⟩ := _tr19.open
    have _kl_19 := _kd_19.1
    refine WL_s rfl rfl ?_
    refine s_buildSliceP (parts := [(0, .tmp 12), (1, .tmp 19)]) [(p_x : Addr), (_p19 : Addr)] el66 sz59 zr59 rfl rfl (by decide) (by decide) rfl fun _v20 _w_9 _q20 _lo20 _cw_9 => ?_
    have _cw_9z := _cw_9.size
    have E := E.trans _cw_9
    obtain ⟨_Av20, _Cv20, _ev20⟩ := _q20.val
    subst _ev20
    have _lv20 := _q20.len
    have _hiv20 := _q20.lt
    refine WL_step rfl rfl (r_build (parts := [(0, .tmp 11), (1, .tmp 20)]) (cells := [(.int .i64 4), (.int .i64 0), (.int .i64 0), (.int .i64 0), (.slice _Av20 ([(p_x : Addr), (_p19 : Addr)]).length _Cv20)]) zr68 pl68 rfl rfl) ?_
    refine WL_s rfl rfl ?_
    refine s_box rfl fun _b22 _w_10 _m22 _cw_10 _e22 => ?_
    have _cw_10z := _cw_10.size
    have E := E.trans _cw_10
    have _z22 := _m22.lt
    replace _m22 : Blk _w_10 _b22 68 [(.int .i64 4), (.int .i64 0), (.int .i64 0), (.int .i64 0), (.slice _Av20 ([(p_x : Addr), (_p19 : Addr)]).length _Cv20)] := _m22
    refine WL_step rfl rfl (r_assign rfl) ?_
    refine WL_nil ?_
    refine thn_nrm (_hK_7 _ _ ?_)
    clear _hK_7
    refine W_seq fun _K_11 _hK_11 => ?_
    refine W_seq fun _K_12 _hK_12 => ?_
    refine W_region ?_
    refine WL_step rfl rfl (r_move rfl) ?_
    refine WL_step rfl rfl (r_gtr rfl rfl) ?_
    refine WL_nil ?_
    refine thn_nrm (_hK_12 _ _ ?_)
    clear _hK_12
    refine W_cond rfl (fun _h24 => ?_) (fun _h24 => ?_)
    · have _kb_13 := _h24
      have _h24 := bt_d _h24
      refine W_seq fun _K_14 _hK_14 => ?_
      refine W_region ?_
      refine WL_step rfl rfl (r_move rfl) ?_
      refine WL_step rfl rfl (r_assign rfl) ?_
      refine WL_nil ?_
      refine thn_nrm (_hK_14 _ _ ?_)
      clear _hK_14
      refine W_ret (thn_ret ?_)
      clear _hK_11
      have _f_15 := (((_h_x.ch0 _cw_8).ch0 _cw_9).ch0 _cw_10)
      have _f_16 := ((_tr19.ch0 _cw_9).ch0 _cw_10)
      have _f_17 := (_q20.ch0 _cw_10)
      exact ret_intro [_] ⟨rfl, trivial⟩ ⟨_, rfl, (timp (x := x) (low := low) (high := high) (by omega) (by omega) (by omega) ▸ (TrAt.mk (k := ⟨4, 0, 0, 0⟩) (L := LT_x) (B := _w_10.heap.size) _m22 (by omega) _f_17 (fun g hg => by have _h1 := _lo20 g hg; omega) (Kd.cons (_f_15.up (by omega) (by omega)) (Kd.cons (_f_16.up (by omega) (by omega)) Kd.nil)) (by simp) (by omega))), E⟩
    · have _kb_13 := _h24
      have _h24 := bf_d _h24
      refine W_skip ?_
      refine thn_nrm (_hK_11 _ _ ?_)
      clear _hK_11
      refine W_seq fun _K_18 _hK_18 => ?_
      refine W_region ?_
      refine WL_step rfl rfl (r_build (parts := [(0, .const (Go.Value.int Go.IntKind.i64 5))]) (cells := [(.int .i64 5), (.int .i64 0), (.int .i64 0), (.int .i64 0)]) zr57 pl57 rfl rfl) ?_
      refine WL_step rfl rfl (r_move rfl) ?_
      refine WL_s rfl rfl ?_
      refine Step.call (r_call (xs := [.const (Go.Value.int Go.IntKind.i64 2)]) fk117 rfl) (c_impl_leaf _ ) fun _v28 _w_19 _q28 => ?_
      obtain ⟨_p28, rfl, _tr28, _cw_19⟩ := _q28
      have _cw_19z := _cw_19.size
      have E := E.trans _cw_19
      replace _tr28 : TrAt _w_19 _w_10.heap.size _w_19.heap.size _p28 (.l0 ⟨2, 0, 0, 0⟩) := _tr28
      obtain ⟨_A_28, _C_28, _ps_28, _hc_28, _hk_28, _kd_28⟩ := _tr28.open
      have _kl_28 := _kd_28.1
      refine WL_s rfl rfl ?_
      refine s_buildSliceP (parts := [(0, .tmp 27), (1, .tmp 28)]) [(⟨_b22, 0, none⟩ : Addr), (_p28 : Addr)] el66 sz59 zr59 rfl rfl (by decide) (by decide) rfl fun _v29 _w_20 _q29 _lo29 _cw_20 => ?_
      have _cw_20z := _cw_20.size
      have E := E.trans _cw_20
      obtain ⟨_Av29, _Cv29, _ev29⟩ := _q29.val
      subst _ev29
      have _lv29 := _q29.len
      have _hiv29 := _q29.lt
      refine WL_step rfl rfl (r_build (parts := [(0, .tmp 26), (1, .tmp 29)]) (cells := [(.int .i64 5), (.int .i64 0), (.int .i64 0), (.int .i64 0), (.slice _Av29 ([(⟨_b22, 0, none⟩ : Addr), (_p28 : Addr)]).length _Cv29)]) zr68 pl68 rfl rfl) ?_
      refine WL_s rfl rfl ?_
      refine s_box rfl fun _b31 _w_21 _m31 _cw_21 _e31 => ?_
      have _cw_21z := _cw_21.size
      have E := E.trans _cw_21
      have _z31 := _m31.lt
      replace _m31 : Blk _w_21 _b31 68 [(.int .i64 5), (.int .i64 0), (.int .i64 0), (.int .i64 0), (.slice _Av29 ([(⟨_b22, 0, none⟩ : Addr), (_p28 : Addr)]).length _Cv29)] := _m31
      refine WL_step rfl rfl (r_assign rfl) ?_
      refine WL_nil ?_
      refine thn_nrm (_hK_18 _ _ ?_)
      clear _hK_18
      refine W_ret ?_
      have _f_22 := ((((((_h_x.ch0 _cw_8).ch0 _cw_9).ch0 _cw_10).ch0 _cw_19).ch0 _cw_20).ch0 _cw_21)
      have _f_23 := (((((_tr19.ch0 _cw_9).ch0 _cw_10).ch0 _cw_19).ch0 _cw_20).ch0 _cw_21)
      have _f_24 := ((_tr28.ch0 _cw_20).ch0 _cw_21)
      have _f_25 := (((_m22.ch0 _cw_19).ch0 _cw_20).ch0 _cw_21)
      have _f_26 := ((((_q20.ch0 _cw_10).ch0 _cw_19).ch0 _cw_20).ch0 _cw_21)
      have _f_27 := (_q29.ch0 _cw_21)
      exact ret_intro [_] ⟨rfl, trivial⟩ ⟨_, rfl, (timn (x := x) (low := low) (high := high) (by omega) (by omega) (by omega) ▸ (TrAt.mk (k := ⟨5, 0, 0, 0⟩) (L := LT_x) (B := _w_21.heap.size) _m31 (by omega) _f_27 (fun g hg => by have _h1 := _lo29 g hg; omega) (Kd.cons (TrAt.mk (k := ⟨4, 0, 0, 0⟩) (L := LT_x) (B := _w_21.heap.size) _f_25 (by omega) _f_26 (fun g hg => by have _h1 := _lo20 g hg; omega) (Kd.cons (_f_22.up (by omega) (by omega)) (Kd.cons (_f_23.up (by omega) (by omega)) Kd.nil)) (by simp) (by omega)) (Kd.cons (_f_24.up (by omega) (by omega)) Kd.nil)) (by simp) (by omega))), E⟩
theorem c_impl_repeated {w : World} {LT_x _B_x : Nat} {p_x : Addr} {x : Tr} (_h_x : TrAt w LT_x _B_x p_x x) (low : Int) (high : Int) (_h0 : 0 ≤ low) (hh : 0 ≤ high) (_h4 : low ≤ 3) (_h5 : high ≤ 3) :
    Ctr Try.prog 99 #[(.pointer (some p_x)), (.int .i64 low), (.int .i64 high)] w (fun v w' => ∃ p, v = .pointer (some p) ∧ TrAt w' LT_x w'.heap.size p (timT x low (high).toNat) ∧ Ch [] w w') := c_impl_repeated_n _ _h_x low high _h0 hh _h4 _h5 (Nat.lt_succ_self _)

/-- impl.tree).expand -/
theorem c_impl_tree_expand_n : ∀ (n : Nat) {w : World} {LT_x _B_x : Nat} {p_x : Addr} {x : Tr} (_h_x : TrAt w LT_x _B_x p_x x) (hok : Okd x) (hsz : x.sz < n),
    Ctr Try.prog 70 #[(.pointer (some p_x))] w (fun v w' => ∃ p, v = .pointer (some p) ∧ TrAt w' w.heap.size w'.heap.size p (expT x) ∧ Ch [] w w') := by
  intro n
  induction n with
  | zero => intros; omega
  | succ n ih =>
  intro w LT_x _B_x p_x x _h_x hok hsz
  have _h_x := _h_x.here
  obtain ⟨_A_x, _C_x, _ps_x, _hc_x, _hk_x, _kd_x⟩ := _h_x.open
  have _kl_x := _kd_x.1
  have E := Ch.refl [] w
  have k2 := x.kids_le; have k3 := hok.len
  refine Ctr_of_W (N := 58) (vs0 := [(.pointer (some p_x))]) Try.func70 rfl rfl rfl ?_
  refine W_seq fun _K_1 _hK_1 => ?_
  refine W_region ?_
  refine WL_step rfl rfl (r_assign rfl) ?_
  refine WL_nil ?_
  refine thn_nrm (_hK_1 _ _ ?_)
  clear _hK_1
  refine W_seq fun _K_2 _hK_2 => ?_
  refine W_seq fun _K_3 _hK_3 => ?_
  refine W_region ?_
  refine WL_step rfl rfl (r_move rfl) ?_
  refine WL_step rfl rfl (r_nilCheck rfl) ?_
  refine WL_step rfl rfl (r_fieldAddr fa68_0 rfl) ?_
  refine WL_step rfl rfl (r_fieldAddrN (n := 0) fa57_0 rfl rfl) ?_
  refine WL_step rfl rfl (r_loadAt _hc_x agg3 rfl rfl) ?_
  refine WL_step rfl rfl (r_eql rfl rfl) ?_
  refine WL_nil ?_
  refine thn_nrm (_hK_3 _ _ ?_)
  clear _hK_3
  refine W_cond rfl (fun _h11 => ?_) (fun _h11 => ?_)
  · have _kb_4 := _h11
    have _h11 := bt_d _h11
    obtain ⟨ta, _hk0, oa, sab, ga⟩ := hok.kk1 (by omega)
    have r7 := hok.r7 (by omega)
    refine W_seq fun _K_5 _hK_5 => ?_
    refine W_drawC [] 19 mixed rfl fun _w_6 _cw_6 => ?_
    have _cw_6z := _cw_6.size
    have E := E.trans _cw_6
    refine DR_s 0 rfl (by kernel_rfl) rfl rfl (t_v (fun _ => (r_move rfl)) ?_)
    refine DR_s 1 rfl (by kernel_rfl) rfl rfl (t_v (fun _ => (r_nilCheck rfl)) ?_)
    refine DR_s 2 rfl (by kernel_rfl) rfl rfl (t_v (fun _ => (r_fieldAddr fa68_1 rfl)) ?_)
    have _f_7 := (_hc_x.ch0 _cw_6)
    refine DR_s 3 rfl (by kernel_rfl) rfl rfl (t_loadAt _f_7 (fun i hi => absurd hi List.not_mem_nil) agg66 rfl rfl ?_)
    have _f_8 := (_hk_x.ch0 _cw_6)
    have _f_9 := (_kd_x.ch0 _cw_6)
    refine DR_s 4 rfl (by kernel_rfl) rfl rfl (t_index (j := 0) _f_8 acs_len el66 sz59 rfl rfl rfl (by omega) fun _p16 _y16 _hy16 _a16 => ?_)
    have ht16 := _hk0
    have _tr16 := _f_9.2 _ _ _ _hy16 _hk0
    obtain ⟨_A_16, _C_16, _ps_16, _hc_16, _hk_16, _kd_16⟩ := _tr16.open
    have _kl_16 := _kd_16.1
    replace _a16 : At _w_6 LT_x w.heap.size _p16 ([(.pointer (some _y16))]) := _a16
    refine DR_s 5 rfl (by kernel_rfl) rfl rfl (t_loadAt0 _a16 (fun i hi => absurd hi List.not_mem_nil) agg59 rfl rfl ?_)
    refine DR_s 7 rfl (by kernel_rfl) rfl rfl (t_v (fun _ => (r_move rfl)) ?_)
    refine DR_s 8 rfl (by kernel_rfl) rfl rfl (t_v (fun _ => (r_nilCheck rfl)) ?_)
    refine DR_s 9 rfl (by kernel_rfl) rfl rfl (t_v (fun _ => (r_fieldAddr fa68_0 rfl)) ?_)
    refine DR_s 10 rfl (by kernel_rfl) rfl rfl (t_v (fun _ => (r_fieldAddrN (n := 2) fa57_2 rfl rfl)) ?_)
    refine DR_s 11 rfl (by kernel_rfl) rfl rfl (t_loadAt _f_7 (fun i hi => absurd hi List.not_mem_nil) agg3 rfl rfl ?_)
    refine DR_s 12 rfl (by kernel_rfl) rfl rfl (t_v (fun _ => (r_move rfl)) ?_)
    refine DR_s 13 rfl (by kernel_rfl) rfl rfl (t_v (fun _ => (r_nilCheck rfl)) ?_)
    refine DR_s 14 rfl (by kernel_rfl) rfl rfl (t_v (fun _ => (r_fieldAddr fa68_0 rfl)) ?_)
    refine DR_s 15 rfl (by kernel_rfl) rfl rfl (t_v (fun _ => (r_fieldAddrN (n := 3) fa57_3 rfl rfl)) ?_)
    refine DR_s 16 rfl (by kernel_rfl) rfl rfl (t_loadAt _f_7 (fun i hi => absurd hi List.not_mem_nil) agg3 rfl rfl ?_)
    refine DR_one 6 (by kernel_rfl) ?_
    refine DO_s rfl rfl rfl ?_
    refine Step.call (r_call (xs := [.tmp 17]) fk70 rfl) (ih _tr16 oa (by omega)) fun _v18 _w_10 _q18 => ?_
    obtain ⟨_p18, rfl, _tr18, _cw_10⟩ := _q18
    have _cw_10z := _cw_10.size
    have E := E.trans _cw_10
    replace _tr18 : TrAt _w_10 _w_6.heap.size _w_10.heap.size _p18 (expT ta) := _tr18
    obtain ⟨_A_18, _C_18, _ps_18, _hc_18, _hk_18, _kd_18⟩ := _tr18.open
    have _kl_18 := _kd_18.1
    have _S_11 : Ch [] _w_6 _w_10 := ((Ch.refl _ _).trans _cw_10)
    refine ⟨_S_11, ?_⟩
    refine DR_one 17 (by kernel_rfl) ?_
    refine DO_s rfl rfl rfl ?_
    refine Step.call (r_call (xs := [.tmp 18, .tmp 23, .tmp 28]) fk99 rfl) (c_impl_repeated _tr18 _ _ (by omega) (by omega) (by omega) (by omega)) fun _v29 _w_12 _q29 => ?_
    obtain ⟨_p29, rfl, _tr29, _cw_12⟩ := _q29
    have _cw_12z := _cw_12.size
    have E := E.trans _cw_12
    replace _tr29 : TrAt _w_12 _w_6.heap.size _w_12.heap.size _p29 (timT (expT ta) x.tok.low (x.tok.high).toNat) := _tr29
    obtain ⟨_A_29, _C_29, _ps_29, _hc_29, _hk_29, _kd_29⟩ := _tr29.open
    have _kl_29 := _kd_29.1
    have _S_13 : Ch [] _w_6 _w_12 := (_S_11.trans _cw_12)
    refine ⟨_S_13, ?_⟩
    refine DR_s 18 rfl (by kernel_rfl) rfl rfl (t_v (fun _ => (r_assign rfl)) ?_)
    refine DR_done (by kernel_rfl) ?_
    refine thn_nrm (_hK_5 _ _ ?_)
    clear _hK_5
    refine W_ret (thn_ret ?_)
    clear _hK_2
    exact ret_intro [_] ⟨rfl, trivial⟩ ⟨_, rfl, (exp7 hok (by omega) _hk0 ▸ (_tr29.up (by omega) (by omega))), E⟩
  · have _kb_4 := _h11
    have _h11 := bf_d _h11
    refine W_skip ?_
    refine thn_nrm (_hK_2 _ _ ?_)
    clear _hK_2
    refine W_seq fun _K_14 _hK_14 => ?_
    refine W_region ?_
    refine WL_step rfl rfl (r_move rfl) ?_
    refine WL_step rfl rfl (r_nilCheck rfl) ?_
    refine WL_step rfl rfl (r_fieldAddr fa68_0 rfl) ?_
    refine WL_step rfl rfl (r_loadAtA 4 _hc_x agg57 sz57 rfl rfl) ?_
    refine WL_step rfl rfl (r_build (parts := [(0, .tmp 33)]) (cells := [(.int .i64 x.tok.kind), (.int .i64 x.tok.letter), (.int .i64 x.tok.low), (.int .i64 x.tok.high), (.slice none 0 0)]) zr68 pl68 rfl rfl) ?_
    refine WL_s rfl rfl ?_
    refine s_box rfl fun _b35 _w_15 _m35 _cw_15 _e35 => ?_
    have _cw_15z := _cw_15.size
    have E := E.trans _cw_15
    have _z35 := _m35.lt
    replace _m35 : Blk _w_15 _b35 68 [(.int .i64 x.tok.kind), (.int .i64 x.tok.letter), (.int .i64 x.tok.low), (.int .i64 x.tok.high), (.slice none 0 0)] := _m35
    refine WL_step rfl rfl (r_assign rfl) ?_
    refine WL_nil ?_
    refine thn_nrm (_hK_14 _ _ ?_)
    clear _hK_14
    refine W_seq fun _K_16 _hK_16 => ?_
    refine W_seq fun _K_17 _hK_17 => ?_
    refine W_region ?_
    refine WL_step rfl rfl (r_move rfl) ?_
    refine WL_step rfl rfl (r_nilCheck rfl) ?_
    refine WL_step rfl rfl (r_fieldAddr fa68_1 rfl) ?_
    have _f_18 := (_hc_x.ch0 _cw_15)
    refine WL_step rfl rfl (r_loadAt _f_18 agg66 rfl rfl) ?_
    refine WL_step rfl rfl (r_len (by rw [el66]; rfl) rfl) ?_
    refine WL_step rfl rfl (r_move rfl) ?_
    refine WL_nil ?_
    refine thn_nrm (_hK_17 _ _ ?_)
    clear _hK_17
    refine W_block ?_
    have _oi_19 : Ol acs 59 1 _w_15 (.slice none 0 0) (([] : List Addr)) := by
      have hx := (Ol.nil (cs := acs) (e := 59) (k := 1) _w_15)
      exact hx
    refine W_loop (σ := Nat × List Addr × Value) (fun ⟨i, ps, sv⟩ => [(2, (.pointer none)), (3, (.pointer (some ⟨_b35, 0, none⟩))), (39, (.slice _A_x _ps_x.length _C_x)), (40, (.int .i64 ((_ps_x.length : Nat) : Int))), (41, (.int .i64 ((i : Nat) : Int)))]) (fun ⟨i, ps, sv⟩ wx => Ch [] w wx ∧ _w_15.heap.size ≤ wx.heap.size ∧ (i ≤ x.kids.length) ∧ Ol acs 59 1 wx sv ps ∧ Lo _w_15.heap.size sv ∧ KdN wx w.heap.size _b35 sv ps ((x.kids.take i).map expT) ∧ Blk wx _b35 68 [(.int .i64 x.tok.kind), (.int .i64 x.tok.letter), (.int .i64 x.tok.low), (.int .i64 x.tok.high), sv] ∧ (_b35 ∉ bl sv)) (fun ⟨i, ps, sv⟩ => x.kids.length - i) (0, ([] : List Addr), (.slice none 0 0)) (Sub.cons rfl (Sub.cons rfl (Sub.cons rfl (Sub.cons rfl (Sub.cons rfl (Sub.nil _)))))) ⟨E, (Nat.le_refl _), (by omega), _oi_19, (Lo.nil _), (by simpa using KdN.nil _ _ _ _), _m35, (fun hm => by cases hm)⟩ ?_
    rintro ⟨i, ps, sv⟩ _wr_20 ⟨E, _zz0, hi, o0_3_4, lo0_3_4, kds, _m0_3, _nb0_3_4⟩
    have _E0h := E
    have _E0hz := _E0h.size
    obtain ⟨Asv, Csv, esv⟩ := o0_3_4.val
    subst esv
    have lsv := o0_3_4.len
    have hisv := o0_3_4.lt
    refine W_seq fun _K_21 _hK_21 => ?_
    refine W_region ?_
    refine WL_step rfl rfl (r_lss rfl rfl) ?_
    refine WL_nil ?_
    refine thn_nrm (_hK_21 _ _ ?_)
    clear _hK_21
    refine W_seq fun _K_22 _hK_22 => ?_
    refine W_cond rfl (fun _h42 => ?_) (fun _h42 => ?_)
    · have _kb_23 := _h42
      have _h42 := bt_d _h42
      refine W_skip ?_
      refine thn_nrm (_hK_22 _ _ ?_)
      clear _hK_22
      refine W_seq fun _K_24 _hK_24 => ?_
      refine W_block ?_
      refine W_seq fun _K_25 _hK_25 => ?_
      refine W_region ?_
      refine WL_s rfl rfl ?_
      have _f_26 := (_hk_x.ch0 _E0h)
      refine (s_index _f_26 acs_len el66 sz59 rfl rfl rfl (by omega) fun _p43 _y43 _hy43 _a43 => ?_)
      have _f_27 := (_kd_x.ch0 _E0h)
      obtain ⟨_t43, ht43, _tr43⟩ := _f_27.get _hy43
      obtain ⟨_A_43, _C_43, _ps_43, _hc_43, _hk_43, _kd_43⟩ := _tr43.open
      have _kl_43 := _kd_43.1
      replace _a43 : At _wr_20 LT_x w.heap.size _p43 ([(.pointer (some _y43))]) := _a43
      refine WL_step rfl rfl (r_loadAt0 _a43 agg59 rfl rfl) ?_
      refine WL_step rfl rfl (r_assign rfl) ?_
      refine WL_nil ?_
      refine thn_nrm (_hK_25 _ _ ?_)
      clear _hK_25
      refine W_drawC ((bl (.slice Asv (ps).length Csv)) ++ [_b35]) 12 mixed rfl fun _w_28 _cw_28 => ?_
      have _cw_28z := _cw_28.size
      have E := E.trans _cw_28
      refine DR_s 0 rfl (by kernel_rfl) rfl rfl (t_v (fun _ => (r_move rfl)) ?_)
      refine DR_s 1 rfl (by kernel_rfl) rfl rfl (t_v (fun _ => (r_move rfl)) ?_)
      refine DR_s 2 rfl (by kernel_rfl) rfl rfl (t_v (fun _ => (r_nilCheck rfl)) ?_)
      refine DR_s 3 rfl (by kernel_rfl) rfl rfl (t_v (fun _ => (r_fieldAddr fa68_1 rfl)) ?_)
      refine DR_s 5 rfl (by kernel_rfl) rfl rfl (t_v (fun _ => (r_move rfl)) ?_)
      refine DR_two 4 6 (by kernel_rfl) ?_ ?_
      · refine DO_s rfl rfl rfl ?_
        have _f_29 := (_m0_3.ch0 _cw_28)
        refine s_v (r_loadAt _f_29.at_ agg66 rfl rfl) ?_
        refine ⟨(Ch.refl _ _), ?_⟩
        refine DR_one 6 (by kernel_rfl) ?_
        refine DO_s rfl rfl rfl ?_
        have _f_30 := (_tr43.ch0 _cw_28)
        refine Step.call (r_call (xs := [.tmp 50]) fk70 rfl) (ih _f_30 (hok.kid ht43) (by have := Tr.kid_sz ht43; omega)) fun _v51 _w_31 _q51 => ?_
        obtain ⟨_p51, rfl, _tr51, _cw_31⟩ := _q51
        have _cw_31z := _cw_31.size
        have E := E.trans _cw_31
        replace _tr51 : TrAt _w_31 _w_28.heap.size _w_31.heap.size _p51 (expT _t43) := _tr51
        obtain ⟨_A_51, _C_51, _ps_51, _hc_51, _hk_51, _kd_51⟩ := _tr51.open
        have _kl_51 := _kd_51.1
        have _S_32 : Ch ((bl (.slice Asv (ps).length Csv)) ++ [_b35]) _w_28 _w_31 := ((Ch.refl _ _).trans _cw_31.of_nil)
        refine ⟨_S_32, ?_⟩
        refine DR_one 7 (by kernel_rfl) ?_
        refine DO_s rfl rfl rfl ?_
        refine s_buildSliceP (parts := [(0, .tmp 51)]) [(_p51 : Addr)] el66 sz59 zr59 rfl rfl (by decide) (by decide) rfl fun _v52 _w_33 _q52 _lo52 _cw_33 => ?_
        have _cw_33z := _cw_33.size
        have E := E.trans _cw_33
        obtain ⟨_Av52, _Cv52, _ev52⟩ := _q52.val
        subst _ev52
        have _lv52 := _q52.len
        have _hiv52 := _q52.lt
        have _S_34 : Ch ((bl (.slice Asv (ps).length Csv)) ++ [_b35]) _w_28 _w_33 := (_S_32.trans _cw_33.of_nil)
        refine ⟨_S_34, ?_⟩
        refine DR_one 8 (by kernel_rfl) ?_
        refine DO_s rfl rfl rfl ?_
        have _f_36 := (((o0_3_4.ch0 _cw_28).ch0 _cw_31).ch0 _cw_33)
        refine s_append (cs := acs) el66 sz59 by59 zr59 rfl (by decide) acs_one _f_36 _q52.ls rfl rfl (by have _h5 := kds.1; simp only [List.length_map, List.length_take] at _h5; simp only [List.length_singleton]; omega) (by have _h5 := kds.1; simp only [List.length_map, List.length_take] at _h5; simp only [List.length_singleton]; omega) lo0_3_4 (by omega) fun _v53 _w_35 _q53 _lo53 _ap53 _cw_35 => ?_
        have _cw_35z := _cw_35.size
        have E := E.step _cw_35 (fun i hi => .inl (by have _h1 := lo0_3_4 _ hi; omega))
        obtain ⟨_Av53, _Cv53, _ev53⟩ := _q53.val
        subst _ev53
        have _lv53 := _q53.len
        have _hiv53 := _q53.lt
        have _S_37 : Ch ((bl (.slice Asv (ps).length Csv)) ++ [_b35]) _w_28 _w_35 := (_S_34.step _cw_35 (fun i hm => by exact .inr (List.mem_append_left _ hm)))
        refine ⟨_S_37, ?_⟩
        refine DR_s 9 rfl (by kernel_rfl) rfl rfl (t_v (fun _ => (r_nilCheck rfl)) ?_)
        refine DR_s 10 rfl (by kernel_rfl) rfl rfl (t_v (fun _ => (r_fieldAddr fa68_1 rfl)) ?_)
        refine DR_one 11 (by kernel_rfl) ?_
        refine DO_s rfl rfl rfl ?_
        have _f_38 := (((_f_29.ch0 _cw_31).ch0 _cw_33).ch _cw_35 (fun hm => by exact _nb0_3_4 (by first | exact hm | exact _h0 ▸ hm)))
        refine s_store1 (off := 4) _f_38 sz66 rfl rfl rfl rfl fun _w_39 _m_40 _cw_39 => ?_
        have _cw_39z := _cw_39.size
        have E := E.step _cw_39 (fun i hi => .inl (by have _h1 := List.mem_singleton.1 hi; omega))
        replace _m_40 : Blk _w_39 _b35 68 [(.int .i64 x.tok.kind), (.int .i64 x.tok.letter), (.int .i64 x.tok.low), (.int .i64 x.tok.high), (.slice _Av53 ((ps ++ [(_p51 : Addr)])).length _Cv53)] := _m_40
        have _S_41 : Ch ((bl (.slice Asv (ps).length Csv)) ++ [_b35]) _w_28 _w_39 := (_S_37.step _cw_39 (fun i hm => by have _h0 := List.mem_singleton.1 hm; exact .inr (by rw [_h0]; exact (List.mem_append_right _ (List.mem_singleton.2 rfl)))))
        refine ⟨_S_41, ?_⟩
        refine DR_done (by kernel_rfl) ?_
        refine inB_nrm ?_
        refine thn_nrm (_hK_24 _ _ ?_)
        clear _hK_24
        refine W_region ?_
        refine WL_step rfl rfl (r_add (by omega) rfl rfl) ?_
        refine WL_step rfl rfl (r_move rfl) ?_
        refine WL_nil ?_
        have _f_42 := (_tr51.ch0 _cw_33)
        have k9 := (KdN.grow kds (by omega) hisv (by omega) ((((Ch.refl [] _wr_20).trans _cw_28).trans _cw_31).trans _cw_33) _f_42 (by omega) (by omega) _cw_35 _ap53).bo _cw_39
        have _f_44 := (_q53.ch _cw_39 (fun g hg hm => by have _h0 := List.mem_singleton.1 hm; rcases _ap53 with ea | ea; (rw [ea] at hg; exact _nb0_3_4 (by first | exact hg | exact _h0 ▸ hg)); (rw [ea] at hg; have _z1 := List.mem_singleton.1 hg; omega)))
        have _on_43 : Ol acs 59 1 _w_39 (.slice _Av53 ((ps ++ [(_p51 : Addr)])).length _Cv53) ((ps ++ [(_p51 : Addr)])) := by
          have hx := _f_44
          exact hx
        exact thn_nrm (Exists.intro ((i + 1), (ps ++ [(_p51 : Addr)]), (.slice _Av53 ((ps ++ [(_p51 : Addr)])).length _Cv53)) ⟨⟨E, (by omega), (by omega), _on_43, (Lo.down _lo53 (by omega)), (by rw [take_snoc ht43, List.map_append]; exact k9), _m_40, (fun hm => by rcases _ap53 with ea | ea; (rw [ea] at hm; exact _nb0_3_4 (by first | exact hm | exact _h0 ▸ hm)); (rw [ea] at hm; have _z1 := List.mem_singleton.1 hm; omega))⟩, Sub.cons rfl (Sub.cons rfl (Sub.cons rfl (Sub.cons rfl (Sub.cons rfl (Sub.nil _))))), (by first | omega | (dsimp only; omega))⟩)
      · refine DO_s rfl rfl rfl ?_
        have _f_45 := (_tr43.ch0 _cw_28)
        refine Step.call (r_call (xs := [.tmp 50]) fk70 rfl) (ih _f_45 (hok.kid ht43) (by have := Tr.kid_sz ht43; omega)) fun _v51 _w_46 _q51 => ?_
        obtain ⟨_p51, rfl, _tr51, _cw_46⟩ := _q51
        have _cw_46z := _cw_46.size
        have E := E.trans _cw_46
        replace _tr51 : TrAt _w_46 _w_28.heap.size _w_46.heap.size _p51 (expT _t43) := _tr51
        obtain ⟨_A_51, _C_51, _ps_51, _hc_51, _hk_51, _kd_51⟩ := _tr51.open
        have _kl_51 := _kd_51.1
        have _S_47 : Ch ((bl (.slice Asv (ps).length Csv)) ++ [_b35]) _w_28 _w_46 := ((Ch.refl _ _).trans _cw_46.of_nil)
        refine ⟨_S_47, ?_⟩
        refine DR_two 4 7 (by kernel_rfl) ?_ ?_
        · refine DO_s rfl rfl rfl ?_
          have _f_48 := ((_m0_3.ch0 _cw_28).ch0 _cw_46)
          refine s_v (r_loadAt _f_48.at_ agg66 rfl rfl) ?_
          refine ⟨_S_47, ?_⟩
          refine DR_one 7 (by kernel_rfl) ?_
          refine DO_s rfl rfl rfl ?_
          refine s_buildSliceP (parts := [(0, .tmp 51)]) [(_p51 : Addr)] el66 sz59 zr59 rfl rfl (by decide) (by decide) rfl fun _v52 _w_49 _q52 _lo52 _cw_49 => ?_
          have _cw_49z := _cw_49.size
          have E := E.trans _cw_49
          obtain ⟨_Av52, _Cv52, _ev52⟩ := _q52.val
          subst _ev52
          have _lv52 := _q52.len
          have _hiv52 := _q52.lt
          have _S_50 : Ch ((bl (.slice Asv (ps).length Csv)) ++ [_b35]) _w_28 _w_49 := (_S_47.trans _cw_49.of_nil)
          refine ⟨_S_50, ?_⟩
          refine DR_one 8 (by kernel_rfl) ?_
          refine DO_s rfl rfl rfl ?_
          have _f_52 := (((o0_3_4.ch0 _cw_28).ch0 _cw_46).ch0 _cw_49)
          refine s_append (cs := acs) el66 sz59 by59 zr59 rfl (by decide) acs_one _f_52 _q52.ls rfl rfl (by have _h5 := kds.1; simp only [List.length_map, List.length_take] at _h5; simp only [List.length_singleton]; omega) (by have _h5 := kds.1; simp only [List.length_map, List.length_take] at _h5; simp only [List.length_singleton]; omega) lo0_3_4 (by omega) fun _v53 _w_51 _q53 _lo53 _ap53 _cw_51 => ?_
          have _cw_51z := _cw_51.size
          have E := E.step _cw_51 (fun i hi => .inl (by have _h1 := lo0_3_4 _ hi; omega))
          obtain ⟨_Av53, _Cv53, _ev53⟩ := _q53.val
          subst _ev53
          have _lv53 := _q53.len
          have _hiv53 := _q53.lt
          have _S_53 : Ch ((bl (.slice Asv (ps).length Csv)) ++ [_b35]) _w_28 _w_51 := (_S_50.step _cw_51 (fun i hm => by exact .inr (List.mem_append_left _ hm)))
          refine ⟨_S_53, ?_⟩
          refine DR_s 9 rfl (by kernel_rfl) rfl rfl (t_v (fun _ => (r_nilCheck rfl)) ?_)
          refine DR_s 10 rfl (by kernel_rfl) rfl rfl (t_v (fun _ => (r_fieldAddr fa68_1 rfl)) ?_)
          refine DR_one 11 (by kernel_rfl) ?_
          refine DO_s rfl rfl rfl ?_
          have _f_54 := ((_f_48.ch0 _cw_49).ch _cw_51 (fun hm => by exact _nb0_3_4 (by first | exact hm | exact _h0 ▸ hm)))
          refine s_store1 (off := 4) _f_54 sz66 rfl rfl rfl rfl fun _w_55 _m_56 _cw_55 => ?_
          have _cw_55z := _cw_55.size
          have E := E.step _cw_55 (fun i hi => .inl (by have _h1 := List.mem_singleton.1 hi; omega))
          replace _m_56 : Blk _w_55 _b35 68 [(.int .i64 x.tok.kind), (.int .i64 x.tok.letter), (.int .i64 x.tok.low), (.int .i64 x.tok.high), (.slice _Av53 ((ps ++ [(_p51 : Addr)])).length _Cv53)] := _m_56
          have _S_57 : Ch ((bl (.slice Asv (ps).length Csv)) ++ [_b35]) _w_28 _w_55 := (_S_53.step _cw_55 (fun i hm => by have _h0 := List.mem_singleton.1 hm; exact .inr (by rw [_h0]; exact (List.mem_append_right _ (List.mem_singleton.2 rfl)))))
          refine ⟨_S_57, ?_⟩
          refine DR_done (by kernel_rfl) ?_
          refine inB_nrm ?_
          refine thn_nrm (_hK_24 _ _ ?_)
          clear _hK_24
          refine W_region ?_
          refine WL_step rfl rfl (r_add (by omega) rfl rfl) ?_
          refine WL_step rfl rfl (r_move rfl) ?_
          refine WL_nil ?_
          have _f_58 := (_tr51.ch0 _cw_49)
          have k9 := (KdN.grow kds (by omega) hisv (by omega) ((((Ch.refl [] _wr_20).trans _cw_28).trans _cw_46).trans _cw_49) _f_58 (by omega) (by omega) _cw_51 _ap53).bo _cw_55
          have _f_60 := (_q53.ch _cw_55 (fun g hg hm => by have _h0 := List.mem_singleton.1 hm; rcases _ap53 with ea | ea; (rw [ea] at hg; exact _nb0_3_4 (by first | exact hg | exact _h0 ▸ hg)); (rw [ea] at hg; have _z1 := List.mem_singleton.1 hg; omega)))
          have _on_59 : Ol acs 59 1 _w_55 (.slice _Av53 ((ps ++ [(_p51 : Addr)])).length _Cv53) ((ps ++ [(_p51 : Addr)])) := by
            have hx := _f_60
            exact hx
          exact thn_nrm (Exists.intro ((i + 1), (ps ++ [(_p51 : Addr)]), (.slice _Av53 ((ps ++ [(_p51 : Addr)])).length _Cv53)) ⟨⟨E, (by omega), (by omega), _on_59, (Lo.down _lo53 (by omega)), (by rw [take_snoc ht43, List.map_append]; exact k9), _m_56, (fun hm => by rcases _ap53 with ea | ea; (rw [ea] at hm; exact _nb0_3_4 (by first | exact hm | exact _h0 ▸ hm)); (rw [ea] at hm; have _z1 := List.mem_singleton.1 hm; omega))⟩, Sub.cons rfl (Sub.cons rfl (Sub.cons rfl (Sub.cons rfl (Sub.cons rfl (Sub.nil _))))), (by first | omega | (dsimp only; omega))⟩)
        · refine DO_s rfl rfl rfl ?_
          refine s_buildSliceP (parts := [(0, .tmp 51)]) [(_p51 : Addr)] el66 sz59 zr59 rfl rfl (by decide) (by decide) rfl fun _v52 _w_61 _q52 _lo52 _cw_61 => ?_
          have _cw_61z := _cw_61.size
          have E := E.trans _cw_61
          obtain ⟨_Av52, _Cv52, _ev52⟩ := _q52.val
          subst _ev52
          have _lv52 := _q52.len
          have _hiv52 := _q52.lt
          have _S_62 : Ch ((bl (.slice Asv (ps).length Csv)) ++ [_b35]) _w_28 _w_61 := (_S_47.trans _cw_61.of_nil)
          refine ⟨_S_62, ?_⟩
          refine DR_one 4 (by kernel_rfl) ?_
          refine DO_s rfl rfl rfl ?_
          have _f_63 := (((_m0_3.ch0 _cw_28).ch0 _cw_46).ch0 _cw_61)
          refine s_v (r_loadAt _f_63.at_ agg66 rfl rfl) ?_
          refine ⟨_S_62, ?_⟩
          refine DR_one 8 (by kernel_rfl) ?_
          refine DO_s rfl rfl rfl ?_
          have _f_65 := (((o0_3_4.ch0 _cw_28).ch0 _cw_46).ch0 _cw_61)
          refine s_append (cs := acs) el66 sz59 by59 zr59 rfl (by decide) acs_one _f_65 _q52.ls rfl rfl (by have _h5 := kds.1; simp only [List.length_map, List.length_take] at _h5; simp only [List.length_singleton]; omega) (by have _h5 := kds.1; simp only [List.length_map, List.length_take] at _h5; simp only [List.length_singleton]; omega) lo0_3_4 (by omega) fun _v53 _w_64 _q53 _lo53 _ap53 _cw_64 => ?_
          have _cw_64z := _cw_64.size
          have E := E.step _cw_64 (fun i hi => .inl (by have _h1 := lo0_3_4 _ hi; omega))
          obtain ⟨_Av53, _Cv53, _ev53⟩ := _q53.val
          subst _ev53
          have _lv53 := _q53.len
          have _hiv53 := _q53.lt
          have _S_66 : Ch ((bl (.slice Asv (ps).length Csv)) ++ [_b35]) _w_28 _w_64 := (_S_62.step _cw_64 (fun i hm => by exact .inr (List.mem_append_left _ hm)))
          refine ⟨_S_66, ?_⟩
          refine DR_s 9 rfl (by kernel_rfl) rfl rfl (t_v (fun _ => (r_nilCheck rfl)) ?_)
          refine DR_s 10 rfl (by kernel_rfl) rfl rfl (t_v (fun _ => (r_fieldAddr fa68_1 rfl)) ?_)
          refine DR_one 11 (by kernel_rfl) ?_
          refine DO_s rfl rfl rfl ?_
          have _f_67 := (_f_63.ch _cw_64 (fun hm => by exact _nb0_3_4 (by first | exact hm | exact _h0 ▸ hm)))
          refine s_store1 (off := 4) _f_67 sz66 rfl rfl rfl rfl fun _w_68 _m_69 _cw_68 => ?_
          have _cw_68z := _cw_68.size
          have E := E.step _cw_68 (fun i hi => .inl (by have _h1 := List.mem_singleton.1 hi; omega))
          replace _m_69 : Blk _w_68 _b35 68 [(.int .i64 x.tok.kind), (.int .i64 x.tok.letter), (.int .i64 x.tok.low), (.int .i64 x.tok.high), (.slice _Av53 ((ps ++ [(_p51 : Addr)])).length _Cv53)] := _m_69
          have _S_70 : Ch ((bl (.slice Asv (ps).length Csv)) ++ [_b35]) _w_28 _w_68 := (_S_66.step _cw_68 (fun i hm => by have _h0 := List.mem_singleton.1 hm; exact .inr (by rw [_h0]; exact (List.mem_append_right _ (List.mem_singleton.2 rfl)))))
          refine ⟨_S_70, ?_⟩
          refine DR_done (by kernel_rfl) ?_
          refine inB_nrm ?_
          refine thn_nrm (_hK_24 _ _ ?_)
          clear _hK_24
          refine W_region ?_
          refine WL_step rfl rfl (r_add (by omega) rfl rfl) ?_
          refine WL_step rfl rfl (r_move rfl) ?_
          refine WL_nil ?_
          have _f_71 := (_tr51.ch0 _cw_61)
          have k9 := (KdN.grow kds (by omega) hisv (by omega) ((((Ch.refl [] _wr_20).trans _cw_28).trans _cw_46).trans _cw_61) _f_71 (by omega) (by omega) _cw_64 _ap53).bo _cw_68
          have _f_73 := (_q53.ch _cw_68 (fun g hg hm => by have _h0 := List.mem_singleton.1 hm; rcases _ap53 with ea | ea; (rw [ea] at hg; exact _nb0_3_4 (by first | exact hg | exact _h0 ▸ hg)); (rw [ea] at hg; have _z1 := List.mem_singleton.1 hg; omega)))
          have _on_72 : Ol acs 59 1 _w_68 (.slice _Av53 ((ps ++ [(_p51 : Addr)])).length _Cv53) ((ps ++ [(_p51 : Addr)])) := by
            have hx := _f_73
            exact hx
          exact thn_nrm (Exists.intro ((i + 1), (ps ++ [(_p51 : Addr)]), (.slice _Av53 ((ps ++ [(_p51 : Addr)])).length _Cv53)) ⟨⟨E, (by omega), (by omega), _on_72, (Lo.down _lo53 (by omega)), (by rw [take_snoc ht43, List.map_append]; exact k9), _m_69, (fun hm => by rcases _ap53 with ea | ea; (rw [ea] at hm; exact _nb0_3_4 (by first | exact hm | exact _h0 ▸ hm)); (rw [ea] at hm; have _z1 := List.mem_singleton.1 hm; omega))⟩, Sub.cons rfl (Sub.cons rfl (Sub.cons rfl (Sub.cons rfl (Sub.cons rfl (Sub.nil _))))), (by first | omega | (dsimp only; omega))⟩)
    · have _kb_23 := _h42
      have _h42 := bf_d _h42
      refine W_exit (thn_exit (thn_exit (inB_hit ?_)))
      refine thn_nrm (_hK_16 _ _ ?_)
      clear _hK_16
      refine W_seq fun _K_74 _hK_74 => ?_
      refine W_region ?_
      refine WL_step rfl rfl (r_move rfl) ?_
      refine WL_step rfl rfl (r_assign rfl) ?_
      refine WL_nil ?_
      refine thn_nrm (_hK_74 _ _ ?_)
      clear _hK_74
      refine W_ret ?_
      clear _hK_22
      exact ret_intro [_] ⟨rfl, trivial⟩ ⟨_, rfl, (exp_done (show KdN _ _ _ _ _ (x.kids.map expT) from (by rw [List.take_of_length_le (by omega)] at kds; exact kds)) _m0_3 (by omega) o0_3_4 (Lo.down lo0_3_4 (by omega)) (by omega) (by omega)), E⟩
theorem c_impl_tree_expand {w : World} {LT_x _B_x : Nat} {p_x : Addr} {x : Tr} (_h_x : TrAt w LT_x _B_x p_x x) (hok : Okd x) :
    Ctr Try.prog 70 #[(.pointer (some p_x))] w (fun v w' => ∃ p, v = .pointer (some p) ∧ TrAt w' w.heap.size w'.heap.size p (expT x) ∧ Ch [] w w') := c_impl_tree_expand_n _ _h_x hok (Nat.lt_succ_self _)

/-- impl.ExpandExpr -/
theorem c_impl_ExpandExpr {w : World} {LL_e _B_e : Nat} {_v_e : Value} {e : List Token} (_h_e : Ls Token.cs 4 w LL_e _B_e _v_e e) (hb : e.length ≤ 1048576) :
    Ctr Try.prog 37 #[(.agg #[_v_e])] w (fun v w' => ∃ (u0x0 : Value), v = .tuple #[.agg #[u0x0], .bool ((expE e).2)] ∧ Ol Token.cs 57 4 w' u0x0 ((expE e).1) ∧ Lo w.heap.size u0x0 ∧ Ch [] w w') := by
  obtain ⟨_A_e, _C_e, _e1_e⟩ := _h_e.val
  subst _e1_e
  have _l_e := _h_e.len
  have _h_e := _h_e.here (by decide)
  have E := Ch.refl [] w
  refine Ctr_of_W (N := 25) (vs0 := [(.agg #[(.slice _A_e e.length _C_e)])]) Try.func37 rfl rfl rfl ?_
  refine W_seq fun _K_1 _hK_1 => ?_
  refine W_region ?_
  refine WL_s rfl rfl ?_
  refine s_box rfl fun _b1 _w_2 _m1 _cw_2 _e1 => ?_
  have _cw_2z := _cw_2.size
  have E := E.trans _cw_2
  have _z1 := _m1.lt
  replace _m1 : Blk _w_2 _b1 29 [(.slice _A_e e.length _C_e)] := _m1
  refine WL_s rfl rfl ?_
  refine s_alloc zr29 fun _b2 _w_3 _m2 _cw_3 _e2 => ?_
  have _cw_3z := _cw_3.size
  have E := E.trans _cw_3
  have _z2 := _m2.lt
  replace _m2 : Blk _w_3 _b2 29 [(.slice none 0 0)] := _m2
  refine WL_step rfl rfl (r_assign rfl) ?_
  refine WL_nil ?_
  refine thn_nrm (_hK_1 _ _ ?_)
  clear _hK_1
  refine W_seq fun _K_4 _hK_4 => ?_
  refine W_seq fun _K_5 _hK_5 => ?_
  refine W_region ?_
  have _f_6 := (_m1.ch0 _cw_3)
  refine WL_step rfl rfl (r_loadAtA0 _f_6.at_ agg29 sz29 rfl) ?_
  refine WL_s rfl rfl ?_
  have _f_7 := ((_h_e.ch0 _cw_2).ch0 _cw_3)
  refine Step.call (r_call (xs := [.tmp 6]) fk20 rfl) (c_impl_IsValidExpr _f_7 (by omega)) fun _v7 _w_8 _q7 => ?_
  obtain ⟨rfl, _cw_8⟩ := _q7
  have _cw_8z := _cw_8.size
  have E := E.trans _cw_8
  refine WL_step rfl rfl (r_not rfl) ?_
  refine WL_nil ?_
  refine thn_nrm (_hK_5 _ _ ?_)
  clear _hK_5
  refine W_cond rfl (fun _h8 => ?_) (fun _h8 => ?_)
  · have _kb_9 := _h8
    have _h8 := bt_n _h8
    refine W_seq fun _K_10 _hK_10 => ?_
    refine W_region ?_
    refine WL_step rfl rfl (r_build (parts := []) (cells := [(.slice none 0 0)]) zr29 pl29 rfl rfl) ?_
    refine WL_s rfl rfl ?_
    have _f_11 := (_m2.ch0 _cw_8)
    refine s_storeA (off := 0) 1 _f_11 sz29 rfl (us := [(.slice none 0 0)]) rfl rfl rfl rfl fun _w_12 _m_13 _cw_12 => ?_
    have _cw_12z := _cw_12.size
    have E := E.step _cw_12 (fun i hi => .inl (by have _h1 := List.mem_singleton.1 hi; omega))
    replace _m_13 : Blk _w_12 _b2 29 [(.slice none 0 0)] := _m_13
    refine WL_step rfl rfl (r_assign rfl) ?_
    refine WL_nil ?_
    refine thn_nrm (_hK_10 _ _ ?_)
    clear _hK_10
    refine W_ret (thn_ret ?_)
    clear _hK_4
    have _o_14 : Ol Token.cs 57 4 _w_12 (.slice none 0 0) ((expE e).1) := by
      have hx := (Ol.nil (cs := Token.cs) (e := 57) (k := 4) _w_12)
      first | (rw [expE_n _h8]; exact hx) | (rw [expE_n2 _e11 (by omega)]; exact hx) | (rw [expE_n3 _e11 (by rw [← Tr.flat_len]; omega)]; exact hx) | (rw [expE_y _e11 (by omega) (by omega) (by rw [← Tr.flat_len]; omega)]; exact hx)
    exact ret_intro [_, _] (resOf_loadA _m_13 rfl agg29 sz29 ⟨rfl, trivial⟩) ⟨(.slice none 0 0), (congrArg (fun zq => (Value.tuple #[.agg #[(.slice none 0 0)], .bool zq])) (by first | (rw [expE_n _h8]; done) | (rw [expE_n2 _e11 (by omega)]; done) | (rw [expE_n3 _e11 (by rw [← Tr.flat_len]; omega)]; done) | (rw [expE_y _e11 (by omega) (by omega) (by rw [← Tr.flat_len]; omega)]; done))), _o_14, (Lo.nil _), E⟩
  · have _kb_9 := _h8
    have _h8 := bf_n _h8
    obtain ⟨_t5, _e5, hok, hl, _h24⟩ := ivE_y _h8
    refine W_skip ?_
    refine thn_nrm (_hK_4 _ _ ?_)
    clear _hK_4
    refine W_seq fun _K_15 _hK_15 => ?_
    refine W_region ?_
    have _f_16 := (_f_6.ch0 _cw_8)
    refine WL_step rfl rfl (r_loadAtA0 _f_16.at_ agg29 sz29 rfl) ?_
    refine WL_s rfl rfl ?_
    have _f_17 := (_f_7.ch0 _cw_8)
    refine Step.call (r_call (xs := [.tmp 10]) fk51 rfl) (c_impl_treeOf _f_17 (by omega)) fun _v11 _w_18 _q11 => ?_
    obtain ⟨_q11, _cw_18⟩ := _q11
    have _cw_18z := _cw_18.size
    have E := E.trans _cw_18
    rcases _q11 with ⟨_e11, rfl⟩ | ⟨tt11, _p11, _e11, rfl, _tr11⟩
    · exact (ivE_tr _h8 _e11).elim
    · replace _tr11 : TrAt _w_18 _w_8.heap.size _w_18.heap.size _p11 tt11 := _tr11
      obtain ⟨_A_11, _C_11, _ps_11, _hc_11, _hk_11, _kd_11⟩ := _tr11.open
      have _kl_11 := _kd_11.1
      refine WL_step rfl rfl (r_assign rfl) ?_
      refine WL_nil ?_
      refine thn_nrm (_hK_15 _ _ ?_)
      clear _hK_15
      refine W_seq fun _K_19 _hK_19 => ?_
      refine W_seq fun _K_20 _hK_20 => ?_
      refine W_region ?_
      refine WL_step rfl rfl (r_move rfl) ?_
      refine WL_s rfl rfl ?_
      refine Step.call (r_call (xs := [.tmp 12]) fk69 rfl) (c_impl_tree_bound _tr11 (treeL_ok _e11).1) fun _v13 _w_21 _q13 => ?_
      obtain ⟨rfl, _cw_21⟩ := _q13
      have _cw_21z := _cw_21.size
      have E := E.trans _cw_21
      have _z9 := expT_sz (treeL_ok _e11).1
      refine WL_step rfl rfl (r_gtr rfl rfl) ?_
      refine WL_nil ?_
      refine thn_nrm (_hK_20 _ _ ?_)
      clear _hK_20
      refine W_cond rfl (fun _h14 => ?_) (fun _h14 => ?_)
      · have _kb_22 := _h14
        have _h14 := bt_d _h14
        refine W_seq fun _K_23 _hK_23 => ?_
        refine W_region ?_
        refine WL_step rfl rfl (r_build (parts := []) (cells := [(.slice none 0 0)]) zr29 pl29 rfl rfl) ?_
        refine WL_s rfl rfl ?_
        have _f_24 := (((_m2.ch0 _cw_8).ch0 _cw_18).ch0 _cw_21)
        refine s_storeA (off := 0) 1 _f_24 sz29 rfl (us := [(.slice none 0 0)]) rfl rfl rfl rfl fun _w_25 _m_26 _cw_25 => ?_
        have _cw_25z := _cw_25.size
        have E := E.step _cw_25 (fun i hi => .inl (by have _h1 := List.mem_singleton.1 hi; omega))
        replace _m_26 : Blk _w_25 _b2 29 [(.slice none 0 0)] := _m_26
        refine WL_step rfl rfl (r_assign rfl) ?_
        refine WL_nil ?_
        refine thn_nrm (_hK_23 _ _ ?_)
        clear _hK_23
        refine W_ret (thn_ret ?_)
        clear _hK_19
        have _o_27 : Ol Token.cs 57 4 _w_25 (.slice none 0 0) ((expE e).1) := by
          have hx := (Ol.nil (cs := Token.cs) (e := 57) (k := 4) _w_25)
          first | (rw [expE_n _h8]; exact hx) | (rw [expE_n2 _e11 (by omega)]; exact hx) | (rw [expE_n3 _e11 (by rw [← Tr.flat_len]; omega)]; exact hx) | (rw [expE_y _e11 (by omega) (by omega) (by rw [← Tr.flat_len]; omega)]; exact hx)
        exact ret_intro [_, _] (resOf_loadA _m_26 rfl agg29 sz29 ⟨rfl, trivial⟩) ⟨(.slice none 0 0), (congrArg (fun zq => (Value.tuple #[.agg #[(.slice none 0 0)], .bool zq])) (by first | (rw [expE_n _h8]; done) | (rw [expE_n2 _e11 (by omega)]; done) | (rw [expE_n3 _e11 (by rw [← Tr.flat_len]; omega)]; done) | (rw [expE_y _e11 (by omega) (by omega) (by rw [← Tr.flat_len]; omega)]; done))), _o_27, (Lo.nil _), E⟩
      · have _kb_22 := _h14
        have _h14 := bf_d _h14
        refine W_skip ?_
        refine thn_nrm (_hK_19 _ _ ?_)
        clear _hK_19
        refine W_seq fun _K_28 _hK_28 => ?_
        refine W_region ?_
        refine WL_step rfl rfl (r_move rfl) ?_
        refine WL_s rfl rfl ?_
        have _f_29 := (_tr11.ch0 _cw_21)
        refine Step.call (r_call (xs := [.tmp 16]) fk70 rfl) (c_impl_tree_expand _f_29 (treeL_ok _e11).1) fun _v17 _w_30 _q17 => ?_
        obtain ⟨_p17, rfl, _tr17, _cw_30⟩ := _q17
        have _cw_30z := _cw_30.size
        have E := E.trans _cw_30
        replace _tr17 : TrAt _w_30 _w_21.heap.size _w_30.heap.size _p17 (expT tt11) := _tr17
        obtain ⟨_A_17, _C_17, _ps_17, _hc_17, _hk_17, _kd_17⟩ := _tr17.open
        have _kl_17 := _kd_17.1
        refine WL_s rfl rfl ?_
        refine Step.call (r_call (xs := [.tmp 17]) fk57 rfl) (c_impl_tree_expr _tr17 (by have _z9 := expT_sz (treeL_ok _e11).1 (by omega); omega)) fun _v18 _w_31 _q18 => ?_
        obtain ⟨_u18, rfl, _q18, _lo18, _cw_31⟩ := _q18
        have _cw_31z := _cw_31.size
        have E := E.trans _cw_31
        obtain ⟨_Au18, _Cu18, _eu18⟩ := _q18.val
        subst _eu18
        have _lu18 := _q18.len
        have _hiu18 := _q18.lt
        refine WL_s rfl rfl ?_
        refine s_alloc zr29 fun _b5 _w_32 _m5 _cw_32 _e5 => ?_
        have _cw_32z := _cw_32.size
        have E := E.trans _cw_32
        have _z5 := _m5.lt
        replace _m5 : Blk _w_32 _b5 29 [(.slice none 0 0)] := _m5
        refine WL_s rfl rfl ?_
        refine s_storeA (off := 0) 1 _m5 sz29 rfl (us := [(.slice _Au18 ((expT tt11).flat).length _Cu18)]) rfl rfl rfl rfl fun _w_33 _m_34 _cw_33 => ?_
        have _cw_33z := _cw_33.size
        have E := E.step _cw_33 (fun i hi => .inl (by have _h1 := List.mem_singleton.1 hi; omega))
        replace _m_34 : Blk _w_33 _b5 29 [(.slice _Au18 ((expT tt11).flat).length _Cu18)] := _m_34
        refine WL_nil ?_
        refine thn_nrm (_hK_28 _ _ ?_)
        clear _hK_28
        refine W_seq fun _K_35 _hK_35 => ?_
        refine W_seq fun _K_36 _hK_36 => ?_
        refine W_region ?_
        refine WL_step rfl rfl (r_fieldAddr fa29_0 rfl) ?_
        refine WL_step rfl rfl (r_loadAt _m_34.at_ agg27 rfl rfl) ?_
        refine WL_step rfl rfl (r_len (by rw [el27]; rfl) rfl) ?_
        refine WL_step rfl rfl (r_gtr rfl rfl) ?_
        refine WL_nil ?_
        refine thn_nrm (_hK_36 _ _ ?_)
        clear _hK_36
        refine W_cond rfl (fun _h22 => ?_) (fun _h22 => ?_)
        · have _kb_37 := _h22
          have _h22 := bt_d _h22
          refine W_seq fun _K_38 _hK_38 => ?_
          refine W_region ?_
          refine WL_step rfl rfl (r_build (parts := []) (cells := [(.slice none 0 0)]) zr29 pl29 rfl rfl) ?_
          refine WL_s rfl rfl ?_
          have _f_39 := (((((((_m2.ch0 _cw_8).ch0 _cw_18).ch0 _cw_21).ch0 _cw_30).ch0 _cw_31).ch0 _cw_32).ch _cw_33 (fun hm => by have _h1 := List.mem_singleton.1 hm; omega))
          refine s_storeA (off := 0) 1 _f_39 sz29 rfl (us := [(.slice none 0 0)]) rfl rfl rfl rfl fun _w_40 _m_41 _cw_40 => ?_
          have _cw_40z := _cw_40.size
          have E := E.step _cw_40 (fun i hi => .inl (by have _h1 := List.mem_singleton.1 hi; omega))
          replace _m_41 : Blk _w_40 _b2 29 [(.slice none 0 0)] := _m_41
          refine WL_step rfl rfl (r_assign rfl) ?_
          refine WL_nil ?_
          refine thn_nrm (_hK_38 _ _ ?_)
          clear _hK_38
          refine W_ret (thn_ret ?_)
          clear _hK_35
          have _o_42 : Ol Token.cs 57 4 _w_40 (.slice none 0 0) ((expE e).1) := by
            have hx := (Ol.nil (cs := Token.cs) (e := 57) (k := 4) _w_40)
            first | (rw [expE_n _h8]; exact hx) | (rw [expE_n2 _e11 (by omega)]; exact hx) | (rw [expE_n3 _e11 (by rw [← Tr.flat_len]; omega)]; exact hx) | (rw [expE_y _e11 (by omega) (by omega) (by rw [← Tr.flat_len]; omega)]; exact hx)
          exact ret_intro [_, _] (resOf_loadA _m_41 rfl agg29 sz29 ⟨rfl, trivial⟩) ⟨(.slice none 0 0), (congrArg (fun zq => (Value.tuple #[.agg #[(.slice none 0 0)], .bool zq])) (by first | (rw [expE_n _h8]; done) | (rw [expE_n2 _e11 (by omega)]; done) | (rw [expE_n3 _e11 (by rw [← Tr.flat_len]; omega)]; done) | (rw [expE_y _e11 (by omega) (by omega) (by rw [← Tr.flat_len]; omega)]; done))), _o_42, (Lo.nil _), E⟩
        · have _kb_37 := _h22
          have _h22 := bf_d _h22
          refine W_skip ?_
          refine thn_nrm (_hK_35 _ _ ?_)
          clear _hK_35
          refine W_seq fun _K_43 _hK_43 => ?_
          refine W_region ?_
          refine WL_step rfl rfl (r_loadAtA0 _m_34.at_ agg29 sz29 rfl) ?_
          refine WL_s rfl rfl ?_
          have _f_44 := (((((((_m2.ch0 _cw_8).ch0 _cw_18).ch0 _cw_21).ch0 _cw_30).ch0 _cw_31).ch0 _cw_32).ch _cw_33 (fun hm => by have _h1 := List.mem_singleton.1 hm; omega))
          refine s_storeA (off := 0) 1 _f_44 sz29 rfl (us := [(.slice _Au18 ((expT tt11).flat).length _Cu18)]) rfl rfl rfl rfl fun _w_45 _m_46 _cw_45 => ?_
          have _cw_45z := _cw_45.size
          have E := E.step _cw_45 (fun i hi => .inl (by have _h1 := List.mem_singleton.1 hi; omega))
          replace _m_46 : Blk _w_45 _b2 29 [(.slice _Au18 ((expT tt11).flat).length _Cu18)] := _m_46
          refine WL_step rfl rfl (r_assign rfl) ?_
          refine WL_nil ?_
          refine thn_nrm (_hK_43 _ _ ?_)
          clear _hK_43
          refine W_ret ?_
          have _f_47 := (((_q18.ch0 _cw_32).ch _cw_33 (fun g hg hm => by have _h0 := List.mem_singleton.1 hm; have _h2 := _lo18 _ hg; have _h3 := _hiu18 _ hg; omega)).ch _cw_45 (fun g hg hm => by have _h0 := List.mem_singleton.1 hm; have _h2 := _lo18 _ hg; have _h3 := _hiu18 _ hg; omega))
          have _o_48 : Ol Token.cs 57 4 _w_45 (.slice _Au18 ((expT tt11).flat).length _Cu18) ((expE e).1) := by
            have hx := _f_47
            first | (rw [expE_n _h8]; exact hx) | (rw [expE_n2 _e11 (by omega)]; exact hx) | (rw [expE_n3 _e11 (by rw [← Tr.flat_len]; omega)]; exact hx) | (rw [expE_y _e11 (by omega) (by omega) (by rw [← Tr.flat_len]; omega)]; exact hx)
          exact ret_intro [_, _] (resOf_loadA _m_46 rfl agg29 sz29 ⟨rfl, trivial⟩) ⟨(.slice _Au18 ((expT tt11).flat).length _Cu18), (congrArg (fun zq => (Value.tuple #[.agg #[(.slice _Au18 ((expT tt11).flat).length _Cu18)], .bool zq])) (by first | (rw [expE_n _h8]; done) | (rw [expE_n2 _e11 (by omega)]; done) | (rw [expE_n3 _e11 (by rw [← Tr.flat_len]; omega)]; done) | (rw [expE_y _e11 (by omega) (by omega) (by rw [← Tr.flat_len]; omega)]; done))), _o_48, (Lo.down _lo18 (by omega)), E⟩

/-- spec.IsValidExpr -/
theorem c_spec_IsValidExpr {w : World} {LL_e _B_e : Nat} {_v_e : Value} {e : List Token} (_h_e : Ls Token.cs 4 w LL_e _B_e _v_e e) :
    Ctr Try.prog 19 #[(.agg #[_v_e])] w (fun v w' => v = .bool (ivE e) ∧ Ch [] w w') := by
  obtain ⟨_A_e, _C_e, _e1_e⟩ := _h_e.val
  subst _e1_e
  have _l_e := _h_e.len
  have _h_e := _h_e.here (by decide)
  have E := Ch.refl [] w
  refine Ctr_of_W (N := 11) (vs0 := [(.agg #[(.slice _A_e e.length _C_e)])]) Try.func19 rfl rfl rfl ?_
  refine W_seq fun _K_1 _hK_1 => ?_
  refine W_region ?_
  refine WL_s rfl rfl ?_
  refine s_box rfl fun _b1 _w_2 _m1 _cw_2 _e1 => ?_
  have _cw_2z := _cw_2.size
  have E := E.trans _cw_2
  have _z1 := _m1.lt
  replace _m1 : Blk _w_2 _b1 29 [(.slice _A_e e.length _C_e)] := _m1
  refine WL_step rfl rfl (r_assign rfl) ?_
  refine WL_nil ?_
  refine thn_nrm (_hK_1 _ _ ?_)
  clear _hK_1
  refine W_seq fun _K_3 _hK_3 => ?_
  refine W_region ?_
  refine WL_step rfl rfl (r_fieldAddr fa29_0 rfl) ?_
  refine WL_step rfl rfl (r_loadAt _m1.at_ agg27 rfl rfl) ?_
  refine WL_step rfl rfl (r_len (by rw [el27]; rfl) rfl) ?_
  refine WL_step rfl rfl (r_leq rfl rfl) ?_
  refine WL_step rfl rfl (r_move rfl) ?_
  refine WL_split (d := 7) rfl (fun _h7 => ?_) (fun _h7 => ?_)
  · have _kb_4 := _h7
    have _h7 := bt_d _h7
    refine WL_step rfl rfl (r_loadAtA0 _m1.at_ agg29 sz29 rfl) ?_
    refine WL_s rfl rfl ?_
    have _f_5 := (_h_e.ch0 _cw_2)
    refine Step.call (r_call (xs := [.tmp 8]) fk15 rfl) (c_spec_IsExpr _f_5 ) fun _v9 _w_6 _q9 => ?_
    obtain ⟨rfl, _cw_6⟩ := _q9
    have _cw_6z := _cw_6.size
    have E := E.trans _cw_6
    refine WL_step rfl rfl (r_pickT rfl rfl) ?_
    refine WL_step rfl rfl (r_assign rfl) ?_
    refine WL_nil ?_
    refine thn_nrm (_hK_3 _ _ ?_)
    clear _hK_3
    refine W_ret ?_
    exact ret_intro [_] ⟨rfl, trivial⟩ ⟨congrArg Value.bool (by unfold ivE; first | (rw [decide_eq_true (by omega)]; rfl) | (rw [decide_eq_false (by omega)]; rfl)), E⟩
  · have _kb_4 := _h7
    have _h7 := bf_d _h7
    refine WL_skip rfl rfl ?_
    refine WL_skip rfl rfl ?_
    refine WL_step rfl rfl (r_pickF rfl rfl) ?_
    refine WL_step rfl rfl (r_assign rfl) ?_
    refine WL_nil ?_
    refine thn_nrm (_hK_3 _ _ ?_)
    clear _hK_3
    refine W_ret ?_
    exact ret_intro [_] ⟨rfl, trivial⟩ ⟨congrArg Value.bool (by unfold ivE; first | (rw [decide_eq_true (by omega)]; rfl) | (rw [decide_eq_false (by omega)]; rfl)), E⟩

/-- spec.l10Times -/
theorem c_spec_l10Times_n : ∀ (n : Nat) {w : World} {LL_e _B_e : Nat} {_v_e : Value} {e : List Token} (_h_e : Ls Token.cs 4 w LL_e _B_e _v_e e) (low : Int) (high : Int) (x : Tr) (he : e = x.flat) (hx : x.sz ≤ 5000) (_h0 : 0 ≤ low) (hh : 0 ≤ high) (_h3 : high ≤ 3) (_h4 : low ≤ 3) (hsz : high.toNat < n),
    Ctr Try.prog 98 #[(.agg #[_v_e]), (.int .i64 low), (.int .i64 high)] w (fun v w' => ∃ u, v = .agg #[u] ∧ Ol Token.cs 57 4 w' u ((timT x low (high).toNat).flat) ∧ Lo w.heap.size u ∧ Ch [] w w') := by
  intro n
  induction n with
  | zero => intros; omega
  | succ n ih =>
  intro w LL_e _B_e _v_e e _h_e low high x he hx _h0 hh _h3 _h4 hsz
  obtain ⟨_A_e, _C_e, _e1_e⟩ := _h_e.val
  subst _e1_e
  have _l_e := _h_e.len
  have _h_e := _h_e.here (by decide)
  have E := Ch.refl [] w
  have xl := x.flat_len; rw [← he] at xl
  refine Ctr_of_W (N := 28) (vs0 := [(.agg #[(.slice _A_e e.length _C_e)]), (.int .i64 low), (.int .i64 high)]) Try.func98 rfl rfl rfl ?_
  refine W_seq fun _K_1 _hK_1 => ?_
  refine W_region ?_
  refine WL_s rfl rfl ?_
  refine s_box rfl fun _b3 _w_2 _m3 _cw_2 _e3 => ?_
  have _cw_2z := _cw_2.size
  have E := E.trans _cw_2
  have _z3 := _m3.lt
  replace _m3 : Blk _w_2 _b3 29 [(.slice _A_e e.length _C_e)] := _m3
  refine WL_s rfl rfl ?_
  refine s_alloc zr29 fun _b6 _w_3 _m6 _cw_3 _e6 => ?_
  have _cw_3z := _cw_3.size
  have E := E.trans _cw_3
  have _z6 := _m6.lt
  replace _m6 : Blk _w_3 _b6 29 [(.slice none 0 0)] := _m6
  refine WL_nil ?_
  refine thn_nrm (_hK_1 _ _ ?_)
  clear _hK_1
  refine W_seq fun _K_4 _hK_4 => ?_
  refine W_seq fun _K_5 _hK_5 => ?_
  refine W_region ?_
  refine WL_step rfl rfl (r_move rfl) ?_
  refine WL_step rfl rfl (r_eql rfl rfl) ?_
  refine WL_nil ?_
  refine thn_nrm (_hK_5 _ _ ?_)
  clear _hK_5
  refine W_cond rfl (fun _h9 => ?_) (fun _h9 => ?_)
  · have _kb_6 := _h9
    have _h9 := bt_d _h9
    refine W_seq fun _K_7 _hK_7 => ?_
    refine W_region ?_
    refine WL_s rfl rfl ?_
    refine Step.call (r_call (xs := [.const (Go.Value.int Go.IntKind.i64 2)]) fk88 rfl) (c_spec_l8Leaf _ ) fun _v10 _w_8 _q10 => ?_
    obtain ⟨_u10, rfl, _q10, _lo10, _cw_8⟩ := _q10
    have _cw_8z := _cw_8.size
    have E := E.trans _cw_8
    obtain ⟨_Au10, _Cu10, _eu10⟩ := _q10.val
    subst _eu10
    have _lu10 := _q10.len
    have _hiu10 := _q10.lt
    refine WL_s rfl rfl ?_
    have _f_9 := (_m6.ch0 _cw_8)
    refine s_storeA (off := 0) 1 _f_9 sz29 rfl (us := [(.slice _Au10 ([(⟨2, 0, 0, 0⟩ : Token)]).length _Cu10)]) rfl rfl rfl rfl fun _w_10 _m_11 _cw_10 => ?_
    have _cw_10z := _cw_10.size
    have E := E.step _cw_10 (fun i hi => .inl (by have _h1 := List.mem_singleton.1 hi; omega))
    replace _m_11 : Blk _w_10 _b6 29 [(.slice _Au10 ([(⟨2, 0, 0, 0⟩ : Token)]).length _Cu10)] := _m_11
    refine WL_nil ?_
    refine thn_nrm (_hK_7 _ _ ?_)
    clear _hK_7
    refine W_ret (thn_ret ?_)
    clear _hK_4
    have _f_13 := (_q10.ch _cw_10 (fun g hg hm => by have _h0 := List.mem_singleton.1 hm; have _h2 := _lo10 _ hg; have _h3 := _hiu10 _ hg; omega))
    have _o_12 : Ol Token.cs 57 4 _w_10 (.slice _Au10 ([(⟨2, 0, 0, 0⟩ : Token)]).length _Cu10) ((timT x low (high).toNat).flat) := by
      have hx := _f_13
      exact hx.eq (by first | (rw [← tim0 (x := x) (low := low) (by omega)]; rfl) | (rw [← timp (x := x) (low := low) (by omega) (by omega) (by omega), he]; rfl) | (rw [← timn (x := x) (low := low) (by omega) (by omega) (by omega), he]; rfl))
    exact ret_intro [_] (resOf_loadA _m_11 rfl agg29 sz29 trivial) ⟨_, rfl, _o_12, Lo.down _lo10 (by omega), E⟩
  · have _kb_6 := _h9
    have _h9 := bf_d _h9
    refine W_skip ?_
    refine thn_nrm (_hK_4 _ _ ?_)
    clear _hK_4
    refine W_seq fun _K_14 _hK_14 => ?_
    have _J_16 : ∀ (lj : KL) (_wj_15 : World) (jb7 : Nat) (ju7_0 : Value), Go.KLib.Sub [(1, (.int .i64 low)), (6, (.pointer (some ⟨_b6, 0, none⟩))), (7, (.pointer (some ⟨jb7, 0, none⟩)))] lj → Ch [] _w_3 _wj_15 → Ol Token.cs 57 4 _wj_15 ju7_0 (e ++ ((timT x (if (low - 1) > 0 then (low - 1) else 0) ((high - 1)).toNat).flat) ++ [(⟨4, 0, 0, 0⟩ : Token)]) → Lo _w_3.heap.size ju7_0 → Blk _wj_15 jb7 29 [ju7_0] → _w_3.heap.size ≤ jb7 → jb7 ∉ bl ju7_0 → _K_14 lj _wj_15 := by
      intro lj _wj_15 jb7 ju7_0 _jsub _cjK_14 _qju7_0 _loju7_0 _mjb7 _ejb7 _nbjb7ju7_0
      refine _hK_14 _ _ (W_sub _jsub ?_)
      clear _hK_14
      have _cjK_14z := _cjK_14.size
      have E := E.trans _cjK_14
      obtain ⟨_Aju7_0, _Cju7_0, _eju7_0⟩ := _qju7_0.val
      subst _eju7_0
      have _lju7_0 := _qju7_0.len
      have _hiju7_0 := _qju7_0.lt
      have _zjb7 := _mjb7.lt
      refine W_seq fun _K_17 _hK_17 => ?_
      refine W_seq fun _K_18 _hK_18 => ?_
      refine W_region ?_
      refine WL_step rfl rfl (r_move rfl) ?_
      refine WL_step rfl rfl (r_gtr rfl rfl) ?_
      refine WL_nil ?_
      refine thn_nrm (_hK_18 _ _ ?_)
      clear _hK_18
      refine W_cond rfl (fun _h22 => ?_) (fun _h22 => ?_)
      · have _kb_19 := _h22
        have _h22 := bt_d _h22
        refine W_seq fun _K_20 _hK_20 => ?_
        refine W_region ?_
        refine WL_step rfl rfl (r_loadAtA0 _mjb7.at_ agg29 sz29 rfl) ?_
        refine WL_s rfl rfl ?_
        have _f_21 := (_m6.ch0 _cjK_14)
        refine s_storeA (off := 0) 1 _f_21 sz29 rfl (us := [(.slice _Aju7_0 (e ++ ((timT x (if (low - 1) > 0 then (low - 1) else 0) ((high - 1)).toNat).flat) ++ [(⟨4, 0, 0, 0⟩ : Token)]).length _Cju7_0)]) rfl rfl rfl rfl fun _w_22 _m_23 _cw_22 => ?_
        have _cw_22z := _cw_22.size
        have E := E.step _cw_22 (fun i hi => .inl (by have _h1 := List.mem_singleton.1 hi; omega))
        replace _m_23 : Blk _w_22 _b6 29 [(.slice _Aju7_0 (e ++ ((timT x (if (low - 1) > 0 then (low - 1) else 0) ((high - 1)).toNat).flat) ++ [(⟨4, 0, 0, 0⟩ : Token)]).length _Cju7_0)] := _m_23
        refine WL_nil ?_
        refine thn_nrm (_hK_20 _ _ ?_)
        clear _hK_20
        refine W_ret (thn_ret ?_)
        clear _hK_17
        have _f_25 := (_qju7_0.ch _cw_22 (fun g hg hm => by have _h0 := List.mem_singleton.1 hm; have _h2 := _loju7_0 _ hg; have _h3 := _hiju7_0 _ hg; omega))
        have _o_24 : Ol Token.cs 57 4 _w_22 (.slice _Aju7_0 (e ++ ((timT x (if (low - 1) > 0 then (low - 1) else 0) ((high - 1)).toNat).flat) ++ [(⟨4, 0, 0, 0⟩ : Token)]).length _Cju7_0) ((timT x low (high).toNat).flat) := by
          have hx := _f_25
          exact hx.eq (by first | (rw [← tim0 (x := x) (low := low) (by omega)]; rfl) | (rw [← timp (x := x) (low := low) (by omega) (by omega) (by omega), he]; rfl) | (rw [← timn (x := x) (low := low) (by omega) (by omega) (by omega), he]; rfl))
        exact ret_intro [_] (resOf_loadA _m_23 rfl agg29 sz29 trivial) ⟨_, rfl, _o_24, Lo.down _loju7_0 (by omega), E⟩
      · have _kb_19 := _h22
        have _h22 := bf_d _h22
        refine W_skip ?_
        refine thn_nrm (_hK_17 _ _ ?_)
        clear _hK_17
        refine W_seq fun _K_26 _hK_26 => ?_
        refine W_drawC [_b6] 5 mixed rfl fun _w_27 _cw_27 => ?_
        have _cw_27z := _cw_27.size
        have E := E.trans _cw_27
        have _f_28 := (_mjb7.ch0 _cw_27)
        refine DR_s 0 rfl (by kernel_rfl) rfl rfl (t_loadAtA0 _f_28.at_ (fun i hm => by have _h1 := List.mem_singleton.1 hm; omega) agg29 sz29 rfl ?_)
        refine DR_s 2 rfl (by kernel_rfl) rfl rfl (t_v (fun _ => (r_build (parts := [(0, .const (Go.Value.int Go.IntKind.i64 5))]) (cells := [(.int .i64 5), (.int .i64 0), (.int .i64 0), (.int .i64 0)]) zr57 pl57 rfl rfl)) ?_)
        refine DR_one 1 (by kernel_rfl) ?_
        refine DO_s rfl rfl rfl ?_
        refine Step.call (r_call (xs := [.const (Go.Value.int Go.IntKind.i64 2)]) fk88 rfl) (c_spec_l8Leaf _ ) fun _v25 _w_29 _q25 => ?_
        obtain ⟨_u25, rfl, _q25, _lo25, _cw_29⟩ := _q25
        have _cw_29z := _cw_29.size
        have E := E.trans _cw_29
        obtain ⟨_Au25, _Cu25, _eu25⟩ := _q25.val
        subst _eu25
        have _lu25 := _q25.len
        have _hiu25 := _q25.lt
        have _S_30 : Ch [_b6] _w_27 _w_29 := ((Ch.refl _ _).trans _cw_29.of_nil)
        refine ⟨_S_30, ?_⟩
        refine DR_one 3 (by kernel_rfl) ?_
        refine DO_s rfl rfl rfl ?_
        have _f_31 := ((_qju7_0.ch0 _cw_27).ch0 _cw_29)
        refine Step.call (r_call (xs := [.tmp 24, .tmp 25, .tmp 26]) fk97 rfl) (c_spec_l8Join _f_31.ls _q25.ls ⟨5, 0, 0, 0⟩ (by have _h9 := timT_le (x := x) (n := high - 1) (if low - 1 > 0 then low - 1 else 0) hx (by omega); simp only [List.length_append, List.length_singleton, Tr.flat_len]; omega)) fun _v27 _w_32 _q27 => ?_
        obtain ⟨_u27, rfl, _q27, _lo27, _cw_32⟩ := _q27
        have _cw_32z := _cw_32.size
        have E := E.trans _cw_32
        obtain ⟨_Au27, _Cu27, _eu27⟩ := _q27.val
        subst _eu27
        have _lu27 := _q27.len
        have _hiu27 := _q27.lt
        have _S_33 : Ch [_b6] _w_27 _w_32 := (_S_30.trans _cw_32.of_nil)
        refine ⟨_S_33, ?_⟩
        refine DR_one 4 (by kernel_rfl) ?_
        refine DO_s rfl rfl rfl ?_
        have _f_34 := ((((_m6.ch0 _cjK_14).ch0 _cw_27).ch0 _cw_29).ch0 _cw_32)
        refine s_storeA (off := 0) 1 _f_34 sz29 rfl (us := [(.slice _Au27 ((e ++ ((timT x (if (low - 1) > 0 then (low - 1) else 0) ((high - 1)).toNat).flat) ++ [(⟨4, 0, 0, 0⟩ : Token)]) ++ ([(⟨2, 0, 0, 0⟩ : Token)]) ++ [(⟨5, 0, 0, 0⟩ : Token)]).length _Cu27)]) rfl rfl rfl rfl fun _w_35 _m_36 _cw_35 => ?_
        have _cw_35z := _cw_35.size
        have E := E.step _cw_35 (fun i hi => .inl (by have _h1 := List.mem_singleton.1 hi; omega))
        replace _m_36 : Blk _w_35 _b6 29 [(.slice _Au27 ((e ++ ((timT x (if (low - 1) > 0 then (low - 1) else 0) ((high - 1)).toNat).flat) ++ [(⟨4, 0, 0, 0⟩ : Token)]) ++ ([(⟨2, 0, 0, 0⟩ : Token)]) ++ [(⟨5, 0, 0, 0⟩ : Token)]).length _Cu27)] := _m_36
        have _S_37 : Ch [_b6] _w_27 _w_35 := (_S_33.step _cw_35 (fun i hm => by have _h0 := List.mem_singleton.1 hm; exact .inr (by rw [_h0]; exact (List.mem_singleton.2 rfl))))
        refine ⟨_S_37, ?_⟩
        refine DR_done (by kernel_rfl) ?_
        refine thn_nrm (_hK_26 _ _ ?_)
        clear _hK_26
        refine W_ret ?_
        have _f_39 := (_q27.ch _cw_35 (fun g hg hm => by have _h0 := List.mem_singleton.1 hm; have _h2 := _lo27 _ hg; have _h3 := _hiu27 _ hg; omega))
        have _o_38 : Ol Token.cs 57 4 _w_35 (.slice _Au27 ((e ++ ((timT x (if (low - 1) > 0 then (low - 1) else 0) ((high - 1)).toNat).flat) ++ [(⟨4, 0, 0, 0⟩ : Token)]) ++ ([(⟨2, 0, 0, 0⟩ : Token)]) ++ [(⟨5, 0, 0, 0⟩ : Token)]).length _Cu27) ((timT x low (high).toNat).flat) := by
          have hx := _f_39
          exact hx.eq (by first | (rw [← tim0 (x := x) (low := low) (by omega)]; rfl) | (rw [← timp (x := x) (low := low) (by omega) (by omega) (by omega), he]; rfl) | (rw [← timn (x := x) (low := low) (by omega) (by omega) (by omega), he]; rfl))
        exact ret_intro [_] (resOf_loadA _m_36 rfl agg29 sz29 trivial) ⟨_, rfl, _o_38, Lo.down _lo27 (by omega), E⟩
    clear _hK_14
    refine W_drawC [] 12 mixed rfl fun _w_40 _cw_40 => ?_
    have _cw_40z := _cw_40.size
    have E := E.trans _cw_40
    have _f_41 := ((_m3.ch0 _cw_3).ch0 _cw_40)
    refine DR_s 0 rfl (by kernel_rfl) rfl rfl (t_loadAtA0 _f_41.at_ (fun i hi => absurd hi List.not_mem_nil) agg29 sz29 rfl ?_)
    refine DR_s 1 rfl (by kernel_rfl) rfl rfl (t_loadAtA0 _f_41.at_ (fun i hi => absurd hi List.not_mem_nil) agg29 sz29 rfl ?_)
    refine DR_s 2 rfl (by kernel_rfl) rfl rfl (t_v (fun _ => (r_move rfl)) ?_)
    refine DR_s 3 rfl (by kernel_rfl) rfl rfl (t_v (fun _ => (r_sub (by omega) rfl rfl)) ?_)
    refine DR_s 4 rfl (by kernel_rfl) rfl rfl (t_v (fun _ => (r_max rfl rfl)) ?_)
    refine DR_s 5 rfl (by kernel_rfl) rfl rfl (t_v (fun _ => (r_move rfl)) ?_)
    refine DR_s 6 rfl (by kernel_rfl) rfl rfl (t_v (fun _ => (r_sub (by omega) rfl rfl)) ?_)
    refine DR_s 8 rfl (by kernel_rfl) rfl rfl (t_v (fun _ => (r_build (parts := [(0, .const (Go.Value.int Go.IntKind.i64 4))]) (cells := [(.int .i64 4), (.int .i64 0), (.int .i64 0), (.int .i64 0)]) zr57 pl57 rfl rfl)) ?_)
    refine DR_two 7 10 (by kernel_rfl) ?_ ?_
    · refine DO_s rfl rfl rfl ?_
      have _f_42 := (((_h_e.ch0 _cw_2).ch0 _cw_3).ch0 _cw_40)
      refine Step.call (r_call (xs := [.tmp 12, .tmp 15, .tmp 17]) fk98 rfl) (ih _f_42 _ _ x he hx (by split <;> omega) (by omega) (by omega) (by split <;> omega) (by omega)) fun _v18 _w_43 _q18 => ?_
      obtain ⟨_u18, rfl, _q18, _lo18, _cw_43⟩ := _q18
      have _cw_43z := _cw_43.size
      have E := E.trans _cw_43
      obtain ⟨_Au18, _Cu18, _eu18⟩ := _q18.val
      subst _eu18
      have _lu18 := _q18.len
      have _hiu18 := _q18.lt
      have _S_44 : Ch [] _w_40 _w_43 := ((Ch.refl _ _).trans _cw_43)
      refine ⟨_S_44, ?_⟩
      refine DR_two 9 10 (by kernel_rfl) ?_ ?_
      · refine DO_s rfl rfl rfl ?_
        have _f_45 := (_f_42.ch0 _cw_43)
        refine Step.call (r_call (xs := [.tmp 11, .tmp 18, .tmp 19]) fk97 rfl) (c_spec_l8Join _f_45 _q18.ls ⟨4, 0, 0, 0⟩ (by have _h9 := timT_le (x := x) (n := high - 1) (if low - 1 > 0 then low - 1 else 0) hx (by omega); rw [Tr.flat_len]; omega)) fun _v20 _w_46 _q20 => ?_
        obtain ⟨_u20, rfl, _q20, _lo20, _cw_46⟩ := _q20
        have _cw_46z := _cw_46.size
        have E := E.trans _cw_46
        obtain ⟨_Au20, _Cu20, _eu20⟩ := _q20.val
        subst _eu20
        have _lu20 := _q20.len
        have _hiu20 := _q20.lt
        have _S_47 : Ch [] _w_40 _w_46 := (_S_44.trans _cw_46)
        refine ⟨_S_47, ?_⟩
        refine DR_one 10 (by kernel_rfl) ?_
        refine DO_s rfl rfl rfl ?_
        refine s_alloc zr29 fun _b7 _w_48 _m7 _cw_48 _e7 => ?_
        have _cw_48z := _cw_48.size
        have E := E.trans _cw_48
        have _z7 := _m7.lt
        replace _m7 : Blk _w_48 _b7 29 [(.slice none 0 0)] := _m7
        have _S_49 : Ch [] _w_40 _w_48 := (_S_47.trans _cw_48)
        refine ⟨_S_49, ?_⟩
        refine DR_one 11 (by kernel_rfl) ?_
        refine DO_s rfl rfl rfl ?_
        refine s_storeA (off := 0) 1 _m7 sz29 rfl (us := [(.slice _Au20 (e ++ ((timT x (if (low - 1) > 0 then (low - 1) else 0) ((high - 1)).toNat).flat) ++ [(⟨4, 0, 0, 0⟩ : Token)]).length _Cu20)]) rfl rfl rfl rfl fun _w_50 _m_51 _cw_50 => ?_
        have _cw_50z := _cw_50.size
        have E := E.step _cw_50 (fun i hi => .inl (by have _h1 := List.mem_singleton.1 hi; omega))
        replace _m_51 : Blk _w_50 _b7 29 [(.slice _Au20 (e ++ ((timT x (if (low - 1) > 0 then (low - 1) else 0) ((high - 1)).toNat).flat) ++ [(⟨4, 0, 0, 0⟩ : Token)]).length _Cu20)] := _m_51
        have _S_52 : Ch [] _w_40 _w_50 := (_S_49.step _cw_50 (fun i hm => by have _h0 := List.mem_singleton.1 hm; left; omega))
        refine ⟨_S_52, ?_⟩
        refine DR_done (by kernel_rfl) ?_
        refine thn_nrm ?_
        have _f_53 := ((_q20.ch0 _cw_48).ch _cw_50 (fun g hg hm => by have _h0 := List.mem_singleton.1 hm; have _h2 := _lo20 _ hg; have _h3 := _hiu20 _ hg; omega))
        exact _J_16 _ _ _b7 (.slice _Au20 (e ++ ((timT x (if (low - 1) > 0 then (low - 1) else 0) ((high - 1)).toNat).flat) ++ [(⟨4, 0, 0, 0⟩ : Token)]).length _Cu20) (Sub.cons rfl (Sub.cons rfl (Sub.cons rfl (Sub.nil _)))) ((((((Ch.refl [] _w_3).trans _cw_40).trans _cw_43).trans _cw_46).trans _cw_48).step _cw_50 (fun i hi => .inl (by have _h1 := List.mem_singleton.1 hi; omega))) _f_53 (Lo.down _lo20 (by omega)) _m_51 (by omega) (fun hm => by have _h1 := _lo20 _ hm; have _h2 := _hiu20 _ hm; omega)
      · refine DO_s rfl rfl rfl ?_
        refine s_alloc zr29 fun _b7 _w_54 _m7 _cw_54 _e7 => ?_
        have _cw_54z := _cw_54.size
        have E := E.trans _cw_54
        have _z7 := _m7.lt
        replace _m7 : Blk _w_54 _b7 29 [(.slice none 0 0)] := _m7
        have _S_55 : Ch [] _w_40 _w_54 := (_S_44.trans _cw_54)
        refine ⟨_S_55, ?_⟩
        refine DR_one 9 (by kernel_rfl) ?_
        refine DO_s rfl rfl rfl ?_
        have _f_56 := ((_f_42.ch0 _cw_43).ch0 _cw_54)
        have _f_57 := (_q18.ch0 _cw_54)
        refine Step.call (r_call (xs := [.tmp 11, .tmp 18, .tmp 19]) fk97 rfl) (c_spec_l8Join _f_56 _f_57.ls ⟨4, 0, 0, 0⟩ (by have _h9 := timT_le (x := x) (n := high - 1) (if low - 1 > 0 then low - 1 else 0) hx (by omega); rw [Tr.flat_len]; omega)) fun _v20 _w_58 _q20 => ?_
        obtain ⟨_u20, rfl, _q20, _lo20, _cw_58⟩ := _q20
        have _cw_58z := _cw_58.size
        have E := E.trans _cw_58
        obtain ⟨_Au20, _Cu20, _eu20⟩ := _q20.val
        subst _eu20
        have _lu20 := _q20.len
        have _hiu20 := _q20.lt
        have _S_59 : Ch [] _w_40 _w_58 := (_S_55.trans _cw_58)
        refine ⟨_S_59, ?_⟩
        refine DR_one 11 (by kernel_rfl) ?_
        refine DO_s rfl rfl rfl ?_
        have _f_60 := (_m7.ch0 _cw_58)
        refine s_storeA (off := 0) 1 _f_60 sz29 rfl (us := [(.slice _Au20 (e ++ ((timT x (if (low - 1) > 0 then (low - 1) else 0) ((high - 1)).toNat).flat) ++ [(⟨4, 0, 0, 0⟩ : Token)]).length _Cu20)]) rfl rfl rfl rfl fun _w_61 _m_62 _cw_61 => ?_
        have _cw_61z := _cw_61.size
        have E := E.step _cw_61 (fun i hi => .inl (by have _h1 := List.mem_singleton.1 hi; omega))
        replace _m_62 : Blk _w_61 _b7 29 [(.slice _Au20 (e ++ ((timT x (if (low - 1) > 0 then (low - 1) else 0) ((high - 1)).toNat).flat) ++ [(⟨4, 0, 0, 0⟩ : Token)]).length _Cu20)] := _m_62
        have _S_63 : Ch [] _w_40 _w_61 := (_S_59.step _cw_61 (fun i hm => by have _h0 := List.mem_singleton.1 hm; left; omega))
        refine ⟨_S_63, ?_⟩
        refine DR_done (by kernel_rfl) ?_
        refine thn_nrm ?_
        have _f_64 := (_q20.ch _cw_61 (fun g hg hm => by have _h0 := List.mem_singleton.1 hm; have _h2 := _lo20 _ hg; have _h3 := _hiu20 _ hg; omega))
        exact _J_16 _ _ _b7 (.slice _Au20 (e ++ ((timT x (if (low - 1) > 0 then (low - 1) else 0) ((high - 1)).toNat).flat) ++ [(⟨4, 0, 0, 0⟩ : Token)]).length _Cu20) (Sub.cons rfl (Sub.cons rfl (Sub.cons rfl (Sub.nil _)))) ((((((Ch.refl [] _w_3).trans _cw_40).trans _cw_43).trans _cw_54).trans _cw_58).step _cw_61 (fun i hi => .inl (by have _h1 := List.mem_singleton.1 hi; omega))) _f_64 (Lo.down _lo20 (by omega)) _m_62 (by omega) (fun hm => by have _h1 := _lo20 _ hm; have _h2 := _hiu20 _ hm; omega)
    · refine DO_s rfl rfl rfl ?_
      refine s_alloc zr29 fun _b7 _w_65 _m7 _cw_65 _e7 => ?_
      have _cw_65z := _cw_65.size
      have E := E.trans _cw_65
      have _z7 := _m7.lt
      replace _m7 : Blk _w_65 _b7 29 [(.slice none 0 0)] := _m7
      have _S_66 : Ch [] _w_40 _w_65 := ((Ch.refl _ _).trans _cw_65)
      refine ⟨_S_66, ?_⟩
      refine DR_one 7 (by kernel_rfl) ?_
      refine DO_s rfl rfl rfl ?_
      have _f_67 := ((((_h_e.ch0 _cw_2).ch0 _cw_3).ch0 _cw_40).ch0 _cw_65)
      refine Step.call (r_call (xs := [.tmp 12, .tmp 15, .tmp 17]) fk98 rfl) (ih _f_67 _ _ x he hx (by split <;> omega) (by omega) (by omega) (by split <;> omega) (by omega)) fun _v18 _w_68 _q18 => ?_
      obtain ⟨_u18, rfl, _q18, _lo18, _cw_68⟩ := _q18
      have _cw_68z := _cw_68.size
      have E := E.trans _cw_68
      obtain ⟨_Au18, _Cu18, _eu18⟩ := _q18.val
      subst _eu18
      have _lu18 := _q18.len
      have _hiu18 := _q18.lt
      have _S_69 : Ch [] _w_40 _w_68 := (_S_66.trans _cw_68)
      refine ⟨_S_69, ?_⟩
      refine DR_one 9 (by kernel_rfl) ?_
      refine DO_s rfl rfl rfl ?_
      have _f_70 := (_f_67.ch0 _cw_68)
      refine Step.call (r_call (xs := [.tmp 11, .tmp 18, .tmp 19]) fk97 rfl) (c_spec_l8Join _f_70 _q18.ls ⟨4, 0, 0, 0⟩ (by have _h9 := timT_le (x := x) (n := high - 1) (if low - 1 > 0 then low - 1 else 0) hx (by omega); rw [Tr.flat_len]; omega)) fun _v20 _w_71 _q20 => ?_
      obtain ⟨_u20, rfl, _q20, _lo20, _cw_71⟩ := _q20
      have _cw_71z := _cw_71.size
      have E := E.trans _cw_71
      obtain ⟨_Au20, _Cu20, _eu20⟩ := _q20.val
      subst _eu20
      have _lu20 := _q20.len
      have _hiu20 := _q20.lt
      have _S_72 : Ch [] _w_40 _w_71 := (_S_69.trans _cw_71)
      refine ⟨_S_72, ?_⟩
      refine DR_one 11 (by kernel_rfl) ?_
      refine DO_s rfl rfl rfl ?_
      have _f_73 := ((_m7.ch0 _cw_68).ch0 _cw_71)
      refine s_storeA (off := 0) 1 _f_73 sz29 rfl (us := [(.slice _Au20 (e ++ ((timT x (if (low - 1) > 0 then (low - 1) else 0) ((high - 1)).toNat).flat) ++ [(⟨4, 0, 0, 0⟩ : Token)]).length _Cu20)]) rfl rfl rfl rfl fun _w_74 _m_75 _cw_74 => ?_
      have _cw_74z := _cw_74.size
      have E := E.step _cw_74 (fun i hi => .inl (by have _h1 := List.mem_singleton.1 hi; omega))
      replace _m_75 : Blk _w_74 _b7 29 [(.slice _Au20 (e ++ ((timT x (if (low - 1) > 0 then (low - 1) else 0) ((high - 1)).toNat).flat) ++ [(⟨4, 0, 0, 0⟩ : Token)]).length _Cu20)] := _m_75
      have _S_76 : Ch [] _w_40 _w_74 := (_S_72.step _cw_74 (fun i hm => by have _h0 := List.mem_singleton.1 hm; left; omega))
      refine ⟨_S_76, ?_⟩
      refine DR_done (by kernel_rfl) ?_
      refine thn_nrm ?_
      have _f_77 := (_q20.ch _cw_74 (fun g hg hm => by have _h0 := List.mem_singleton.1 hm; have _h2 := _lo20 _ hg; have _h3 := _hiu20 _ hg; omega))
      exact _J_16 _ _ _b7 (.slice _Au20 (e ++ ((timT x (if (low - 1) > 0 then (low - 1) else 0) ((high - 1)).toNat).flat) ++ [(⟨4, 0, 0, 0⟩ : Token)]).length _Cu20) (Sub.cons rfl (Sub.cons rfl (Sub.cons rfl (Sub.nil _)))) ((((((Ch.refl [] _w_3).trans _cw_40).trans _cw_65).trans _cw_68).trans _cw_71).step _cw_74 (fun i hi => .inl (by have _h1 := List.mem_singleton.1 hi; omega))) _f_77 (Lo.down _lo20 (by omega)) _m_75 (by omega) (fun hm => by have _h1 := _lo20 _ hm; have _h2 := _hiu20 _ hm; omega)
theorem c_spec_l10Times {w : World} {LL_e _B_e : Nat} {_v_e : Value} {e : List Token} (_h_e : Ls Token.cs 4 w LL_e _B_e _v_e e) (low : Int) (high : Int) (x : Tr) (he : e = x.flat) (hx : x.sz ≤ 5000) (_h0 : 0 ≤ low) (hh : 0 ≤ high) (_h3 : high ≤ 3) (_h4 : low ≤ 3) :
    Ctr Try.prog 98 #[(.agg #[_v_e]), (.int .i64 low), (.int .i64 high)] w (fun v w' => ∃ u, v = .agg #[u] ∧ Ol Token.cs 57 4 w' u ((timT x low (high).toNat).flat) ∧ Lo w.heap.size u ∧ Ch [] w w') := c_spec_l10Times_n _ _h_e low high x he hx _h0 hh _h3 _h4 (Nat.lt_succ_self _)

/-- spec.l10Expand -/
theorem c_spec_l10Expand_n : ∀ (n : Nat) {w : World} {LL_l _B_l : Nat} {_v_l : Value} {l : List Token} (_h_l : Ls Token.cs 4 w LL_l _B_l _v_l l) (t : Tr) (hok : Okd t) (hl : l = t.flat) (hb : bndT t ≤ 5000) (hsz : l.length < n),
    Ctr Try.prog 68 #[_v_l] w (fun v w' => ∃ u, v = .agg #[u] ∧ Ol Token.cs 57 4 w' u ((expT t).flat) ∧ Lo w.heap.size u ∧ Ch [] w w') := by
  intro n
  induction n with
  | zero => intros; omega
  | succ n ih =>
  intro w LL_l _B_l _v_l l _h_l t hok hl hb hsz
  obtain ⟨_A_l, _C_l, _e1_l⟩ := _h_l.val
  subst _e1_l
  have _l_l := _h_l.len
  have _h_l := _h_l.here (by decide)
  have E := Ch.refl [] w
  have hn1 := t.flat_pos; rw [← hl] at hn1; have k2 := hok.len
  refine Ctr_of_W (N := 56) (vs0 := [(.slice _A_l l.length _C_l)]) Try.func68 rfl rfl rfl ?_
  refine W_seq fun _K_1 _hK_1 => ?_
  refine W_region ?_
  refine WL_s rfl rfl ?_
  refine s_alloc zr29 fun _b2 _w_2 _m2 _cw_2 _e2 => ?_
  have _cw_2z := _cw_2.size
  have E := E.trans _cw_2
  have _z2 := _m2.lt
  replace _m2 : Blk _w_2 _b2 29 [(.slice none 0 0)] := _m2
  refine WL_nil ?_
  refine thn_nrm (_hK_1 _ _ ?_)
  clear _hK_1
  refine W_seq fun _K_3 _hK_3 => ?_
  refine W_region ?_
  refine WL_step rfl rfl (r_move rfl) ?_
  refine WL_step rfl rfl (r_len (by rw [el27]; rfl) rfl) ?_
  refine WL_step rfl rfl (r_sub (by omega) rfl rfl) ?_
  refine WL_step rfl rfl (r_assign rfl) ?_
  refine WL_nil ?_
  refine thn_nrm (_hK_3 _ _ ?_)
  clear _hK_3
  refine W_seq fun _K_4 _hK_4 => ?_
  refine W_region ?_
  refine WL_step rfl rfl (r_move rfl) ?_
  refine WL_step rfl rfl (r_move rfl) ?_
  refine WL_s rfl rfl ?_
  have _f_5 := (_h_l.ch0 _cw_2)
  refine (s_index (j := (((l.length : Nat) : Int) - 1).toNat) _f_5 Token.len el27 sz57 rfl rfl (by omega) (by omega) fun _p11 _y11 _hy11 _a11 => ?_)
  have _ht := last_tok hl (by omega) _hy11
  have htk := congrArg Token.kind _ht
  have hte := congrArg Token.letter _ht
  have htl := congrArg Token.low _ht
  have hth := congrArg Token.high _ht
  refine WL_step rfl rfl (r_loadAtA0 _a11 agg57 sz57 rfl) ?_
  refine WL_s rfl rfl ?_
  refine s_alloc zr57 fun _b4 _w_6 _m4 _cw_6 _e4 => ?_
  have _cw_6z := _cw_6.size
  have E := E.trans _cw_6
  have _z4 := _m4.lt
  replace _m4 : Blk _w_6 _b4 57 [(.int .i64 0), (.int .i64 0), (.int .i64 0), (.int .i64 0)] := _m4
  refine WL_s rfl rfl ?_
  refine s_storeA (off := 0) 4 _m4 sz57 rfl (us := [(.int .i64 _y11.kind), (.int .i64 _y11.letter), (.int .i64 _y11.low), (.int .i64 _y11.high)]) rfl rfl rfl rfl fun _w_7 _m_8 _cw_7 => ?_
  have _cw_7z := _cw_7.size
  have E := E.step _cw_7 (fun i hi => .inl (by have _h1 := List.mem_singleton.1 hi; omega))
  replace _m_8 : Blk _w_7 _b4 57 [(.int .i64 _y11.kind), (.int .i64 _y11.letter), (.int .i64 _y11.low), (.int .i64 _y11.high)] := _m_8
  refine WL_nil ?_
  refine thn_nrm (_hK_4 _ _ ?_)
  clear _hK_4
  refine W_seq fun _K_9 _hK_9 => ?_
  refine W_seq fun _K_10 _hK_10 => ?_
  refine W_region ?_
  refine WL_step rfl rfl (r_fieldAddr fa57_0 rfl) ?_
  refine WL_step rfl rfl (r_loadAt _m_8.at_ agg3 rfl rfl) ?_
  refine WL_nil ?_
  refine thn_nrm (_hK_10 _ _ ?_)
  clear _hK_10
  refine W_block ?_
  refine W_seq fun _K_11 _hK_11 => ?_
  refine W_seq fun _K_12 _hK_12 => ?_
  refine W_region ?_
  refine WL_step rfl rfl (r_eql rfl rfl) ?_
  refine WL_step rfl rfl (r_assign rfl) ?_
  refine WL_nil ?_
  refine thn_nrm (_hK_12 _ _ ?_)
  clear _hK_12
  refine W_cond rfl (fun _h15 => ?_) (fun _h15 => ?_)
  · have _kb_13 := _h15
    have _h15 := bt_d _h15
    obtain ⟨ta, tb, et, oa, ob, hla, hn2⟩ := hok.k2 (by omega) _ht hl
    have _hk0 : t.kids[0]? = some ta := by rw [et]; rfl
    have _hk1 : t.kids[1]? = some tb := by rw [et]; rfl
    have ga := ta.flat_len
    have gb := tb.flat_len
    have ba := bnd_kid hok hb _hk0
    have ea := expT_sz oa ba
    have fa := (expT ta).flat_len
    have ra := bndT_rng oa
    have bc := bnd_kid hok hb _hk1
    have ec := expT_sz ob bc
    have fc := (expT tb).flat_len
    have rc := bndT_rng ob
    refine W_skip ?_
    refine thn_nrm (_hK_11 _ _ ?_)
    clear _hK_11
    refine W_condTk rfl _kb_13 ?_
    refine W_seq fun _K_14 _hK_14 => ?_
    refine W_region ?_
    refine WL_step rfl rfl (r_move rfl) ?_
    refine WL_step rfl rfl (r_move rfl) ?_
    refine WL_s rfl rfl ?_
    have _f_15 := ((_f_5.ch0 _cw_6).ch _cw_7 (fun i hi => by have _h1 := List.mem_singleton.1 hi; omega))
    refine (s_cut (ys := (ta.flat ++ tb.flat)) 0 ((((l.length : Nat) : Int) - 1).toNat) _f_15 Token.len el27 sz57 rfl rfl ⟨_, _, rfl, by omega⟩ (by omega) (by omega) (show l.take _ = _ from cut_ab hla (by omega)) fun _v20 _q20 _bb20 _ln20 => ?_)
    obtain ⟨_A20, _C20, _e20⟩ := _q20.val
    subst _e20
    have _l20 := _q20.len
    refine WL_s rfl rfl ?_
    refine Step.call (r_call (xs := [.tmp 20]) fk56 rfl) (c_spec_l8Start _q20 ta.flat tb ob rfl) fun _v21 _w_16 _q21 => ?_
    obtain ⟨rfl, _cw_16⟩ := _q21
    have _cw_16z := _cw_16.size
    have E := E.trans _cw_16
    refine WL_step rfl rfl (r_assign rfl) ?_
    refine WL_nil ?_
    refine thn_nrm (_hK_14 _ _ ?_)
    clear _hK_14
    refine W_seq fun _K_17 _hK_17 => ?_
    refine W_drawC [_b2] 12 mixed rfl fun _w_18 _cw_18 => ?_
    have _cw_18z := _cw_18.size
    have E := E.trans _cw_18
    refine DR_s 0 rfl (by kernel_rfl) rfl rfl (t_v (fun _ => (r_move rfl)) ?_)
    refine DR_s 1 rfl (by kernel_rfl) rfl rfl (t_v (fun _ => (r_move rfl)) ?_)
    have _f_19 := ((_f_15.ch0 _cw_16).ch0 _cw_18)
    refine DR_s 2 rfl (by kernel_rfl) rfl rfl (t_cut (ys := ta.flat) 0 ta.flat.length _f_19 Token.len el27 sz57 rfl rfl ⟨_, _, rfl, by omega⟩ (by omega) (by omega) (show l.take _ = _ from cut_a hla (by omega)) fun _v24 _q24 _bb24 _ln24 => ?_)
    obtain ⟨_A24, _C24, _e24⟩ := _q24.val
    subst _e24
    have _l24 := _q24.len
    refine DR_s 4 rfl (by kernel_rfl) rfl rfl (t_v (fun _ => (r_move rfl)) ?_)
    refine DR_s 5 rfl (by kernel_rfl) rfl rfl (t_v (fun _ => (r_move rfl)) ?_)
    refine DR_s 6 rfl (by kernel_rfl) rfl rfl (t_v (fun _ => (r_move rfl)) ?_)
    refine DR_s 7 rfl (by kernel_rfl) rfl rfl (t_cut (ys := tb.flat) ta.flat.length ((((l.length : Nat) : Int) - 1).toNat) _f_19 Token.len el27 sz57 rfl ⟨_, _, rfl, by omega⟩ ⟨_, _, rfl, by omega⟩ (by omega) (by omega) (cut_b hla (by omega) (by omega)) fun _v29 _q29 _bb29 _ln29 => ?_)
    obtain ⟨_A29, _C29, _e29⟩ := _q29.val
    subst _e29
    have _l29 := _q29.len
    have _f_20 := ((_m_8.ch0 _cw_16).ch0 _cw_18)
    refine DR_s 9 rfl (by kernel_rfl) rfl rfl (t_loadAtA0 _f_20.at_ (fun i hm => by have _h1 := List.mem_singleton.1 hm; omega) agg57 sz57 rfl ?_)
    refine DR_one 3 (by kernel_rfl) ?_
    refine DO_s rfl rfl rfl ?_
    refine Step.call (r_call (xs := [.tmp 24]) fk68 rfl) (ih _q24 ta oa rfl ba (by omega)) fun _v25 _w_21 _q25 => ?_
    obtain ⟨_u25, rfl, _q25, _lo25, _cw_21⟩ := _q25
    have _cw_21z := _cw_21.size
    have E := E.trans _cw_21
    obtain ⟨_Au25, _Cu25, _eu25⟩ := _q25.val
    subst _eu25
    have _lu25 := _q25.len
    have _hiu25 := _q25.lt
    have _S_22 : Ch [_b2] _w_18 _w_21 := ((Ch.refl _ _).trans _cw_21.of_nil)
    refine ⟨_S_22, ?_⟩
    refine DR_one 8 (by kernel_rfl) ?_
    refine DO_s rfl rfl rfl ?_
    have _f_23 := (_q29.ch0 _cw_21)
    refine Step.call (r_call (xs := [.tmp 29]) fk68 rfl) (ih _f_23 tb ob rfl bc (by omega)) fun _v30 _w_24 _q30 => ?_
    obtain ⟨_u30, rfl, _q30, _lo30, _cw_24⟩ := _q30
    have _cw_24z := _cw_24.size
    have E := E.trans _cw_24
    obtain ⟨_Au30, _Cu30, _eu30⟩ := _q30.val
    subst _eu30
    have _lu30 := _q30.len
    have _hiu30 := _q30.lt
    have _S_25 : Ch [_b2] _w_18 _w_24 := (_S_22.trans _cw_24.of_nil)
    refine ⟨_S_25, ?_⟩
    refine DR_one 10 (by kernel_rfl) ?_
    refine DO_s rfl rfl rfl ?_
    have _f_26 := (_q25.ch0 _cw_24)
    refine Step.call (r_call (xs := [.tmp 25, .tmp 30, .tmp 31]) fk97 rfl) (c_spec_l8Join _f_26.ls _q30.ls _y11 (by omega)) fun _v32 _w_27 _q32 => ?_
    obtain ⟨_u32, rfl, _q32, _lo32, _cw_27⟩ := _q32
    have _cw_27z := _cw_27.size
    have E := E.trans _cw_27
    obtain ⟨_Au32, _Cu32, _eu32⟩ := _q32.val
    subst _eu32
    have _lu32 := _q32.len
    have _hiu32 := _q32.lt
    have _S_28 : Ch [_b2] _w_18 _w_27 := (_S_25.trans _cw_27.of_nil)
    refine ⟨_S_28, ?_⟩
    refine DR_one 11 (by kernel_rfl) ?_
    refine DO_s rfl rfl rfl ?_
    have _f_29 := (((((((_m2.ch0 _cw_6).ch _cw_7 (fun hm => by have _h1 := List.mem_singleton.1 hm; omega)).ch0 _cw_16).ch0 _cw_18).ch0 _cw_21).ch0 _cw_24).ch0 _cw_27)
    refine s_storeA (off := 0) 1 _f_29 sz29 rfl (us := [(.slice _Au32 (((expT ta).flat) ++ ((expT tb).flat) ++ [_y11]).length _Cu32)]) rfl rfl rfl rfl fun _w_30 _m_31 _cw_30 => ?_
    have _cw_30z := _cw_30.size
    have E := E.step _cw_30 (fun i hi => .inl (by have _h1 := List.mem_singleton.1 hi; omega))
    replace _m_31 : Blk _w_30 _b2 29 [(.slice _Au32 (((expT ta).flat) ++ ((expT tb).flat) ++ [_y11]).length _Cu32)] := _m_31
    have _S_32 : Ch [_b2] _w_18 _w_30 := (_S_28.step _cw_30 (fun i hm => by have _h0 := List.mem_singleton.1 hm; exact .inr (by rw [_h0]; exact (List.mem_singleton.2 rfl))))
    refine ⟨_S_32, ?_⟩
    refine DR_done (by kernel_rfl) ?_
    refine thn_nrm (_hK_17 _ _ ?_)
    clear _hK_17
    refine W_ret (inB_ret (thn_ret ?_))
    clear _hK_9
    have _f_34 := (_q32.ch _cw_30 (fun g hg hm => by have _h0 := List.mem_singleton.1 hm; have _h2 := _lo32 _ hg; have _h3 := _hiu32 _ hg; omega))
    have _o_33 : Ol Token.cs 57 4 _w_30 (.slice _Au32 (((expT ta).flat) ++ ((expT tb).flat) ++ [_y11]).length _Cu32) ((expT t).flat) := by
      have hx := _f_34
      exact hx.eq (by first | (rw [← exp2 hok (by omega) _hk0 _hk1, _ht]; rfl) | (rw [← exp6 hok (by omega) _hk0, _ht]; simp [Tr.flat]; done) | (rw [← exp7 hok (by omega) _hk0, _ht]) | (rw [← exp0 hok (by omega), _ht]; rfl))
    exact ret_intro [_] (resOf_loadA _m_31 rfl agg29 sz29 trivial) ⟨_, rfl, _o_33, Lo.down _lo32 (by omega), E⟩
  · have _kb_13 := _h15
    have _h15 := bf_d _h15
    refine W_region ?_
    refine WL_step rfl rfl (r_eql rfl rfl) ?_
    refine WL_step rfl rfl (r_assign rfl) ?_
    refine WL_nil ?_
    refine thn_nrm (_hK_11 _ _ ?_)
    clear _hK_11
    refine W_cond rfl (fun _h15 => ?_) (fun _h15 => ?_)
    · have _kb_35 := _h15
      have _h15 := bt_d _h15
      obtain ⟨ta, tb, et, oa, ob, hla, hn2⟩ := hok.k2 (by omega) _ht hl
      have _hk0 : t.kids[0]? = some ta := by rw [et]; rfl
      have _hk1 : t.kids[1]? = some tb := by rw [et]; rfl
      have ga := ta.flat_len
      have gb := tb.flat_len
      have ba := bnd_kid hok hb _hk0
      have ea := expT_sz oa ba
      have fa := (expT ta).flat_len
      have ra := bndT_rng oa
      have bc := bnd_kid hok hb _hk1
      have ec := expT_sz ob bc
      have fc := (expT tb).flat_len
      have rc := bndT_rng ob
      refine W_seq fun _K_36 _hK_36 => ?_
      refine W_region ?_
      refine WL_step rfl rfl (r_move rfl) ?_
      refine WL_step rfl rfl (r_move rfl) ?_
      refine WL_s rfl rfl ?_
      have _f_37 := ((_f_5.ch0 _cw_6).ch _cw_7 (fun i hi => by have _h1 := List.mem_singleton.1 hi; omega))
      refine (s_cut (ys := (ta.flat ++ tb.flat)) 0 ((((l.length : Nat) : Int) - 1).toNat) _f_37 Token.len el27 sz57 rfl rfl ⟨_, _, rfl, by omega⟩ (by omega) (by omega) (show l.take _ = _ from cut_ab hla (by omega)) fun _v20 _q20 _bb20 _ln20 => ?_)
      obtain ⟨_A20, _C20, _e20⟩ := _q20.val
      subst _e20
      have _l20 := _q20.len
      refine WL_s rfl rfl ?_
      refine Step.call (r_call (xs := [.tmp 20]) fk56 rfl) (c_spec_l8Start _q20 ta.flat tb ob rfl) fun _v21 _w_38 _q21 => ?_
      obtain ⟨rfl, _cw_38⟩ := _q21
      have _cw_38z := _cw_38.size
      have E := E.trans _cw_38
      refine WL_step rfl rfl (r_assign rfl) ?_
      refine WL_nil ?_
      refine thn_nrm (_hK_36 _ _ ?_)
      clear _hK_36
      refine W_seq fun _K_39 _hK_39 => ?_
      refine W_drawC [_b2] 12 mixed rfl fun _w_40 _cw_40 => ?_
      have _cw_40z := _cw_40.size
      have E := E.trans _cw_40
      refine DR_s 0 rfl (by kernel_rfl) rfl rfl (t_v (fun _ => (r_move rfl)) ?_)
      refine DR_s 1 rfl (by kernel_rfl) rfl rfl (t_v (fun _ => (r_move rfl)) ?_)
      have _f_41 := ((_f_37.ch0 _cw_38).ch0 _cw_40)
      refine DR_s 2 rfl (by kernel_rfl) rfl rfl (t_cut (ys := ta.flat) 0 ta.flat.length _f_41 Token.len el27 sz57 rfl rfl ⟨_, _, rfl, by omega⟩ (by omega) (by omega) (show l.take _ = _ from cut_a hla (by omega)) fun _v24 _q24 _bb24 _ln24 => ?_)
      obtain ⟨_A24, _C24, _e24⟩ := _q24.val
      subst _e24
      have _l24 := _q24.len
      refine DR_s 4 rfl (by kernel_rfl) rfl rfl (t_v (fun _ => (r_move rfl)) ?_)
      refine DR_s 5 rfl (by kernel_rfl) rfl rfl (t_v (fun _ => (r_move rfl)) ?_)
      refine DR_s 6 rfl (by kernel_rfl) rfl rfl (t_v (fun _ => (r_move rfl)) ?_)
      refine DR_s 7 rfl (by kernel_rfl) rfl rfl (t_cut (ys := tb.flat) ta.flat.length ((((l.length : Nat) : Int) - 1).toNat) _f_41 Token.len el27 sz57 rfl ⟨_, _, rfl, by omega⟩ ⟨_, _, rfl, by omega⟩ (by omega) (by omega) (cut_b hla (by omega) (by omega)) fun _v29 _q29 _bb29 _ln29 => ?_)
      obtain ⟨_A29, _C29, _e29⟩ := _q29.val
      subst _e29
      have _l29 := _q29.len
      have _f_42 := ((_m_8.ch0 _cw_38).ch0 _cw_40)
      refine DR_s 9 rfl (by kernel_rfl) rfl rfl (t_loadAtA0 _f_42.at_ (fun i hm => by have _h1 := List.mem_singleton.1 hm; omega) agg57 sz57 rfl ?_)
      refine DR_one 3 (by kernel_rfl) ?_
      refine DO_s rfl rfl rfl ?_
      refine Step.call (r_call (xs := [.tmp 24]) fk68 rfl) (ih _q24 ta oa rfl ba (by omega)) fun _v25 _w_43 _q25 => ?_
      obtain ⟨_u25, rfl, _q25, _lo25, _cw_43⟩ := _q25
      have _cw_43z := _cw_43.size
      have E := E.trans _cw_43
      obtain ⟨_Au25, _Cu25, _eu25⟩ := _q25.val
      subst _eu25
      have _lu25 := _q25.len
      have _hiu25 := _q25.lt
      have _S_44 : Ch [_b2] _w_40 _w_43 := ((Ch.refl _ _).trans _cw_43.of_nil)
      refine ⟨_S_44, ?_⟩
      refine DR_one 8 (by kernel_rfl) ?_
      refine DO_s rfl rfl rfl ?_
      have _f_45 := (_q29.ch0 _cw_43)
      refine Step.call (r_call (xs := [.tmp 29]) fk68 rfl) (ih _f_45 tb ob rfl bc (by omega)) fun _v30 _w_46 _q30 => ?_
      obtain ⟨_u30, rfl, _q30, _lo30, _cw_46⟩ := _q30
      have _cw_46z := _cw_46.size
      have E := E.trans _cw_46
      obtain ⟨_Au30, _Cu30, _eu30⟩ := _q30.val
      subst _eu30
      have _lu30 := _q30.len
      have _hiu30 := _q30.lt
      have _S_47 : Ch [_b2] _w_40 _w_46 := (_S_44.trans _cw_46.of_nil)
      refine ⟨_S_47, ?_⟩
      refine DR_one 10 (by kernel_rfl) ?_
      refine DO_s rfl rfl rfl ?_
      have _f_48 := (_q25.ch0 _cw_46)
      refine Step.call (r_call (xs := [.tmp 25, .tmp 30, .tmp 31]) fk97 rfl) (c_spec_l8Join _f_48.ls _q30.ls _y11 (by omega)) fun _v32 _w_49 _q32 => ?_
      obtain ⟨_u32, rfl, _q32, _lo32, _cw_49⟩ := _q32
      have _cw_49z := _cw_49.size
      have E := E.trans _cw_49
      obtain ⟨_Au32, _Cu32, _eu32⟩ := _q32.val
      subst _eu32
      have _lu32 := _q32.len
      have _hiu32 := _q32.lt
      have _S_50 : Ch [_b2] _w_40 _w_49 := (_S_47.trans _cw_49.of_nil)
      refine ⟨_S_50, ?_⟩
      refine DR_one 11 (by kernel_rfl) ?_
      refine DO_s rfl rfl rfl ?_
      have _f_51 := (((((((_m2.ch0 _cw_6).ch _cw_7 (fun hm => by have _h1 := List.mem_singleton.1 hm; omega)).ch0 _cw_38).ch0 _cw_40).ch0 _cw_43).ch0 _cw_46).ch0 _cw_49)
      refine s_storeA (off := 0) 1 _f_51 sz29 rfl (us := [(.slice _Au32 (((expT ta).flat) ++ ((expT tb).flat) ++ [_y11]).length _Cu32)]) rfl rfl rfl rfl fun _w_52 _m_53 _cw_52 => ?_
      have _cw_52z := _cw_52.size
      have E := E.step _cw_52 (fun i hi => .inl (by have _h1 := List.mem_singleton.1 hi; omega))
      replace _m_53 : Blk _w_52 _b2 29 [(.slice _Au32 (((expT ta).flat) ++ ((expT tb).flat) ++ [_y11]).length _Cu32)] := _m_53
      have _S_54 : Ch [_b2] _w_40 _w_52 := (_S_50.step _cw_52 (fun i hm => by have _h0 := List.mem_singleton.1 hm; exact .inr (by rw [_h0]; exact (List.mem_singleton.2 rfl))))
      refine ⟨_S_54, ?_⟩
      refine DR_done (by kernel_rfl) ?_
      refine thn_nrm (_hK_39 _ _ ?_)
      clear _hK_39
      refine W_ret (inB_ret (thn_ret ?_))
      clear _hK_9
      have _f_56 := (_q32.ch _cw_52 (fun g hg hm => by have _h0 := List.mem_singleton.1 hm; have _h2 := _lo32 _ hg; have _h3 := _hiu32 _ hg; omega))
      have _o_55 : Ol Token.cs 57 4 _w_52 (.slice _Au32 (((expT ta).flat) ++ ((expT tb).flat) ++ [_y11]).length _Cu32) ((expT t).flat) := by
        have hx := _f_56
        exact hx.eq (by first | (rw [← exp2 hok (by omega) _hk0 _hk1, _ht]; rfl) | (rw [← exp6 hok (by omega) _hk0, _ht]; simp [Tr.flat]; done) | (rw [← exp7 hok (by omega) _hk0, _ht]) | (rw [← exp0 hok (by omega), _ht]; rfl))
      exact ret_intro [_] (resOf_loadA _m_53 rfl agg29 sz29 trivial) ⟨_, rfl, _o_55, Lo.down _lo32 (by omega), E⟩
    · have _kb_35 := _h15
      have _h15 := bf_d _h15
      refine W_seq fun _K_57 _hK_57 => ?_
      refine W_region ?_
      refine WL_step rfl rfl (r_eql rfl rfl) ?_
      refine WL_step rfl rfl (r_assign rfl) ?_
      refine WL_nil ?_
      refine thn_nrm (_hK_57 _ _ ?_)
      clear _hK_57
      refine W_cond rfl (fun _h33 => ?_) (fun _h33 => ?_)
      · have _kb_58 := _h33
        have _h33 := bt_d _h33
        obtain ⟨ta, et, oa, hla, hn2⟩ := hok.k1 (by omega) _ht hl
        have _hk0 : t.kids[0]? = some ta := by rw [et]; rfl
        have ga := ta.flat_len
        have ba := bnd_kid hok hb _hk0
        have ea := expT_sz oa ba
        have fa := (expT ta).flat_len
        have ra := bndT_rng oa
        refine W_seq fun _K_59 _hK_59 => ?_
        refine W_drawC [_b2] 8 mixed rfl fun _w_60 _cw_60 => ?_
        have _cw_60z := _cw_60.size
        have E := E.trans _cw_60
        refine DR_s 0 rfl (by kernel_rfl) rfl rfl (t_v (fun _ => (r_move rfl)) ?_)
        refine DR_s 1 rfl (by kernel_rfl) rfl rfl (t_v (fun _ => (r_move rfl)) ?_)
        have _f_61 := (((_f_5.ch0 _cw_6).ch _cw_7 (fun i hi => by have _h1 := List.mem_singleton.1 hi; omega)).ch0 _cw_60)
        refine DR_s 2 rfl (by kernel_rfl) rfl rfl (t_cut (ys := ta.flat) 0 ((((l.length : Nat) : Int) - 1).toNat) _f_61 Token.len el27 sz57 rfl rfl ⟨_, _, rfl, by omega⟩ (by omega) (by omega) (show l.take _ = _ from cut_1 hla (by omega)) fun _v37 _q37 _bb37 _ln37 => ?_)
        obtain ⟨_A37, _C37, _e37⟩ := _q37.val
        subst _e37
        have _l37 := _q37.len
        refine DR_s 4 rfl (by kernel_rfl) rfl rfl (t_v (fun _ => (r_build (parts := []) (cells := [(.slice none 0 0)]) zr29 pl29 rfl rfl)) ?_)
        have _f_62 := (_m_8.ch0 _cw_60)
        refine DR_s 5 rfl (by kernel_rfl) rfl rfl (t_loadAtA0 _f_62.at_ (fun i hm => by have _h1 := List.mem_singleton.1 hm; omega) agg57 sz57 rfl ?_)
        refine DR_one 3 (by kernel_rfl) ?_
        refine DO_s rfl rfl rfl ?_
        refine Step.call (r_call (xs := [.tmp 37]) fk68 rfl) (ih _q37 ta oa rfl ba (by omega)) fun _v38 _w_63 _q38 => ?_
        obtain ⟨_u38, rfl, _q38, _lo38, _cw_63⟩ := _q38
        have _cw_63z := _cw_63.size
        have E := E.trans _cw_63
        obtain ⟨_Au38, _Cu38, _eu38⟩ := _q38.val
        subst _eu38
        have _lu38 := _q38.len
        have _hiu38 := _q38.lt
        have _S_64 : Ch [_b2] _w_60 _w_63 := ((Ch.refl _ _).trans _cw_63.of_nil)
        refine ⟨_S_64, ?_⟩
        refine DR_one 6 (by kernel_rfl) ?_
        refine DO_s rfl rfl rfl ?_
        refine Step.call (r_call (xs := [.tmp 38, .tmp 39, .tmp 40]) fk97 rfl) (c_spec_l8Join _q38.ls (Ls.nil (cs := Token.cs) (k := 4) _ 0 0) _y11 (by simp only [List.length_nil]; omega)) fun _v41 _w_65 _q41 => ?_
        obtain ⟨_u41, rfl, _q41, _lo41, _cw_65⟩ := _q41
        have _cw_65z := _cw_65.size
        have E := E.trans _cw_65
        obtain ⟨_Au41, _Cu41, _eu41⟩ := _q41.val
        subst _eu41
        have _lu41 := _q41.len
        have _hiu41 := _q41.lt
        have _S_66 : Ch [_b2] _w_60 _w_65 := (_S_64.trans _cw_65.of_nil)
        refine ⟨_S_66, ?_⟩
        refine DR_one 7 (by kernel_rfl) ?_
        refine DO_s rfl rfl rfl ?_
        have _f_67 := (((((_m2.ch0 _cw_6).ch _cw_7 (fun hm => by have _h1 := List.mem_singleton.1 hm; omega)).ch0 _cw_60).ch0 _cw_63).ch0 _cw_65)
        refine s_storeA (off := 0) 1 _f_67 sz29 rfl (us := [(.slice _Au41 (((expT ta).flat) ++ [] ++ [_y11]).length _Cu41)]) rfl rfl rfl rfl fun _w_68 _m_69 _cw_68 => ?_
        have _cw_68z := _cw_68.size
        have E := E.step _cw_68 (fun i hi => .inl (by have _h1 := List.mem_singleton.1 hi; omega))
        replace _m_69 : Blk _w_68 _b2 29 [(.slice _Au41 (((expT ta).flat) ++ [] ++ [_y11]).length _Cu41)] := _m_69
        have _S_70 : Ch [_b2] _w_60 _w_68 := (_S_66.step _cw_68 (fun i hm => by have _h0 := List.mem_singleton.1 hm; exact .inr (by rw [_h0]; exact (List.mem_singleton.2 rfl))))
        refine ⟨_S_70, ?_⟩
        refine DR_done (by kernel_rfl) ?_
        refine thn_nrm (_hK_59 _ _ ?_)
        clear _hK_59
        refine W_ret (inB_ret (thn_ret ?_))
        clear _hK_9
        have _f_72 := (_q41.ch _cw_68 (fun g hg hm => by have _h0 := List.mem_singleton.1 hm; have _h2 := _lo41 _ hg; have _h3 := _hiu41 _ hg; omega))
        have _o_71 : Ol Token.cs 57 4 _w_68 (.slice _Au41 (((expT ta).flat) ++ [] ++ [_y11]).length _Cu41) ((expT t).flat) := by
          have hx := _f_72
          exact hx.eq (by first | (rw [← exp2 hok (by omega) _hk0 _hk1, _ht]; rfl) | (rw [← exp6 hok (by omega) _hk0, _ht]; simp [Tr.flat]; done) | (rw [← exp7 hok (by omega) _hk0, _ht]) | (rw [← exp0 hok (by omega), _ht]; rfl))
        exact ret_intro [_] (resOf_loadA _m_69 rfl agg29 sz29 trivial) ⟨_, rfl, _o_71, Lo.down _lo41 (by omega), E⟩
      · have _kb_58 := _h33
        have _h33 := bf_d _h33
        refine W_seq fun _K_73 _hK_73 => ?_
        refine W_region ?_
        refine WL_step rfl rfl (r_eql rfl rfl) ?_
        refine WL_step rfl rfl (r_assign rfl) ?_
        refine WL_nil ?_
        refine thn_nrm (_hK_73 _ _ ?_)
        clear _hK_73
        refine W_cond rfl (fun _h42 => ?_) (fun _h42 => ?_)
        · have _kb_74 := _h42
          have _h42 := bt_d _h42
          obtain ⟨ta, et, oa, hla, hn2⟩ := hok.k1 (by omega) _ht hl
          have _hk0 : t.kids[0]? = some ta := by rw [et]; rfl
          have ga := ta.flat_len
          have ba := bnd_kid hok hb _hk0
          have ea := expT_sz oa ba
          have fa := (expT ta).flat_len
          have ra := bndT_rng oa
          have r7 := hok.r7 (by omega)
          refine W_seq fun _K_75 _hK_75 => ?_
          refine W_drawC [_b2] 10 mixed rfl fun _w_76 _cw_76 => ?_
          have _cw_76z := _cw_76.size
          have E := E.trans _cw_76
          refine DR_s 0 rfl (by kernel_rfl) rfl rfl (t_v (fun _ => (r_move rfl)) ?_)
          refine DR_s 1 rfl (by kernel_rfl) rfl rfl (t_v (fun _ => (r_move rfl)) ?_)
          have _f_77 := (((_f_5.ch0 _cw_6).ch _cw_7 (fun i hi => by have _h1 := List.mem_singleton.1 hi; omega)).ch0 _cw_76)
          refine DR_s 2 rfl (by kernel_rfl) rfl rfl (t_cut (ys := ta.flat) 0 ((((l.length : Nat) : Int) - 1).toNat) _f_77 Token.len el27 sz57 rfl rfl ⟨_, _, rfl, by omega⟩ (by omega) (by omega) (show l.take _ = _ from cut_1 hla (by omega)) fun _v46 _q46 _bb46 _ln46 => ?_)
          obtain ⟨_A46, _C46, _e46⟩ := _q46.val
          subst _e46
          have _l46 := _q46.len
          refine DR_s 4 rfl (by kernel_rfl) rfl rfl (t_v (fun _ => (r_fieldAddr fa57_2 rfl)) ?_)
          have _f_78 := (_m_8.ch0 _cw_76)
          refine DR_s 5 rfl (by kernel_rfl) rfl rfl (t_loadAt _f_78.at_ (fun i hm => by have _h1 := List.mem_singleton.1 hm; omega) agg3 rfl rfl ?_)
          refine DR_s 6 rfl (by kernel_rfl) rfl rfl (t_v (fun _ => (r_fieldAddr fa57_3 rfl)) ?_)
          refine DR_s 7 rfl (by kernel_rfl) rfl rfl (t_loadAt _f_78.at_ (fun i hm => by have _h1 := List.mem_singleton.1 hm; omega) agg3 rfl rfl ?_)
          refine DR_one 3 (by kernel_rfl) ?_
          refine DO_s rfl rfl rfl ?_
          refine Step.call (r_call (xs := [.tmp 46]) fk68 rfl) (ih _q46 ta oa rfl ba (by omega)) fun _v47 _w_79 _q47 => ?_
          obtain ⟨_u47, rfl, _q47, _lo47, _cw_79⟩ := _q47
          have _cw_79z := _cw_79.size
          have E := E.trans _cw_79
          obtain ⟨_Au47, _Cu47, _eu47⟩ := _q47.val
          subst _eu47
          have _lu47 := _q47.len
          have _hiu47 := _q47.lt
          have _S_80 : Ch [_b2] _w_76 _w_79 := ((Ch.refl _ _).trans _cw_79.of_nil)
          refine ⟨_S_80, ?_⟩
          refine DR_one 8 (by kernel_rfl) ?_
          refine DO_s rfl rfl rfl ?_
          refine Step.call (r_call (xs := [.tmp 47, .tmp 49, .tmp 51]) fk98 rfl) (c_spec_l10Times _q47.ls _ _ (expT ta) rfl (by omega) (by omega) (by omega) (by omega) (by omega)) fun _v52 _w_81 _q52 => ?_
          obtain ⟨_u52, rfl, _q52, _lo52, _cw_81⟩ := _q52
          have _cw_81z := _cw_81.size
          have E := E.trans _cw_81
          obtain ⟨_Au52, _Cu52, _eu52⟩ := _q52.val
          subst _eu52
          have _lu52 := _q52.len
          have _hiu52 := _q52.lt
          have _S_82 : Ch [_b2] _w_76 _w_81 := (_S_80.trans _cw_81.of_nil)
          refine ⟨_S_82, ?_⟩
          refine DR_one 9 (by kernel_rfl) ?_
          refine DO_s rfl rfl rfl ?_
          have _f_83 := (((((_m2.ch0 _cw_6).ch _cw_7 (fun hm => by have _h1 := List.mem_singleton.1 hm; omega)).ch0 _cw_76).ch0 _cw_79).ch0 _cw_81)
          refine s_storeA (off := 0) 1 _f_83 sz29 rfl (us := [(.slice _Au52 ((timT (expT ta) _y11.low (_y11.high).toNat).flat).length _Cu52)]) rfl rfl rfl rfl fun _w_84 _m_85 _cw_84 => ?_
          have _cw_84z := _cw_84.size
          have E := E.step _cw_84 (fun i hi => .inl (by have _h1 := List.mem_singleton.1 hi; omega))
          replace _m_85 : Blk _w_84 _b2 29 [(.slice _Au52 ((timT (expT ta) _y11.low (_y11.high).toNat).flat).length _Cu52)] := _m_85
          have _S_86 : Ch [_b2] _w_76 _w_84 := (_S_82.step _cw_84 (fun i hm => by have _h0 := List.mem_singleton.1 hm; exact .inr (by rw [_h0]; exact (List.mem_singleton.2 rfl))))
          refine ⟨_S_86, ?_⟩
          refine DR_done (by kernel_rfl) ?_
          refine thn_nrm (_hK_75 _ _ ?_)
          clear _hK_75
          refine W_ret (inB_ret (thn_ret ?_))
          clear _hK_9
          have _f_88 := (_q52.ch _cw_84 (fun g hg hm => by have _h0 := List.mem_singleton.1 hm; have _h2 := _lo52 _ hg; have _h3 := _hiu52 _ hg; omega))
          have _o_87 : Ol Token.cs 57 4 _w_84 (.slice _Au52 ((timT (expT ta) _y11.low (_y11.high).toNat).flat).length _Cu52) ((expT t).flat) := by
            have hx := _f_88
            exact hx.eq (by first | (rw [← exp2 hok (by omega) _hk0 _hk1, _ht]; rfl) | (rw [← exp6 hok (by omega) _hk0, _ht]; simp [Tr.flat]; done) | (rw [← exp7 hok (by omega) _hk0, _ht]) | (rw [← exp0 hok (by omega), _ht]; rfl))
          exact ret_intro [_] (resOf_loadA _m_85 rfl agg29 sz29 trivial) ⟨_, rfl, _o_87, Lo.down _lo52 (by omega), E⟩
        · have _kb_74 := _h42
          have _h42 := bf_d _h42
          refine W_skip ?_
          refine inB_nrm ?_
          refine thn_nrm (_hK_9 _ _ ?_)
          clear _hK_9
          refine W_seq fun _K_89 _hK_89 => ?_
          refine W_region ?_
          refine WL_step rfl rfl (r_loadAtA0 _m_8.at_ agg57 sz57 rfl) ?_
          refine WL_s rfl rfl ?_
          refine s_buildSlice (cs := Token.cs) (parts := [(0, .tmp 53)]) (⟨0, 0, 0, 0⟩ : Token) [_y11] el27 sz57 zr57 Token.len (by decide) rfl rfl rfl (by decide) (by decide) rfl fun _v54 _w_90 _q54 _lo54 _cw_90 => ?_
          have _cw_90z := _cw_90.size
          have E := E.trans _cw_90
          obtain ⟨_Av54, _Cv54, _ev54⟩ := _q54.val
          subst _ev54
          have _lv54 := _q54.len
          have _hiv54 := _q54.lt
          refine WL_step rfl rfl (r_build (parts := [(0, .tmp 54)]) (cells := [(.slice _Av54 ([_y11]).length _Cv54)]) zr29 pl29 rfl rfl) ?_
          refine WL_s rfl rfl ?_
          have _f_91 := (((_m2.ch0 _cw_6).ch _cw_7 (fun hm => by have _h1 := List.mem_singleton.1 hm; omega)).ch0 _cw_90)
          refine s_storeA (off := 0) 1 _f_91 sz29 rfl (us := [(.slice _Av54 ([_y11]).length _Cv54)]) rfl rfl rfl rfl fun _w_92 _m_93 _cw_92 => ?_
          have _cw_92z := _cw_92.size
          have E := E.step _cw_92 (fun i hi => .inl (by have _h1 := List.mem_singleton.1 hi; omega))
          replace _m_93 : Blk _w_92 _b2 29 [(.slice _Av54 ([_y11]).length _Cv54)] := _m_93
          refine WL_nil ?_
          refine thn_nrm (_hK_89 _ _ ?_)
          clear _hK_89
          refine W_ret ?_
          have _f_95 := (_q54.ch _cw_92 (fun g hg hm => by have _h0 := List.mem_singleton.1 hm; have _h2 := _lo54 _ hg; have _h3 := _hiv54 _ hg; omega))
          have _o_94 : Ol Token.cs 57 4 _w_92 (.slice _Av54 ([_y11]).length _Cv54) ((expT t).flat) := by
            have hx := _f_95
            exact hx.eq (by first | (rw [← exp2 hok (by omega) _hk0 _hk1, _ht]; rfl) | (rw [← exp6 hok (by omega) _hk0, _ht]; simp [Tr.flat]; done) | (rw [← exp7 hok (by omega) _hk0, _ht]) | (rw [← exp0 hok (by omega), _ht]; rfl))
          exact ret_intro [_] (resOf_loadA _m_93 rfl agg29 sz29 trivial) ⟨_, rfl, _o_94, Lo.down _lo54 (by omega), E⟩
theorem c_spec_l10Expand {w : World} {LL_l _B_l : Nat} {_v_l : Value} {l : List Token} (_h_l : Ls Token.cs 4 w LL_l _B_l _v_l l) (t : Tr) (hok : Okd t) (hl : l = t.flat) (hb : bndT t ≤ 5000) :
    Ctr Try.prog 68 #[_v_l] w (fun v w' => ∃ u, v = .agg #[u] ∧ Ol Token.cs 57 4 w' u ((expT t).flat) ∧ Lo w.heap.size u ∧ Ch [] w w') := c_spec_l10Expand_n _ _h_l t hok hl hb (Nat.lt_succ_self _)

/-- spec.l10Size -/
theorem c_spec_l10Size_n : ∀ (n : Nat) {w : World} {LL_l _B_l : Nat} {_v_l : Value} {l : List Token} (_h_l : Ls Token.cs 4 w LL_l _B_l _v_l l) (t : Tr) (hok : Okd t) (hl : l = t.flat) (hsz : l.length < n),
    Ctr Try.prog 67 #[_v_l] w (fun v w' => v = .int .i64 (bndT t) ∧ Ch [] w w') := by
  intro n
  induction n with
  | zero => intros; omega
  | succ n ih =>
  intro w LL_l _B_l _v_l l _h_l t hok hl hsz
  obtain ⟨_A_l, _C_l, _e1_l⟩ := _h_l.val
  subst _e1_l
  have _l_l := _h_l.len
  have _h_l := _h_l.here (by decide)
  have E := Ch.refl [] w
  have hn1 := t.flat_pos; rw [← hl] at hn1; have k2 := hok.len; have rb := bndT_rng hok
  refine Ctr_of_W (N := 54) (vs0 := [(.slice _A_l l.length _C_l)]) Try.func67 rfl rfl rfl ?_
  refine W_seq fun _K_1 _hK_1 => ?_
  refine W_region ?_
  refine WL_step rfl rfl (r_assign rfl) ?_
  refine WL_nil ?_
  refine thn_nrm (_hK_1 _ _ ?_)
  clear _hK_1
  refine W_seq fun _K_2 _hK_2 => ?_
  refine W_region ?_
  refine WL_step rfl rfl (r_move rfl) ?_
  refine WL_step rfl rfl (r_len (by rw [el27]; rfl) rfl) ?_
  refine WL_step rfl rfl (r_sub (by omega) rfl rfl) ?_
  refine WL_step rfl rfl (r_assign rfl) ?_
  refine WL_nil ?_
  refine thn_nrm (_hK_2 _ _ ?_)
  clear _hK_2
  refine W_seq fun _K_3 _hK_3 => ?_
  refine W_region ?_
  refine WL_step rfl rfl (r_move rfl) ?_
  refine WL_step rfl rfl (r_move rfl) ?_
  refine WL_s rfl rfl ?_
  refine (s_index (j := (((l.length : Nat) : Int) - 1).toNat) _h_l Token.len el27 sz57 rfl rfl (by omega) (by omega) fun _p11 _y11 _hy11 _a11 => ?_)
  have _ht := last_tok hl (by omega) _hy11
  have htk := congrArg Token.kind _ht
  have hte := congrArg Token.letter _ht
  have htl := congrArg Token.low _ht
  have hth := congrArg Token.high _ht
  refine WL_step rfl rfl (r_loadAtA0 _a11 agg57 sz57 rfl) ?_
  refine WL_s rfl rfl ?_
  refine s_alloc zr57 fun _b4 _w_4 _m4 _cw_4 _e4 => ?_
  have _cw_4z := _cw_4.size
  have E := E.trans _cw_4
  have _z4 := _m4.lt
  replace _m4 : Blk _w_4 _b4 57 [(.int .i64 0), (.int .i64 0), (.int .i64 0), (.int .i64 0)] := _m4
  refine WL_s rfl rfl ?_
  refine s_storeA (off := 0) 4 _m4 sz57 rfl (us := [(.int .i64 _y11.kind), (.int .i64 _y11.letter), (.int .i64 _y11.low), (.int .i64 _y11.high)]) rfl rfl rfl rfl fun _w_5 _m_6 _cw_5 => ?_
  have _cw_5z := _cw_5.size
  have E := E.step _cw_5 (fun i hi => .inl (by have _h1 := List.mem_singleton.1 hi; omega))
  replace _m_6 : Blk _w_5 _b4 57 [(.int .i64 _y11.kind), (.int .i64 _y11.letter), (.int .i64 _y11.low), (.int .i64 _y11.high)] := _m_6
  refine WL_nil ?_
  refine thn_nrm (_hK_3 _ _ ?_)
  clear _hK_3
  refine W_seq fun _K_7 _hK_7 => ?_
  refine W_seq fun _K_8 _hK_8 => ?_
  refine W_region ?_
  refine WL_step rfl rfl (r_fieldAddr fa57_0 rfl) ?_
  refine WL_step rfl rfl (r_loadAt _m_6.at_ agg3 rfl rfl) ?_
  refine WL_nil ?_
  refine thn_nrm (_hK_8 _ _ ?_)
  clear _hK_8
  refine W_block ?_
  refine W_seq fun _K_9 _hK_9 => ?_
  refine W_seq fun _K_10 _hK_10 => ?_
  refine W_region ?_
  refine WL_step rfl rfl (r_eql rfl rfl) ?_
  refine WL_step rfl rfl (r_assign rfl) ?_
  refine WL_nil ?_
  refine thn_nrm (_hK_10 _ _ ?_)
  clear _hK_10
  refine W_cond rfl (fun _h15 => ?_) (fun _h15 => ?_)
  · have _kb_11 := _h15
    have _h15 := bt_d _h15
    obtain ⟨ta, tb, et, oa, ob, hla, hn2⟩ := hok.k2 (by omega) _ht hl
    have _hk0 : t.kids[0]? = some ta := by rw [et]; rfl
    have _hk1 : t.kids[1]? = some tb := by rw [et]; rfl
    have ga := ta.flat_len
    have gb := tb.flat_len
    have ra := bndT_rng oa
    have rc := bndT_rng ob
    refine W_skip ?_
    refine thn_nrm (_hK_9 _ _ ?_)
    clear _hK_9
    refine W_condTk rfl _kb_11 ?_
    refine W_seq fun _K_12 _hK_12 => ?_
    refine W_region ?_
    refine WL_step rfl rfl (r_move rfl) ?_
    refine WL_step rfl rfl (r_move rfl) ?_
    refine WL_s rfl rfl ?_
    have _f_13 := ((_h_l.ch0 _cw_4).ch _cw_5 (fun i hi => by have _h1 := List.mem_singleton.1 hi; omega))
    refine (s_cut (ys := (ta.flat ++ tb.flat)) 0 ((((l.length : Nat) : Int) - 1).toNat) _f_13 Token.len el27 sz57 rfl rfl ⟨_, _, rfl, by omega⟩ (by omega) (by omega) (show l.take _ = _ from cut_ab hla (by omega)) fun _v20 _q20 _bb20 _ln20 => ?_)
    obtain ⟨_A20, _C20, _e20⟩ := _q20.val
    subst _e20
    have _l20 := _q20.len
    refine WL_s rfl rfl ?_
    refine Step.call (r_call (xs := [.tmp 20]) fk56 rfl) (c_spec_l8Start _q20 ta.flat tb ob rfl) fun _v21 _w_14 _q21 => ?_
    obtain ⟨rfl, _cw_14⟩ := _q21
    have _cw_14z := _cw_14.size
    have E := E.trans _cw_14
    refine WL_step rfl rfl (r_assign rfl) ?_
    refine WL_nil ?_
    refine thn_nrm (_hK_12 _ _ ?_)
    clear _hK_12
    refine W_seq fun _K_15 _hK_15 => ?_
    refine W_drawC [] 13 mixed rfl fun _w_16 _cw_16 => ?_
    have _cw_16z := _cw_16.size
    have E := E.trans _cw_16
    refine DR_s 0 rfl (by kernel_rfl) rfl rfl (t_v (fun _ => (r_move rfl)) ?_)
    refine DR_s 1 rfl (by kernel_rfl) rfl rfl (t_v (fun _ => (r_move rfl)) ?_)
    have _f_17 := ((_f_13.ch0 _cw_14).ch0 _cw_16)
    refine DR_s 2 rfl (by kernel_rfl) rfl rfl (t_cut (ys := ta.flat) 0 ta.flat.length _f_17 Token.len el27 sz57 rfl rfl ⟨_, _, rfl, by omega⟩ (by omega) (by omega) (show l.take _ = _ from cut_a hla (by omega)) fun _v24 _q24 _bb24 _ln24 => ?_)
    obtain ⟨_A24, _C24, _e24⟩ := _q24.val
    subst _e24
    have _l24 := _q24.len
    refine DR_s 4 rfl (by kernel_rfl) rfl rfl (t_v (fun _ => (r_move rfl)) ?_)
    refine DR_s 5 rfl (by kernel_rfl) rfl rfl (t_v (fun _ => (r_move rfl)) ?_)
    refine DR_s 6 rfl (by kernel_rfl) rfl rfl (t_v (fun _ => (r_move rfl)) ?_)
    refine DR_s 7 rfl (by kernel_rfl) rfl rfl (t_cut (ys := tb.flat) ta.flat.length ((((l.length : Nat) : Int) - 1).toNat) _f_17 Token.len el27 sz57 rfl ⟨_, _, rfl, by omega⟩ ⟨_, _, rfl, by omega⟩ (by omega) (by omega) (cut_b hla (by omega) (by omega)) fun _v29 _q29 _bb29 _ln29 => ?_)
    obtain ⟨_A29, _C29, _e29⟩ := _q29.val
    subst _e29
    have _l29 := _q29.len
    refine DR_one 3 (by kernel_rfl) ?_
    refine DO_s rfl rfl rfl ?_
    refine Step.call (r_call (xs := [.tmp 24]) fk67 rfl) (ih _q24 ta oa rfl (by omega)) fun _v25 _w_18 _q25 => ?_
    obtain ⟨rfl, _cw_18⟩ := _q25
    have _cw_18z := _cw_18.size
    have E := E.trans _cw_18
    have _S_19 : Ch [] _w_16 _w_18 := ((Ch.refl _ _).trans _cw_18)
    refine ⟨_S_19, ?_⟩
    refine DR_one 8 (by kernel_rfl) ?_
    refine DO_s rfl rfl rfl ?_
    have _f_20 := (_q29.ch0 _cw_18)
    refine Step.call (r_call (xs := [.tmp 29]) fk67 rfl) (ih _f_20 tb ob rfl (by omega)) fun _v30 _w_21 _q30 => ?_
    obtain ⟨rfl, _cw_21⟩ := _q30
    have _cw_21z := _cw_21.size
    have E := E.trans _cw_21
    have _S_22 : Ch [] _w_16 _w_21 := (_S_19.trans _cw_21)
    refine ⟨_S_22, ?_⟩
    refine DR_s 9 rfl (by kernel_rfl) rfl rfl (t_v (fun _ => (r_add (by omega) rfl rfl)) ?_)
    refine DR_s 10 rfl (by kernel_rfl) rfl rfl (t_v (fun _ => (r_add (by omega) rfl rfl)) ?_)
    refine DR_s 11 rfl (by kernel_rfl) rfl rfl (t_v (fun _ => (r_min rfl rfl)) ?_)
    refine DR_s 12 rfl (by kernel_rfl) rfl rfl (t_v (fun _ => (r_assign rfl)) ?_)
    refine DR_done (by kernel_rfl) ?_
    refine thn_nrm (_hK_15 _ _ ?_)
    clear _hK_15
    refine W_ret (inB_ret (thn_ret ?_))
    clear _hK_7
    exact ret_intro [_] ⟨rfl, trivial⟩ ⟨congrArg (Value.int .i64) (by first | exact bnd2 hok (by omega) _hk0 _hk1 | exact bnd6 hok (by omega) _hk0 | (rw [_ht]; exact bnd7 hok (by omega) _hk0) | exact bnd0 hok (by omega)), E⟩
  · have _kb_11 := _h15
    have _h15 := bf_d _h15
    refine W_region ?_
    refine WL_step rfl rfl (r_eql rfl rfl) ?_
    refine WL_step rfl rfl (r_assign rfl) ?_
    refine WL_nil ?_
    refine thn_nrm (_hK_9 _ _ ?_)
    clear _hK_9
    refine W_cond rfl (fun _h15 => ?_) (fun _h15 => ?_)
    · have _kb_23 := _h15
      have _h15 := bt_d _h15
      obtain ⟨ta, tb, et, oa, ob, hla, hn2⟩ := hok.k2 (by omega) _ht hl
      have _hk0 : t.kids[0]? = some ta := by rw [et]; rfl
      have _hk1 : t.kids[1]? = some tb := by rw [et]; rfl
      have ga := ta.flat_len
      have gb := tb.flat_len
      have ra := bndT_rng oa
      have rc := bndT_rng ob
      refine W_seq fun _K_24 _hK_24 => ?_
      refine W_region ?_
      refine WL_step rfl rfl (r_move rfl) ?_
      refine WL_step rfl rfl (r_move rfl) ?_
      refine WL_s rfl rfl ?_
      have _f_25 := ((_h_l.ch0 _cw_4).ch _cw_5 (fun i hi => by have _h1 := List.mem_singleton.1 hi; omega))
      refine (s_cut (ys := (ta.flat ++ tb.flat)) 0 ((((l.length : Nat) : Int) - 1).toNat) _f_25 Token.len el27 sz57 rfl rfl ⟨_, _, rfl, by omega⟩ (by omega) (by omega) (show l.take _ = _ from cut_ab hla (by omega)) fun _v20 _q20 _bb20 _ln20 => ?_)
      obtain ⟨_A20, _C20, _e20⟩ := _q20.val
      subst _e20
      have _l20 := _q20.len
      refine WL_s rfl rfl ?_
      refine Step.call (r_call (xs := [.tmp 20]) fk56 rfl) (c_spec_l8Start _q20 ta.flat tb ob rfl) fun _v21 _w_26 _q21 => ?_
      obtain ⟨rfl, _cw_26⟩ := _q21
      have _cw_26z := _cw_26.size
      have E := E.trans _cw_26
      refine WL_step rfl rfl (r_assign rfl) ?_
      refine WL_nil ?_
      refine thn_nrm (_hK_24 _ _ ?_)
      clear _hK_24
      refine W_seq fun _K_27 _hK_27 => ?_
      refine W_drawC [] 13 mixed rfl fun _w_28 _cw_28 => ?_
      have _cw_28z := _cw_28.size
      have E := E.trans _cw_28
      refine DR_s 0 rfl (by kernel_rfl) rfl rfl (t_v (fun _ => (r_move rfl)) ?_)
      refine DR_s 1 rfl (by kernel_rfl) rfl rfl (t_v (fun _ => (r_move rfl)) ?_)
      have _f_29 := ((_f_25.ch0 _cw_26).ch0 _cw_28)
      refine DR_s 2 rfl (by kernel_rfl) rfl rfl (t_cut (ys := ta.flat) 0 ta.flat.length _f_29 Token.len el27 sz57 rfl rfl ⟨_, _, rfl, by omega⟩ (by omega) (by omega) (show l.take _ = _ from cut_a hla (by omega)) fun _v24 _q24 _bb24 _ln24 => ?_)
      obtain ⟨_A24, _C24, _e24⟩ := _q24.val
      subst _e24
      have _l24 := _q24.len
      refine DR_s 4 rfl (by kernel_rfl) rfl rfl (t_v (fun _ => (r_move rfl)) ?_)
      refine DR_s 5 rfl (by kernel_rfl) rfl rfl (t_v (fun _ => (r_move rfl)) ?_)
      refine DR_s 6 rfl (by kernel_rfl) rfl rfl (t_v (fun _ => (r_move rfl)) ?_)
      refine DR_s 7 rfl (by kernel_rfl) rfl rfl (t_cut (ys := tb.flat) ta.flat.length ((((l.length : Nat) : Int) - 1).toNat) _f_29 Token.len el27 sz57 rfl ⟨_, _, rfl, by omega⟩ ⟨_, _, rfl, by omega⟩ (by omega) (by omega) (cut_b hla (by omega) (by omega)) fun _v29 _q29 _bb29 _ln29 => ?_)
      obtain ⟨_A29, _C29, _e29⟩ := _q29.val
      subst _e29
      have _l29 := _q29.len
      refine DR_one 3 (by kernel_rfl) ?_
      refine DO_s rfl rfl rfl ?_
      refine Step.call (r_call (xs := [.tmp 24]) fk67 rfl) (ih _q24 ta oa rfl (by omega)) fun _v25 _w_30 _q25 => ?_
      obtain ⟨rfl, _cw_30⟩ := _q25
      have _cw_30z := _cw_30.size
      have E := E.trans _cw_30
      have _S_31 : Ch [] _w_28 _w_30 := ((Ch.refl _ _).trans _cw_30)
      refine ⟨_S_31, ?_⟩
      refine DR_one 8 (by kernel_rfl) ?_
      refine DO_s rfl rfl rfl ?_
      have _f_32 := (_q29.ch0 _cw_30)
      refine Step.call (r_call (xs := [.tmp 29]) fk67 rfl) (ih _f_32 tb ob rfl (by omega)) fun _v30 _w_33 _q30 => ?_
      obtain ⟨rfl, _cw_33⟩ := _q30
      have _cw_33z := _cw_33.size
      have E := E.trans _cw_33
      have _S_34 : Ch [] _w_28 _w_33 := (_S_31.trans _cw_33)
      refine ⟨_S_34, ?_⟩
      refine DR_s 9 rfl (by kernel_rfl) rfl rfl (t_v (fun _ => (r_add (by omega) rfl rfl)) ?_)
      refine DR_s 10 rfl (by kernel_rfl) rfl rfl (t_v (fun _ => (r_add (by omega) rfl rfl)) ?_)
      refine DR_s 11 rfl (by kernel_rfl) rfl rfl (t_v (fun _ => (r_min rfl rfl)) ?_)
      refine DR_s 12 rfl (by kernel_rfl) rfl rfl (t_v (fun _ => (r_assign rfl)) ?_)
      refine DR_done (by kernel_rfl) ?_
      refine thn_nrm (_hK_27 _ _ ?_)
      clear _hK_27
      refine W_ret (inB_ret (thn_ret ?_))
      clear _hK_7
      exact ret_intro [_] ⟨rfl, trivial⟩ ⟨congrArg (Value.int .i64) (by first | exact bnd2 hok (by omega) _hk0 _hk1 | exact bnd6 hok (by omega) _hk0 | (rw [_ht]; exact bnd7 hok (by omega) _hk0) | exact bnd0 hok (by omega)), E⟩
    · have _kb_23 := _h15
      have _h15 := bf_d _h15
      refine W_seq fun _K_35 _hK_35 => ?_
      refine W_region ?_
      refine WL_step rfl rfl (r_eql rfl rfl) ?_
      refine WL_step rfl rfl (r_assign rfl) ?_
      refine WL_nil ?_
      refine thn_nrm (_hK_35 _ _ ?_)
      clear _hK_35
      refine W_cond rfl (fun _h34 => ?_) (fun _h34 => ?_)
      · have _kb_36 := _h34
        have _h34 := bt_d _h34
        obtain ⟨ta, et, oa, hla, hn2⟩ := hok.k1 (by omega) _ht hl
        have _hk0 : t.kids[0]? = some ta := by rw [et]; rfl
        have ga := ta.flat_len
        have ra := bndT_rng oa
        refine W_seq fun _K_37 _hK_37 => ?_
        refine W_region ?_
        refine WL_step rfl rfl (r_move rfl) ?_
        refine WL_step rfl rfl (r_move rfl) ?_
        refine WL_s rfl rfl ?_
        have _f_38 := ((_h_l.ch0 _cw_4).ch _cw_5 (fun i hi => by have _h1 := List.mem_singleton.1 hi; omega))
        refine (s_cut (ys := ta.flat) 0 ((((l.length : Nat) : Int) - 1).toNat) _f_38 Token.len el27 sz57 rfl rfl ⟨_, _, rfl, by omega⟩ (by omega) (by omega) (show l.take _ = _ from cut_1 hla (by omega)) fun _v38 _q38 _bb38 _ln38 => ?_)
        obtain ⟨_A38, _C38, _e38⟩ := _q38.val
        subst _e38
        have _l38 := _q38.len
        refine WL_s rfl rfl ?_
        refine Step.call (r_call (xs := [.tmp 38]) fk67 rfl) (ih _q38 ta oa rfl (by omega)) fun _v39 _w_39 _q39 => ?_
        obtain ⟨rfl, _cw_39⟩ := _q39
        have _cw_39z := _cw_39.size
        have E := E.trans _cw_39
        refine WL_step rfl rfl (r_add (by omega) rfl rfl) ?_
        refine WL_step rfl rfl (r_min rfl rfl) ?_
        refine WL_step rfl rfl (r_assign rfl) ?_
        refine WL_nil ?_
        refine thn_nrm (_hK_37 _ _ ?_)
        clear _hK_37
        refine W_ret (inB_ret (thn_ret ?_))
        clear _hK_7
        exact ret_intro [_] ⟨rfl, trivial⟩ ⟨congrArg (Value.int .i64) (by first | exact bnd2 hok (by omega) _hk0 _hk1 | exact bnd6 hok (by omega) _hk0 | (rw [_ht]; exact bnd7 hok (by omega) _hk0) | exact bnd0 hok (by omega)), E⟩
      · have _kb_36 := _h34
        have _h34 := bf_d _h34
        refine W_seq fun _K_40 _hK_40 => ?_
        refine W_region ?_
        refine WL_step rfl rfl (r_eql rfl rfl) ?_
        refine WL_step rfl rfl (r_assign rfl) ?_
        refine WL_nil ?_
        refine thn_nrm (_hK_40 _ _ ?_)
        clear _hK_40
        refine W_cond rfl (fun _h42 => ?_) (fun _h42 => ?_)
        · have _kb_41 := _h42
          have _h42 := bt_d _h42
          obtain ⟨ta, et, oa, hla, hn2⟩ := hok.k1 (by omega) _ht hl
          have _hk0 : t.kids[0]? = some ta := by rw [et]; rfl
          have ga := ta.flat_len
          have ra := bndT_rng oa
          have r7 := hok.r7 (by omega)
          refine W_seq fun _K_42 _hK_42 => ?_
          refine W_drawC [] 11 mixed rfl fun _w_43 _cw_43 => ?_
          have _cw_43z := _cw_43.size
          have E := E.trans _cw_43
          refine DR_s 0 rfl (by kernel_rfl) rfl rfl (t_v (fun _ => (r_move rfl)) ?_)
          refine DR_s 1 rfl (by kernel_rfl) rfl rfl (t_v (fun _ => (r_move rfl)) ?_)
          have _f_44 := (((_h_l.ch0 _cw_4).ch _cw_5 (fun i hi => by have _h1 := List.mem_singleton.1 hi; omega)).ch0 _cw_43)
          refine DR_s 2 rfl (by kernel_rfl) rfl rfl (t_cut (ys := ta.flat) 0 ((((l.length : Nat) : Int) - 1).toNat) _f_44 Token.len el27 sz57 rfl rfl ⟨_, _, rfl, by omega⟩ (by omega) (by omega) (show l.take _ = _ from cut_1 hla (by omega)) fun _v46 _q46 _bb46 _ln46 => ?_)
          obtain ⟨_A46, _C46, _e46⟩ := _q46.val
          subst _e46
          have _l46 := _q46.len
          refine DR_s 5 rfl (by kernel_rfl) rfl rfl (t_v (fun _ => (r_fieldAddr fa57_3 rfl)) ?_)
          have _f_45 := (_m_6.ch0 _cw_43)
          refine DR_s 6 rfl (by kernel_rfl) rfl rfl (t_loadAt _f_45.at_ (fun i hi => absurd hi List.not_mem_nil) agg3 rfl rfl ?_)
          refine DR_one 3 (by kernel_rfl) ?_
          refine DO_s rfl rfl rfl ?_
          refine Step.call (r_call (xs := [.tmp 46]) fk67 rfl) (ih _q46 ta oa rfl (by omega)) fun _v47 _w_46 _q47 => ?_
          obtain ⟨rfl, _cw_46⟩ := _q47
          have _cw_46z := _cw_46.size
          have E := E.trans _cw_46
          have _S_47 : Ch [] _w_43 _w_46 := ((Ch.refl _ _).trans _cw_46)
          refine ⟨_S_47, ?_⟩
          refine DR_s 4 rfl (by kernel_rfl) rfl rfl (t_v (fun _ => (r_add (by omega) rfl rfl)) ?_)
          refine DR_s 7 rfl (by kernel_rfl) rfl rfl (t_v (fun _ => (r_mul (by (have _m1 := Int.mul_nonneg (show 0 ≤ bndT ta + 3 by omega) (show 0 ≤ _y11.high by omega); have _m2 := Int.mul_le_mul (show bndT ta + 3 ≤ 100003 by omega) (show _y11.high ≤ 3 by omega) (by omega) (by omega); omega)) rfl rfl)) ?_)
          refine DR_s 8 rfl (by kernel_rfl) rfl rfl (t_v (fun _ => (r_add (by (have _m1 := Int.mul_nonneg (show 0 ≤ bndT ta + 3 by omega) (show 0 ≤ _y11.high by omega); have _m2 := Int.mul_le_mul (show bndT ta + 3 ≤ 100003 by omega) (show _y11.high ≤ 3 by omega) (by omega) (by omega); omega)) rfl rfl)) ?_)
          refine DR_s 9 rfl (by kernel_rfl) rfl rfl (t_v (fun _ => (r_min rfl rfl)) ?_)
          refine DR_s 10 rfl (by kernel_rfl) rfl rfl (t_v (fun _ => (r_assign rfl)) ?_)
          refine DR_done (by kernel_rfl) ?_
          refine thn_nrm (_hK_42 _ _ ?_)
          clear _hK_42
          refine W_ret (inB_ret (thn_ret ?_))
          clear _hK_7
          exact ret_intro [_] ⟨rfl, trivial⟩ ⟨congrArg (Value.int .i64) (by first | exact bnd2 hok (by omega) _hk0 _hk1 | exact bnd6 hok (by omega) _hk0 | (rw [_ht]; exact bnd7 hok (by omega) _hk0) | exact bnd0 hok (by omega)), E⟩
        · have _kb_41 := _h42
          have _h42 := bf_d _h42
          refine W_skip ?_
          refine inB_nrm ?_
          refine thn_nrm (_hK_7 _ _ ?_)
          clear _hK_7
          refine W_seq fun _K_48 _hK_48 => ?_
          refine W_region ?_
          refine WL_step rfl rfl (r_assign rfl) ?_
          refine WL_nil ?_
          refine thn_nrm (_hK_48 _ _ ?_)
          clear _hK_48
          refine W_ret ?_
          exact ret_intro [_] ⟨rfl, trivial⟩ ⟨congrArg (Value.int .i64) (by first | exact bnd2 hok (by omega) _hk0 _hk1 | exact bnd6 hok (by omega) _hk0 | (rw [_ht]; exact bnd7 hok (by omega) _hk0) | exact bnd0 hok (by omega)), E⟩
theorem c_spec_l10Size {w : World} {LL_l _B_l : Nat} {_v_l : Value} {l : List Token} (_h_l : Ls Token.cs 4 w LL_l _B_l _v_l l) (t : Tr) (hok : Okd t) (hl : l = t.flat) :
    Ctr Try.prog 67 #[_v_l] w (fun v w' => v = .int .i64 (bndT t) ∧ Ch [] w w') := c_spec_l10Size_n _ _h_l t hok hl (Nat.lt_succ_self _)

/-- spec.ExpandExpr -/
theorem c_spec_ExpandExpr {w : World} {LL_e _B_e : Nat} {_v_e : Value} {e : List Token} (_h_e : Ls Token.cs 4 w LL_e _B_e _v_e e) (hb : e.length ≤ 1048576) :
    Ctr Try.prog 36 #[(.agg #[_v_e])] w (fun v w' => ∃ (u0x0 : Value), v = .tuple #[.agg #[u0x0], .bool ((expE e).2)] ∧ Ol Token.cs 57 4 w' u0x0 ((expE e).1) ∧ Lo w.heap.size u0x0 ∧ Ch [] w w') := by
  obtain ⟨_A_e, _C_e, _e1_e⟩ := _h_e.val
  subst _e1_e
  have _l_e := _h_e.len
  have _h_e := _h_e.here (by decide)
  have E := Ch.refl [] w
  refine Ctr_of_W (N := 24) (vs0 := [(.agg #[(.slice _A_e e.length _C_e)])]) Try.func36 rfl rfl rfl ?_
  refine W_seq fun _K_1 _hK_1 => ?_
  refine W_region ?_
  refine WL_s rfl rfl ?_
  refine s_box rfl fun _b1 _w_2 _m1 _cw_2 _e1 => ?_
  have _cw_2z := _cw_2.size
  have E := E.trans _cw_2
  have _z1 := _m1.lt
  replace _m1 : Blk _w_2 _b1 29 [(.slice _A_e e.length _C_e)] := _m1
  refine WL_s rfl rfl ?_
  refine s_alloc zr29 fun _b2 _w_3 _m2 _cw_3 _e2 => ?_
  have _cw_3z := _cw_3.size
  have E := E.trans _cw_3
  have _z2 := _m2.lt
  replace _m2 : Blk _w_3 _b2 29 [(.slice none 0 0)] := _m2
  refine WL_step rfl rfl (r_assign rfl) ?_
  refine WL_nil ?_
  refine thn_nrm (_hK_1 _ _ ?_)
  clear _hK_1
  refine W_seq fun _K_4 _hK_4 => ?_
  refine W_seq fun _K_5 _hK_5 => ?_
  refine W_region ?_
  have _f_6 := (_m1.ch0 _cw_3)
  refine WL_step rfl rfl (r_loadAtA0 _f_6.at_ agg29 sz29 rfl) ?_
  refine WL_s rfl rfl ?_
  have _f_7 := ((_h_e.ch0 _cw_2).ch0 _cw_3)
  refine Step.call (r_call (xs := [.tmp 5]) fk19 rfl) (c_spec_IsValidExpr _f_7 ) fun _v6 _w_8 _q6 => ?_
  obtain ⟨rfl, _cw_8⟩ := _q6
  have _cw_8z := _cw_8.size
  have E := E.trans _cw_8
  refine WL_step rfl rfl (r_not rfl) ?_
  refine WL_step rfl rfl (r_move rfl) ?_
  refine WL_split (d := 8) rfl (fun _h8 => ?_) (fun _h8 => ?_)
  · have _kb_9 := _h8
    have _h8 := bt_n _h8
    refine WL_skip rfl rfl ?_
    refine WL_skip rfl rfl ?_
    refine WL_skip rfl rfl ?_
    refine WL_skip rfl rfl ?_
    refine WL_step rfl rfl (r_pickT rfl rfl) ?_
    refine WL_nil ?_
    refine thn_nrm (_hK_5 _ _ ?_)
    clear _hK_5
    refine W_condT rfl ?_
    refine W_seq fun _K_10 _hK_10 => ?_
    refine W_region ?_
    refine WL_step rfl rfl (r_build (parts := []) (cells := [(.slice none 0 0)]) zr29 pl29 rfl rfl) ?_
    refine WL_s rfl rfl ?_
    have _f_11 := (_m2.ch0 _cw_8)
    refine s_storeA (off := 0) 1 _f_11 sz29 rfl (us := [(.slice none 0 0)]) rfl rfl rfl rfl fun _w_12 _m_13 _cw_12 => ?_
    have _cw_12z := _cw_12.size
    have E := E.step _cw_12 (fun i hi => .inl (by have _h1 := List.mem_singleton.1 hi; omega))
    replace _m_13 : Blk _w_12 _b2 29 [(.slice none 0 0)] := _m_13
    refine WL_step rfl rfl (r_assign rfl) ?_
    refine WL_nil ?_
    refine thn_nrm (_hK_10 _ _ ?_)
    clear _hK_10
    refine W_ret (thn_ret ?_)
    clear _hK_4
    have _o_14 : Ol Token.cs 57 4 _w_12 (.slice none 0 0) ((expE e).1) := by
      have hx := (Ol.nil (cs := Token.cs) (e := 57) (k := 4) _w_12)
      first | (rw [expE_n _h8]; exact hx) | (rw [expE_n2 _e5 (by omega)]; exact hx) | (rw [expE_n3 _e5 (by rw [← Tr.flat_len]; omega)]; exact hx) | (rw [expE_y _e5 (by omega) (by omega) (by rw [← Tr.flat_len]; omega)]; exact hx)
    exact ret_intro [_, _] (resOf_loadA _m_13 rfl agg29 sz29 ⟨rfl, trivial⟩) ⟨(.slice none 0 0), (congrArg (fun zq => (Value.tuple #[.agg #[(.slice none 0 0)], .bool zq])) (by first | (rw [expE_n _h8]; done) | (rw [expE_n2 _e5 (by omega)]; done) | (rw [expE_n3 _e5 (by rw [← Tr.flat_len]; omega)]; done) | (rw [expE_y _e5 (by omega) (by omega) (by rw [← Tr.flat_len]; omega)]; done))), _o_14, (Lo.nil _), E⟩
  · have _kb_9 := _h8
    have _h8 := bf_n _h8
    obtain ⟨_t5, _e5, hok, hl, _h24⟩ := ivE_y _h8
    refine WL_step rfl rfl (r_fieldAddr fa29_0 rfl) ?_
    have _f_15 := (_f_6.ch0 _cw_8)
    refine WL_step rfl rfl (r_loadAt _f_15.at_ agg27 rfl rfl) ?_
    refine WL_s rfl rfl ?_
    have _f_16 := (_f_7.ch0 _cw_8)
    refine Step.call (r_call (xs := [.tmp 10]) fk67 rfl) (c_spec_l10Size _f_16 _t5 hok hl) fun _v11 _w_17 _q11 => ?_
    obtain ⟨rfl, _cw_17⟩ := _q11
    have _cw_17z := _cw_17.size
    have E := E.trans _cw_17
    refine WL_step rfl rfl (r_gtr rfl rfl) ?_
    refine WL_step rfl rfl (r_pickF rfl rfl) ?_
    refine WL_nil ?_
    refine thn_nrm (_hK_5 _ _ ?_)
    clear _hK_5
    refine W_cond rfl (fun _h13 => ?_) (fun _h13 => ?_)
    · have _kb_18 := _h13
      have _h13 := bt_d _h13
      refine W_seq fun _K_19 _hK_19 => ?_
      refine W_region ?_
      refine WL_step rfl rfl (r_build (parts := []) (cells := [(.slice none 0 0)]) zr29 pl29 rfl rfl) ?_
      refine WL_s rfl rfl ?_
      have _f_20 := ((_m2.ch0 _cw_8).ch0 _cw_17)
      refine s_storeA (off := 0) 1 _f_20 sz29 rfl (us := [(.slice none 0 0)]) rfl rfl rfl rfl fun _w_21 _m_22 _cw_21 => ?_
      have _cw_21z := _cw_21.size
      have E := E.step _cw_21 (fun i hi => .inl (by have _h1 := List.mem_singleton.1 hi; omega))
      replace _m_22 : Blk _w_21 _b2 29 [(.slice none 0 0)] := _m_22
      refine WL_step rfl rfl (r_assign rfl) ?_
      refine WL_nil ?_
      refine thn_nrm (_hK_19 _ _ ?_)
      clear _hK_19
      refine W_ret (thn_ret ?_)
      clear _hK_4
      have _o_23 : Ol Token.cs 57 4 _w_21 (.slice none 0 0) ((expE e).1) := by
        have hx := (Ol.nil (cs := Token.cs) (e := 57) (k := 4) _w_21)
        first | (rw [expE_n _h8]; exact hx) | (rw [expE_n2 _e5 (by omega)]; exact hx) | (rw [expE_n3 _e5 (by rw [← Tr.flat_len]; omega)]; exact hx) | (rw [expE_y _e5 (by omega) (by omega) (by rw [← Tr.flat_len]; omega)]; exact hx)
      exact ret_intro [_, _] (resOf_loadA _m_22 rfl agg29 sz29 ⟨rfl, trivial⟩) ⟨(.slice none 0 0), (congrArg (fun zq => (Value.tuple #[.agg #[(.slice none 0 0)], .bool zq])) (by first | (rw [expE_n _h8]; done) | (rw [expE_n2 _e5 (by omega)]; done) | (rw [expE_n3 _e5 (by rw [← Tr.flat_len]; omega)]; done) | (rw [expE_y _e5 (by omega) (by omega) (by rw [← Tr.flat_len]; omega)]; done))), _o_23, (Lo.nil _), E⟩
    · have _kb_18 := _h13
      have _h13 := bf_d _h13
      refine W_skip ?_
      refine thn_nrm (_hK_4 _ _ ?_)
      clear _hK_4
      refine W_seq fun _K_24 _hK_24 => ?_
      refine W_region ?_
      refine WL_step rfl rfl (r_fieldAddr fa29_0 rfl) ?_
      have _f_25 := (_f_15.ch0 _cw_17)
      refine WL_step rfl rfl (r_loadAt _f_25.at_ agg27 rfl rfl) ?_
      refine WL_s rfl rfl ?_
      have _f_26 := (_f_16.ch0 _cw_17)
      refine Step.call (r_call (xs := [.tmp 16]) fk68 rfl) (c_spec_l10Expand _f_26 _t5 hok hl (by omega)) fun _v17 _w_27 _q17 => ?_
      obtain ⟨_u17, rfl, _q17, _lo17, _cw_27⟩ := _q17
      have _cw_27z := _cw_27.size
      have E := E.trans _cw_27
      obtain ⟨_Au17, _Cu17, _eu17⟩ := _q17.val
      subst _eu17
      have _lu17 := _q17.len
      have _hiu17 := _q17.lt
      refine WL_s rfl rfl ?_
      refine s_alloc zr29 fun _b4 _w_28 _m4 _cw_28 _e4 => ?_
      have _cw_28z := _cw_28.size
      have E := E.trans _cw_28
      have _z4 := _m4.lt
      replace _m4 : Blk _w_28 _b4 29 [(.slice none 0 0)] := _m4
      refine WL_s rfl rfl ?_
      refine s_storeA (off := 0) 1 _m4 sz29 rfl (us := [(.slice _Au17 ((expT _t5).flat).length _Cu17)]) rfl rfl rfl rfl fun _w_29 _m_30 _cw_29 => ?_
      have _cw_29z := _cw_29.size
      have E := E.step _cw_29 (fun i hi => .inl (by have _h1 := List.mem_singleton.1 hi; omega))
      replace _m_30 : Blk _w_29 _b4 29 [(.slice _Au17 ((expT _t5).flat).length _Cu17)] := _m_30
      refine WL_nil ?_
      refine thn_nrm (_hK_24 _ _ ?_)
      clear _hK_24
      refine W_seq fun _K_31 _hK_31 => ?_
      refine W_seq fun _K_32 _hK_32 => ?_
      refine W_region ?_
      refine WL_step rfl rfl (r_fieldAddr fa29_0 rfl) ?_
      refine WL_step rfl rfl (r_loadAt _m_30.at_ agg27 rfl rfl) ?_
      refine WL_step rfl rfl (r_len (by rw [el27]; rfl) rfl) ?_
      refine WL_step rfl rfl (r_gtr rfl rfl) ?_
      refine WL_nil ?_
      refine thn_nrm (_hK_32 _ _ ?_)
      clear _hK_32
      refine W_cond rfl (fun _h21 => ?_) (fun _h21 => ?_)
      · have _kb_33 := _h21
        have _h21 := bt_d _h21
        refine W_seq fun _K_34 _hK_34 => ?_
        refine W_region ?_
        refine WL_step rfl rfl (r_build (parts := []) (cells := [(.slice none 0 0)]) zr29 pl29 rfl rfl) ?_
        refine WL_s rfl rfl ?_
        have _f_35 := (((((_m2.ch0 _cw_8).ch0 _cw_17).ch0 _cw_27).ch0 _cw_28).ch _cw_29 (fun hm => by have _h1 := List.mem_singleton.1 hm; omega))
        refine s_storeA (off := 0) 1 _f_35 sz29 rfl (us := [(.slice none 0 0)]) rfl rfl rfl rfl fun _w_36 _m_37 _cw_36 => ?_
        have _cw_36z := _cw_36.size
        have E := E.step _cw_36 (fun i hi => .inl (by have _h1 := List.mem_singleton.1 hi; omega))
        replace _m_37 : Blk _w_36 _b2 29 [(.slice none 0 0)] := _m_37
        refine WL_step rfl rfl (r_assign rfl) ?_
        refine WL_nil ?_
        refine thn_nrm (_hK_34 _ _ ?_)
        clear _hK_34
        refine W_ret (thn_ret ?_)
        clear _hK_31
        have _o_38 : Ol Token.cs 57 4 _w_36 (.slice none 0 0) ((expE e).1) := by
          have hx := (Ol.nil (cs := Token.cs) (e := 57) (k := 4) _w_36)
          first | (rw [expE_n _h8]; exact hx) | (rw [expE_n2 _e5 (by omega)]; exact hx) | (rw [expE_n3 _e5 (by rw [← Tr.flat_len]; omega)]; exact hx) | (rw [expE_y _e5 (by omega) (by omega) (by rw [← Tr.flat_len]; omega)]; exact hx)
        exact ret_intro [_, _] (resOf_loadA _m_37 rfl agg29 sz29 ⟨rfl, trivial⟩) ⟨(.slice none 0 0), (congrArg (fun zq => (Value.tuple #[.agg #[(.slice none 0 0)], .bool zq])) (by first | (rw [expE_n _h8]; done) | (rw [expE_n2 _e5 (by omega)]; done) | (rw [expE_n3 _e5 (by rw [← Tr.flat_len]; omega)]; done) | (rw [expE_y _e5 (by omega) (by omega) (by rw [← Tr.flat_len]; omega)]; done))), _o_38, (Lo.nil _), E⟩
      · have _kb_33 := _h21
        have _h21 := bf_d _h21
        refine W_skip ?_
        refine thn_nrm (_hK_31 _ _ ?_)
        clear _hK_31
        refine W_seq fun _K_39 _hK_39 => ?_
        refine W_region ?_
        refine WL_step rfl rfl (r_loadAtA0 _m_30.at_ agg29 sz29 rfl) ?_
        refine WL_s rfl rfl ?_
        have _f_40 := (((((_m2.ch0 _cw_8).ch0 _cw_17).ch0 _cw_27).ch0 _cw_28).ch _cw_29 (fun hm => by have _h1 := List.mem_singleton.1 hm; omega))
        refine s_storeA (off := 0) 1 _f_40 sz29 rfl (us := [(.slice _Au17 ((expT _t5).flat).length _Cu17)]) rfl rfl rfl rfl fun _w_41 _m_42 _cw_41 => ?_
        have _cw_41z := _cw_41.size
        have E := E.step _cw_41 (fun i hi => .inl (by have _h1 := List.mem_singleton.1 hi; omega))
        replace _m_42 : Blk _w_41 _b2 29 [(.slice _Au17 ((expT _t5).flat).length _Cu17)] := _m_42
        refine WL_step rfl rfl (r_assign rfl) ?_
        refine WL_nil ?_
        refine thn_nrm (_hK_39 _ _ ?_)
        clear _hK_39
        refine W_ret ?_
        have _f_43 := (((_q17.ch0 _cw_28).ch _cw_29 (fun g hg hm => by have _h0 := List.mem_singleton.1 hm; have _h2 := _lo17 _ hg; have _h3 := _hiu17 _ hg; omega)).ch _cw_41 (fun g hg hm => by have _h0 := List.mem_singleton.1 hm; have _h2 := _lo17 _ hg; have _h3 := _hiu17 _ hg; omega))
        have _o_44 : Ol Token.cs 57 4 _w_41 (.slice _Au17 ((expT _t5).flat).length _Cu17) ((expE e).1) := by
          have hx := _f_43
          first | (rw [expE_n _h8]; exact hx) | (rw [expE_n2 _e5 (by omega)]; exact hx) | (rw [expE_n3 _e5 (by rw [← Tr.flat_len]; omega)]; exact hx) | (rw [expE_y _e5 (by omega) (by omega) (by rw [← Tr.flat_len]; omega)]; exact hx)
        exact ret_intro [_, _] (resOf_loadA _m_42 rfl agg29 sz29 ⟨rfl, trivial⟩) ⟨(.slice _Au17 ((expT _t5).flat).length _Cu17), (congrArg (fun zq => (Value.tuple #[.agg #[(.slice _Au17 ((expT _t5).flat).length _Cu17)], .bool zq])) (by first | (rw [expE_n _h8]; done) | (rw [expE_n2 _e5 (by omega)]; done) | (rw [expE_n3 _e5 (by rw [← Tr.flat_len]; omega)]; done) | (rw [expE_y _e5 (by omega) (by omega) (by rw [← Tr.flat_len]; omega)]; done))), _o_44, (Lo.down _lo17 (by omega)), E⟩

/-- laws.FnExactExpandExpr -/
theorem c_laws_FnExactExpandExpr {w : World} {LL_e _B_e : Nat} {_v_e : Value} {e : List Token} (_h_e : Ls Token.cs 4 w LL_e _B_e _v_e e) :
    Ctr Try.prog 10 #[(.agg #[_v_e])] w (fun v w' => v = .bool (true) ∧ Ch [] w w') := by
  obtain ⟨_A_e, _C_e, _e1_e⟩ := _h_e.val
  subst _e1_e
  have _l_e := _h_e.len
  have _h_e := _h_e.here (by decide)
  have E := Ch.refl [] w
  have sl := expE_len e
  refine Ctr_of_W (N := 96) (vs0 := [(.agg #[(.slice _A_e e.length _C_e)])]) Try.func10 rfl rfl rfl ?_
  refine W_seq fun _K_1 _hK_1 => ?_
  refine W_region ?_
  refine WL_s rfl rfl ?_
  refine s_box rfl fun _b1 _w_2 _m1 _cw_2 _e1 => ?_
  have _cw_2z := _cw_2.size
  have E := E.trans _cw_2
  have _z1 := _m1.lt
  replace _m1 : Blk _w_2 _b1 24 [(.slice _A_e e.length _C_e)] := _m1
  refine WL_step rfl rfl (r_assign rfl) ?_
  refine WL_nil ?_
  refine thn_nrm (_hK_1 _ _ ?_)
  clear _hK_1
  refine W_seq fun _K_3 _hK_3 => ?_
  refine W_region ?_
  refine WL_step rfl rfl (r_assign rfl) ?_
  refine WL_nil ?_
  refine thn_nrm (_hK_3 _ _ ?_)
  clear _hK_3
  refine W_seq fun _K_4 _hK_4 => ?_
  refine W_region ?_
  refine WL_step rfl rfl (r_loadAtA0 _m1.at_ agg24 sz24 rfl) ?_
  refine WL_step rfl rfl (r_move rfl) ?_
  refine WL_s rfl rfl ?_
  have _f_5 := (_h_e.ch0 _cw_2)
  refine Step.call (r_call (xs := [.tmp 14, .tmp 15]) fk14 rfl) (c_laws_szExpr _f_5 _ (by omega) (by omega)) fun _v16 _w_6 _q16 => ?_
  obtain ⟨rfl, _cw_6⟩ := _q16
  have _cw_6z := _cw_6.size
  have E := E.trans _cw_6
  refine WL_step rfl rfl (r_assign rfl) ?_
  refine WL_nil ?_
  refine thn_nrm (_hK_4 _ _ ?_)
  clear _hK_4
  refine W_seq fun _K_7 _hK_7 => ?_
  refine W_seq fun _K_8 _hK_8 => ?_
  refine W_region ?_
  refine WL_step rfl rfl (r_move rfl) ?_
  refine WL_step rfl rfl (r_lss rfl rfl) ?_
  refine WL_nil ?_
  refine thn_nrm (_hK_8 _ _ ?_)
  clear _hK_8
  refine W_cond rfl (fun _h18 => ?_) (fun _h18 => ?_)
  · have _kb_9 := _h18
    have _h18 := bt_d _h18
    refine W_seq fun _K_10 _hK_10 => ?_
    refine W_region ?_
    refine WL_step rfl rfl (r_assign rfl) ?_
    refine WL_nil ?_
    refine thn_nrm (_hK_10 _ _ ?_)
    clear _hK_10
    refine W_ret (thn_ret ?_)
    clear _hK_7
    exact ret_intro [_] ⟨rfl, trivial⟩ ⟨congrArg Value.bool (by first | rfl | (exfalso; omega) | (exfalso; revert _h18; simp; done) | (exfalso; revert _h18; simp; omega)), E⟩
  · have _kb_9 := _h18
    have _h18 := bf_d _h18
    refine W_skip ?_
    refine thn_nrm (_hK_7 _ _ ?_)
    clear _hK_7
    refine W_seq fun _K_11 _hK_11 => ?_
    refine W_region ?_
    have _f_12 := (_m1.ch0 _cw_6)
    refine WL_step rfl rfl (r_loadAtA0 _f_12.at_ agg24 sz24 rfl) ?_
    refine WL_s rfl rfl ?_
    have _f_13 := (_f_5.ch0 _cw_6)
    refine Step.call (r_call (xs := [.tmp 20]) fk16 rfl) (c_laws_toExpr _f_13 (by omega)) fun _v21 _w_14 _q21 => ?_
    obtain ⟨_u21, rfl, _q21, _lo21, _cw_14⟩ := _q21
    have _cw_14z := _cw_14.size
    have E := E.trans _cw_14
    obtain ⟨_Au21, _Cu21, _eu21⟩ := _q21.val
    subst _eu21
    have _lu21 := _q21.len
    have _hiu21 := _q21.lt
    refine WL_s rfl rfl ?_
    refine Step.call (r_call (xs := [.tmp 21]) fk36 rfl) (c_spec_ExpandExpr _q21.ls (by omega)) fun _v22 _w_15 _q22 => ?_
    obtain ⟨u22_0x0, rfl, _q_u22_0x0, _lo_u22_0x0, _cw_15⟩ := _q22
    have _cw_15z := _cw_15.size
    have E := E.trans _cw_15
    obtain ⟨Au22_0x0, Cu22_0x0, eu22_0x0⟩ := _q_u22_0x0.val
    subst eu22_0x0
    have lu22_0x0 := _q_u22_0x0.len
    have _hiu22_0x0 := _q_u22_0x0.lt
    refine WL_step rfl rfl (r_move rfl) ?_
    refine WL_step rfl rfl (r_extract rfl rfl) ?_
    refine WL_step rfl rfl (r_extract rfl rfl) ?_
    refine WL_s rfl rfl ?_
    refine s_alloc zr29 fun _b4 _w_16 _m4 _cw_16 _e4 => ?_
    have _cw_16z := _cw_16.size
    have E := E.trans _cw_16
    have _z4 := _m4.lt
    replace _m4 : Blk _w_16 _b4 29 [(.slice none 0 0)] := _m4
    refine WL_s rfl rfl ?_
    refine s_storeA (off := 0) 1 _m4 sz29 rfl (us := [(.slice Au22_0x0 ((expE e).1).length Cu22_0x0)]) rfl rfl rfl rfl fun _w_17 _m_18 _cw_17 => ?_
    have _cw_17z := _cw_17.size
    have E := E.step _cw_17 (fun i hi => .inl (by have _h1 := List.mem_singleton.1 hi; omega))
    replace _m_18 : Blk _w_17 _b4 29 [(.slice Au22_0x0 ((expE e).1).length Cu22_0x0)] := _m_18
    refine WL_step rfl rfl (r_assign rfl) ?_
    refine WL_nil ?_
    refine thn_nrm (_hK_11 _ _ ?_)
    clear _hK_11
    refine W_seq fun _K_19 _hK_19 => ?_
    refine W_region ?_
    have _f_20 := ((((_f_12.ch0 _cw_14).ch0 _cw_15).ch0 _cw_16).ch _cw_17 (fun hm => by have _h1 := List.mem_singleton.1 hm; omega))
    refine WL_step rfl rfl (r_loadAtA0 _f_20.at_ agg24 sz24 rfl) ?_
    refine WL_s rfl rfl ?_
    have _f_21 := ((((_f_13.ch0 _cw_14).ch0 _cw_15).ch0 _cw_16).ch _cw_17 (fun i hi => by have _h1 := List.mem_singleton.1 hi; omega))
    refine Step.call (r_call (xs := [.tmp 25]) fk16 rfl) (c_laws_toExpr _f_21 (by omega)) fun _v26 _w_22 _q26 => ?_
    obtain ⟨_u26, rfl, _q26, _lo26, _cw_22⟩ := _q26
    have _cw_22z := _cw_22.size
    have E := E.trans _cw_22
    obtain ⟨_Au26, _Cu26, _eu26⟩ := _q26.val
    subst _eu26
    have _lu26 := _q26.len
    have _hiu26 := _q26.lt
    refine WL_s rfl rfl ?_
    refine s_alloc zr29 fun _b6 _w_23 _m6 _cw_23 _e6 => ?_
    have _cw_23z := _cw_23.size
    have E := E.trans _cw_23
    have _z6 := _m6.lt
    replace _m6 : Blk _w_23 _b6 29 [(.slice none 0 0)] := _m6
    refine WL_s rfl rfl ?_
    refine s_storeA (off := 0) 1 _m6 sz29 rfl (us := [(.slice _Au26 (e).length _Cu26)]) rfl rfl rfl rfl fun _w_24 _m_25 _cw_24 => ?_
    have _cw_24z := _cw_24.size
    have E := E.step _cw_24 (fun i hi => .inl (by have _h1 := List.mem_singleton.1 hi; omega))
    replace _m_25 : Blk _w_24 _b6 29 [(.slice _Au26 (e).length _Cu26)] := _m_25
    refine WL_nil ?_
    refine thn_nrm (_hK_19 _ _ ?_)
    clear _hK_19
    refine W_seq fun _K_26 _hK_26 => ?_
    refine W_region ?_
    refine WL_step rfl rfl (r_loadAtA0 _m_25.at_ agg29 sz29 rfl) ?_
    refine WL_s rfl rfl ?_
    have _f_27 := ((_q26.ch0 _cw_23).ch _cw_24 (fun g hg hm => by have _h0 := List.mem_singleton.1 hm; have _h2 := _lo26 _ hg; have _h3 := _hiu26 _ hg; omega))
    refine Step.call (r_call (xs := [.tmp 28]) fk37 rfl) (c_impl_ExpandExpr _f_27.ls (by omega)) fun _v29 _w_28 _q29 => ?_
    obtain ⟨u29_0x0, rfl, _q_u29_0x0, _lo_u29_0x0, _cw_28⟩ := _q29
    have _cw_28z := _cw_28.size
    have E := E.trans _cw_28
    obtain ⟨Au29_0x0, Cu29_0x0, eu29_0x0⟩ := _q_u29_0x0.val
    subst eu29_0x0
    have lu29_0x0 := _q_u29_0x0.len
    have _hiu29_0x0 := _q_u29_0x0.lt
    refine WL_step rfl rfl (r_move rfl) ?_
    refine WL_step rfl rfl (r_extract rfl rfl) ?_
    refine WL_step rfl rfl (r_extract rfl rfl) ?_
    refine WL_s rfl rfl ?_
    refine s_alloc zr29 fun _b7 _w_29 _m7 _cw_29 _e7 => ?_
    have _cw_29z := _cw_29.size
    have E := E.trans _cw_29
    have _z7 := _m7.lt
    replace _m7 : Blk _w_29 _b7 29 [(.slice none 0 0)] := _m7
    refine WL_s rfl rfl ?_
    refine s_storeA (off := 0) 1 _m7 sz29 rfl (us := [(.slice Au29_0x0 ((expE e).1).length Cu29_0x0)]) rfl rfl rfl rfl fun _w_30 _m_31 _cw_30 => ?_
    have _cw_30z := _cw_30.size
    have E := E.step _cw_30 (fun i hi => .inl (by have _h1 := List.mem_singleton.1 hi; omega))
    replace _m_31 : Blk _w_30 _b7 29 [(.slice Au29_0x0 ((expE e).1).length Cu29_0x0)] := _m_31
    refine WL_step rfl rfl (r_assign rfl) ?_
    refine WL_nil ?_
    refine thn_nrm (_hK_26 _ _ ?_)
    clear _hK_26
    refine W_seq fun _K_32 _hK_32 => ?_
    refine W_seq fun _K_33 _hK_33 => ?_
    refine W_region ?_
    refine WL_step rfl rfl (r_loadAtA0 _m_31.at_ agg29 sz29 rfl) ?_
    have _f_34 := ((((((_m_18.ch0 _cw_22).ch0 _cw_23).ch _cw_24 (fun hm => by have _h1 := List.mem_singleton.1 hm; omega)).ch0 _cw_28).ch0 _cw_29).ch _cw_30 (fun hm => by have _h1 := List.mem_singleton.1 hm; omega))
    refine WL_step rfl rfl (r_loadAtA0 _f_34.at_ agg29 sz29 rfl) ?_
    refine WL_s rfl rfl ?_
    have _f_35 := ((_q_u29_0x0.ch0 _cw_29).ch _cw_30 (fun g hg hm => by have _h0 := List.mem_singleton.1 hm; have _h2 := _lo_u29_0x0 _ hg; have _h3 := _hiu29_0x0 _ hg; omega))
    have _f_36 := ((((((((_q_u22_0x0.ch0 _cw_16).ch _cw_17 (fun g hg hm => by have _h0 := List.mem_singleton.1 hm; have _h2 := _lo_u22_0x0 _ hg; have _h3 := _hiu22_0x0 _ hg; omega)).ch0 _cw_22).ch0 _cw_23).ch _cw_24 (fun g hg hm => by have _h0 := List.mem_singleton.1 hm; have _h2 := _lo_u22_0x0 _ hg; have _h3 := _hiu22_0x0 _ hg; omega)).ch0 _cw_28).ch0 _cw_29).ch _cw_30 (fun g hg hm => by have _h0 := List.mem_singleton.1 hm; have _h2 := _lo_u22_0x0 _ hg; have _h3 := _hiu22_0x0 _ hg; omega))
    refine Step.call (r_call (xs := [.tmp 32, .tmp 33]) fk18 rfl) (c_laws_eqExpr _f_35.ls _f_36.ls ) fun _v34 _w_37 _q34 => ?_
    obtain ⟨rfl, _cw_37⟩ := _q34
    have _cw_37z := _cw_37.size
    have E := E.trans _cw_37
    refine WL_step rfl rfl (r_not rfl) ?_
    refine WL_step rfl rfl (r_move rfl) ?_
    refine WL_split (d := 36) rfl (fun _h36 => ?_) (fun _h36 => ?_)
    · have _kb_38 := _h36
      have _h36 := bf_d (bt_n _h36)
      refine WL_skip rfl rfl ?_
      refine WL_skip rfl rfl ?_
      refine WL_skip rfl rfl ?_
      refine WL_step rfl rfl (r_pickT rfl rfl) ?_
      refine WL_nil ?_
      refine thn_nrm (_hK_33 _ _ ?_)
      clear _hK_33
      refine W_condT rfl ?_
      refine W_seq fun _K_39 _hK_39 => ?_
      refine W_region ?_
      refine WL_step rfl rfl (r_assign rfl) ?_
      refine WL_nil ?_
      refine thn_nrm (_hK_39 _ _ ?_)
      clear _hK_39
      refine W_ret (thn_ret ?_)
      clear _hK_32
      exact ret_intro [_] ⟨rfl, trivial⟩ ⟨congrArg Value.bool (by first | rfl | (exfalso; omega) | (exfalso; revert _h36; simp; done) | (exfalso; revert _h36; simp; omega)), E⟩
    · have _kb_38 := _h36
      have _h36 := bt_d (bf_n _h36)
      refine WL_step rfl rfl (r_move rfl) ?_
      refine WL_step rfl rfl (r_move rfl) ?_
      refine WL_step rfl rfl (r_neqB un4 rfl rfl) ?_
      refine WL_step rfl rfl (r_pickF rfl rfl) ?_
      refine WL_nil ?_
      refine thn_nrm (_hK_33 _ _ ?_)
      clear _hK_33
      refine W_cond rfl (fun _h40 => ?_) (fun _h40 => ?_)
      · have _kb_40 := _h40
        have _h40 := bf_e (bt_n _h40)
        refine W_seq fun _K_41 _hK_41 => ?_
        refine W_region ?_
        refine WL_step rfl rfl (r_assign rfl) ?_
        refine WL_nil ?_
        refine thn_nrm (_hK_41 _ _ ?_)
        clear _hK_41
        refine W_ret (thn_ret ?_)
        clear _hK_32
        exact ret_intro [_] ⟨rfl, trivial⟩ ⟨congrArg Value.bool (by first | rfl | (exfalso; omega) | (exfalso; revert _h40; simp; done) | (exfalso; revert _h40; simp; omega)), E⟩
      · have _kb_40 := _h40
        have _h40 := bt_e (bf_n _h40)
        refine W_skip ?_
        refine thn_nrm (_hK_32 _ _ ?_)
        clear _hK_32
        refine W_seq fun _K_42 _hK_42 => ?_
        refine W_seq fun _K_43 _hK_43 => ?_
        refine W_drawC [] 5 mixed rfl fun _w_44 _cw_44 => ?_
        have _cw_44z := _cw_44.size
        have E := E.trans _cw_44
        have _f_45 := (((((_m_25.ch0 _cw_28).ch0 _cw_29).ch _cw_30 (fun hm => by have _h1 := List.mem_singleton.1 hm; omega)).ch0 _cw_37).ch0 _cw_44)
        refine DR_s 0 rfl (by kernel_rfl) rfl rfl (t_loadAtA0 _f_45.at_ (fun i hi => absurd hi List.not_mem_nil) agg29 sz29 rfl ?_)
        have _f_46 := ((((((((_f_20.ch0 _cw_22).ch0 _cw_23).ch _cw_24 (fun hm => by have _h1 := List.mem_singleton.1 hm; omega)).ch0 _cw_28).ch0 _cw_29).ch _cw_30 (fun hm => by have _h1 := List.mem_singleton.1 hm; omega)).ch0 _cw_37).ch0 _cw_44)
        refine DR_s 1 rfl (by kernel_rfl) rfl rfl (t_loadAtA0 _f_46.at_ (fun i hi => absurd hi List.not_mem_nil) agg24 sz24 rfl ?_)
        refine DR_one 2 (by kernel_rfl) ?_
        refine DO_s rfl rfl rfl ?_
        have _f_47 := ((((((((_f_21.ch0 _cw_22).ch0 _cw_23).ch _cw_24 (fun i hi => by have _h1 := List.mem_singleton.1 hi; omega)).ch0 _cw_28).ch0 _cw_29).ch _cw_30 (fun i hi => by have _h1 := List.mem_singleton.1 hi; omega)).ch0 _cw_37).ch0 _cw_44)
        refine Step.call (r_call (xs := [.tmp 42]) fk16 rfl) (c_laws_toExpr _f_47 (by omega)) fun _v43 _w_48 _q43 => ?_
        obtain ⟨_u43, rfl, _q43, _lo43, _cw_48⟩ := _q43
        have _cw_48z := _cw_48.size
        have E := E.trans _cw_48
        obtain ⟨_Au43, _Cu43, _eu43⟩ := _q43.val
        subst _eu43
        have _lu43 := _q43.len
        have _hiu43 := _q43.lt
        have _S_49 : Ch [] _w_44 _w_48 := ((Ch.refl _ _).trans _cw_48)
        refine ⟨_S_49, ?_⟩
        refine DR_one 3 (by kernel_rfl) ?_
        refine DO_s rfl rfl rfl ?_
        have _f_50 := ((((((_f_27.ch0 _cw_28).ch0 _cw_29).ch _cw_30 (fun g hg hm => by have _h0 := List.mem_singleton.1 hm; have _h2 := _lo26 _ hg; have _h3 := _hiu26 _ hg; omega)).ch0 _cw_37).ch0 _cw_44).ch0 _cw_48)
        refine Step.call (r_call (xs := [.tmp 41, .tmp 43]) fk18 rfl) (c_laws_eqExpr _f_50.ls _q43.ls ) fun _v44 _w_51 _q44 => ?_
        obtain ⟨rfl, _cw_51⟩ := _q44
        have _cw_51z := _cw_51.size
        have E := E.trans _cw_51
        have _S_52 : Ch [] _w_44 _w_51 := (_S_49.trans _cw_51)
        refine ⟨_S_52, ?_⟩
        refine DR_s 4 rfl (by kernel_rfl) rfl rfl (t_v (fun _ => (r_not rfl)) ?_)
        refine DR_done (by kernel_rfl) ?_
        refine thn_nrm (_hK_43 _ _ ?_)
        clear _hK_43
        refine W_cond rfl (fun _h45 => ?_) (fun _h45 => ?_)
        · have _kb_53 := _h45
          have _h45 := bf_d (bt_n _h45)
          refine W_seq fun _K_54 _hK_54 => ?_
          refine W_region ?_
          refine WL_step rfl rfl (r_assign rfl) ?_
          refine WL_nil ?_
          refine thn_nrm (_hK_54 _ _ ?_)
          clear _hK_54
          refine W_ret (thn_ret ?_)
          clear _hK_42
          exact ret_intro [_] ⟨rfl, trivial⟩ ⟨congrArg Value.bool (by first | rfl | (exfalso; omega) | (exfalso; revert _h45; simp; done) | (exfalso; revert _h45; simp; omega)), E⟩
        · have _kb_53 := _h45
          have _h45 := bt_d (bf_n _h45)
          refine W_skip ?_
          refine thn_nrm (_hK_42 _ _ ?_)
          clear _hK_42
          refine W_seq fun _K_55 _hK_55 => ?_
          refine W_region ?_
          refine WL_step rfl rfl (r_assign rfl) ?_
          refine WL_nil ?_
          refine thn_nrm (_hK_55 _ _ ?_)
          clear _hK_55
          refine W_seq fun _K_56 _hK_56 => ?_
          refine W_region ?_
          have _f_57 := ((_f_45.ch0 _cw_48).ch0 _cw_51)
          refine WL_step rfl rfl (r_loadAtA0 _f_57.at_ agg29 sz29 rfl) ?_
          refine WL_step rfl rfl (r_move rfl) ?_
          refine WL_s rfl rfl ?_
          have _f_58 := (_f_50.ch0 _cw_51)
          refine Step.call (r_call (xs := [.tmp 46, .tmp 47]) fk25 rfl) (c_laws_markExpr _f_58 _ (by omega) (by first | omega | (simp <;> omega))) fun _v48 _w_59 _q48 => ?_
          obtain ⟨rfl, _q48, _cw_59⟩ := _q48
          have _cw_59z := _cw_59.size
          have E := E.step _cw_59 (fun i hi => .inl (by have _h1 := _lo26 _ hi; omega))
          refine WL_step rfl rfl (r_assign rfl) ?_
          refine WL_nil ?_
          refine thn_nrm (_hK_56 _ _ ?_)
          clear _hK_56
          refine W_seq fun _K_60 _hK_60 => ?_
          refine W_seq fun _K_61 _hK_61 => ?_
          refine W_region ?_
          refine WL_step rfl rfl (r_move rfl) ?_
          refine WL_step rfl rfl (r_lss rfl rfl) ?_
          refine WL_step rfl rfl (r_move rfl) ?_
          refine WL_split (d := 51) rfl (fun _h51 => ?_) (fun _h51 => ?_)
          · have _kb_62 := _h51
            have _h51 := bt_d _h51
            refine WL_skip rfl rfl ?_
            refine WL_skip rfl rfl ?_
            refine WL_skip rfl rfl ?_
            refine WL_skip rfl rfl ?_
            refine WL_step rfl rfl (r_pickT rfl rfl) ?_
            refine WL_step rfl rfl (r_move rfl) ?_
            refine WL_skip rfl rfl ?_
            refine WL_skip rfl rfl ?_
            refine WL_skip rfl rfl ?_
            refine WL_step rfl rfl (r_pickT rfl rfl) ?_
            refine WL_nil ?_
            refine thn_nrm (_hK_61 _ _ ?_)
            clear _hK_61
            refine W_condT rfl ?_
            refine W_seq fun _K_63 _hK_63 => ?_
            refine W_region ?_
            refine WL_step rfl rfl (r_assign rfl) ?_
            refine WL_nil ?_
            refine thn_nrm (_hK_63 _ _ ?_)
            clear _hK_63
            refine W_ret (thn_ret ?_)
            clear _hK_60
            exact ret_intro [_] ⟨rfl, trivial⟩ ⟨congrArg Value.bool (by first | rfl | (exfalso; omega) | (exfalso; revert _h51; simp; done) | (exfalso; revert _h51; simp; omega)), E⟩
          · have _kb_62 := _h51
            have _h51 := bf_d _h51
            have _f_64 := (((((_m_31.ch0 _cw_37).ch0 _cw_44).ch0 _cw_48).ch0 _cw_51).ch _cw_59 (fun hm => by have _h1 := _lo26 _ hm; have _h2 := _hiu26 _ hm; omega))
            refine WL_step rfl rfl (r_loadAtA0 _f_64.at_ agg29 sz29 rfl) ?_
            have _f_65 := (((((_f_34.ch0 _cw_37).ch0 _cw_44).ch0 _cw_48).ch0 _cw_51).ch _cw_59 (fun hm => by have _h1 := _lo26 _ hm; have _h2 := _hiu26 _ hm; omega))
            refine WL_step rfl rfl (r_loadAtA0 _f_65.at_ agg29 sz29 rfl) ?_
            refine WL_s rfl rfl ?_
            have _f_66 := (((((_f_35.ch0 _cw_37).ch0 _cw_44).ch0 _cw_48).ch0 _cw_51).ch _cw_59 (fun g hg hm => by have _h1 := _lo26 _ hm; have _h2 := _hiu26 _ hm; have _h3 := _lo_u29_0x0 _ hg; have _h4 := _hiu29_0x0 _ hg; omega))
            have _f_67 := (((((_f_36.ch0 _cw_37).ch0 _cw_44).ch0 _cw_48).ch0 _cw_51).ch _cw_59 (fun g hg hm => by have _h1 := _lo26 _ hm; have _h2 := _hiu26 _ hm; have _h3 := _lo_u22_0x0 _ hg; have _h4 := _hiu22_0x0 _ hg; omega))
            refine Step.call (r_call (xs := [.tmp 52, .tmp 53]) fk18 rfl) (c_laws_eqExpr _f_66.ls _f_67.ls ) fun _v54 _w_68 _q54 => ?_
            obtain ⟨rfl, _cw_68⟩ := _q54
            have _cw_68z := _cw_68.size
            have E := E.trans _cw_68
            refine WL_step rfl rfl (r_not rfl) ?_
            refine WL_step rfl rfl (r_pickF rfl rfl) ?_
            refine WL_step rfl rfl (r_move rfl) ?_
            refine WL_splitF (d := 57) rfl _kb_38 ?_
            refine WL_step rfl rfl (r_move rfl) ?_
            refine WL_step rfl rfl (r_move rfl) ?_
            refine WL_step rfl rfl (r_neqB un4 rfl rfl) ?_
            refine WL_step rfl rfl (r_pickF rfl rfl) ?_
            refine WL_nil ?_
            refine thn_nrm (_hK_61 _ _ ?_)
            clear _hK_61
            refine W_condFk rfl _kb_40 ?_
            refine W_skip ?_
            refine thn_nrm (_hK_60 _ _ ?_)
            clear _hK_60
            refine W_seq fun _K_69 _hK_69 => ?_
            refine W_region ?_
            refine WL_step rfl rfl (r_assign rfl) ?_
            refine WL_nil ?_
            refine thn_nrm (_hK_69 _ _ ?_)
            clear _hK_69
            refine W_seq fun _K_70 _hK_70 => ?_
            refine W_region ?_
            have _f_71 := (_f_64.ch0 _cw_68)
            refine WL_step rfl rfl (r_loadAtA0 _f_71.at_ agg29 sz29 rfl) ?_
            refine WL_step rfl rfl (r_move rfl) ?_
            refine WL_s rfl rfl ?_
            have _f_72 := (_f_66.ch0 _cw_68)
            refine Step.call (r_call (xs := [.tmp 62, .tmp 63]) fk25 rfl) (c_laws_markExpr _f_72 _ (by omega) (by first | omega | (simp <;> omega))) fun _v64 _w_73 _q64 => ?_
            obtain ⟨rfl, _q64, _cw_73⟩ := _q64
            have _cw_73z := _cw_73.size
            have E := E.step _cw_73 (fun i hi => .inl (by have _h1 := _lo_u29_0x0 _ hi; omega))
            refine WL_step rfl rfl (r_assign rfl) ?_
            refine WL_nil ?_
            refine thn_nrm (_hK_70 _ _ ?_)
            clear _hK_70
            refine W_seq fun _K_74 _hK_74 => ?_
            refine W_region ?_
            refine WL_step rfl rfl (r_assign rfl) ?_
            refine WL_nil ?_
            refine thn_nrm (_hK_74 _ _ ?_)
            clear _hK_74
            refine W_seq fun _K_75 _hK_75 => ?_
            refine W_region ?_
            have _f_76 := (_f_71.ch _cw_73 (fun hm => by have _h1 := _lo_u29_0x0 _ hm; have _h2 := _hiu29_0x0 _ hm; omega))
            refine WL_step rfl rfl (r_loadAtA0 _f_76.at_ agg29 sz29 rfl) ?_
            refine WL_step rfl rfl (r_move rfl) ?_
            refine WL_s rfl rfl ?_
            refine Step.call (r_call (xs := [.tmp 65, .tmp 66]) fk26 rfl) (c_laws_heldExpr _q64.ls _ (by omega) (by first | omega | (simp <;> omega))) fun _v67 _w_77 _q67 => ?_
            obtain ⟨rfl, _cw_77⟩ := _q67
            have _cw_77z := _cw_77.size
            have E := E.trans _cw_77
            refine WL_step rfl rfl (r_assign rfl) ?_
            refine WL_nil ?_
            refine thn_nrm (_hK_75 _ _ ?_)
            clear _hK_75
            refine W_seq fun _K_78 _hK_78 => ?_
            refine W_seq fun _K_79 _hK_79 => ?_
            refine W_region ?_
            refine WL_step rfl rfl (r_move rfl) ?_
            refine WL_step rfl rfl (r_lss rfl rfl) ?_
            refine WL_nil ?_
            refine thn_nrm (_hK_79 _ _ ?_)
            clear _hK_79
            refine W_cond rfl (fun _h69 => ?_) (fun _h69 => ?_)
            · have _kb_80 := _h69
              have _h69 := bt_d _h69
              refine W_seq fun _K_81 _hK_81 => ?_
              refine W_region ?_
              refine WL_step rfl rfl (r_assign rfl) ?_
              refine WL_nil ?_
              refine thn_nrm (_hK_81 _ _ ?_)
              clear _hK_81
              refine W_ret (thn_ret ?_)
              clear _hK_78
              exact ret_intro [_] ⟨rfl, trivial⟩ ⟨congrArg Value.bool (by first | rfl | (exfalso; omega) | (exfalso; revert _h69; simp; done) | (exfalso; revert _h69; simp; omega)), E⟩
            · have _kb_80 := _h69
              have _h69 := bf_d _h69
              refine W_skip ?_
              refine thn_nrm (_hK_78 _ _ ?_)
              clear _hK_78
              refine W_seq fun _K_82 _hK_82 => ?_
              refine W_seq fun _K_83 _hK_83 => ?_
              refine W_region ?_
              refine WL_step rfl rfl (r_move rfl) ?_
              refine WL_step rfl rfl (r_move rfl) ?_
              refine WL_step rfl rfl (r_neq rfl rfl) ?_
              refine WL_nil ?_
              refine thn_nrm (_hK_83 _ _ ?_)
              clear _hK_83
              refine W_cond rfl (fun _h72 => ?_) (fun _h72 => ?_)
              · have _kb_84 := _h72
                have _h72 := bf_d (bt_n _h72)
                refine W_seq fun _K_85 _hK_85 => ?_
                refine W_region ?_
                refine WL_step rfl rfl (r_assign rfl) ?_
                refine WL_nil ?_
                refine thn_nrm (_hK_85 _ _ ?_)
                clear _hK_85
                refine W_ret (thn_ret ?_)
                clear _hK_82
                exact ret_intro [_] ⟨rfl, trivial⟩ ⟨congrArg Value.bool (by first | rfl | (exfalso; omega) | (exfalso; revert _h72; simp; done) | (exfalso; revert _h72; simp; omega)), E⟩
              · have _kb_84 := _h72
                have _h72 := bt_d (bf_n _h72)
                refine W_skip ?_
                refine thn_nrm (_hK_82 _ _ ?_)
                clear _hK_82
                refine W_seq fun _K_86 _hK_86 => ?_
                refine W_region ?_
                have _f_87 := ((((((_f_46.ch0 _cw_48).ch0 _cw_51).ch _cw_59 (fun hm => by have _h1 := _lo26 _ hm; have _h2 := _hiu26 _ hm; omega)).ch0 _cw_68).ch _cw_73 (fun hm => by have _h1 := _lo_u29_0x0 _ hm; have _h2 := _hiu29_0x0 _ hm; omega)).ch0 _cw_77)
                refine WL_step rfl rfl (r_loadAtA0 _f_87.at_ agg24 sz24 rfl) ?_
                refine WL_s rfl rfl ?_
                have _f_88 := ((((((_f_47.ch0 _cw_48).ch0 _cw_51).ch _cw_59 (fun i hi => by have _h1 := _lo26 _ hi; omega)).ch0 _cw_68).ch _cw_73 (fun i hi => by have _h1 := _lo_u29_0x0 _ hi; omega)).ch0 _cw_77)
                refine Step.call (r_call (xs := [.tmp 74]) fk16 rfl) (c_laws_toExpr _f_88 (by omega)) fun _v75 _w_89 _q75 => ?_
                obtain ⟨_u75, rfl, _q75, _lo75, _cw_89⟩ := _q75
                have _cw_89z := _cw_89.size
                have E := E.trans _cw_89
                obtain ⟨_Au75, _Cu75, _eu75⟩ := _q75.val
                subst _eu75
                have _lu75 := _q75.len
                have _hiu75 := _q75.lt
                refine WL_s rfl rfl ?_
                refine Step.call (r_call (xs := [.tmp 75]) fk37 rfl) (c_impl_ExpandExpr _q75.ls (by omega)) fun _v76 _w_90 _q76 => ?_
                obtain ⟨u76_0x0, rfl, _q_u76_0x0, _lo_u76_0x0, _cw_90⟩ := _q76
                have _cw_90z := _cw_90.size
                have E := E.trans _cw_90
                obtain ⟨Au76_0x0, Cu76_0x0, eu76_0x0⟩ := _q_u76_0x0.val
                subst eu76_0x0
                have lu76_0x0 := _q_u76_0x0.len
                have _hiu76_0x0 := _q_u76_0x0.lt
                refine WL_step rfl rfl (r_move rfl) ?_
                refine WL_step rfl rfl (r_extract rfl rfl) ?_
                refine WL_step rfl rfl (r_extract rfl rfl) ?_
                refine WL_s rfl rfl ?_
                refine s_alloc zr29 fun _b12 _w_91 _m12 _cw_91 _e12 => ?_
                have _cw_91z := _cw_91.size
                have E := E.trans _cw_91
                have _z12 := _m12.lt
                replace _m12 : Blk _w_91 _b12 29 [(.slice none 0 0)] := _m12
                refine WL_s rfl rfl ?_
                refine s_storeA (off := 0) 1 _m12 sz29 rfl (us := [(.slice Au76_0x0 ((expE e).1).length Cu76_0x0)]) rfl rfl rfl rfl fun _w_92 _m_93 _cw_92 => ?_
                have _cw_92z := _cw_92.size
                have E := E.step _cw_92 (fun i hi => .inl (by have _h1 := List.mem_singleton.1 hi; omega))
                replace _m_93 : Blk _w_92 _b12 29 [(.slice Au76_0x0 ((expE e).1).length Cu76_0x0)] := _m_93
                refine WL_step rfl rfl (r_assign rfl) ?_
                refine WL_nil ?_
                refine thn_nrm (_hK_86 _ _ ?_)
                clear _hK_86
                refine W_seq fun _K_94 _hK_94 => ?_
                refine W_seq fun _K_95 _hK_95 => ?_
                refine W_region ?_
                refine WL_step rfl rfl (r_loadAtA0 _m_93.at_ agg29 sz29 rfl) ?_
                have _f_96 := (((((((_f_65.ch0 _cw_68).ch _cw_73 (fun hm => by have _h1 := _lo_u29_0x0 _ hm; have _h2 := _hiu29_0x0 _ hm; omega)).ch0 _cw_77).ch0 _cw_89).ch0 _cw_90).ch0 _cw_91).ch _cw_92 (fun hm => by have _h1 := List.mem_singleton.1 hm; omega))
                refine WL_step rfl rfl (r_loadAtA0 _f_96.at_ agg29 sz29 rfl) ?_
                refine WL_s rfl rfl ?_
                have _f_97 := ((_q_u76_0x0.ch0 _cw_91).ch _cw_92 (fun g hg hm => by have _h0 := List.mem_singleton.1 hm; have _h2 := _lo_u76_0x0 _ hg; have _h3 := _hiu76_0x0 _ hg; omega))
                have _f_98 := (((((((_f_67.ch0 _cw_68).ch _cw_73 (fun g hg hm => by have _h1 := _lo_u29_0x0 _ hm; have _h2 := _hiu29_0x0 _ hm; have _h3 := _lo_u22_0x0 _ hg; have _h4 := _hiu22_0x0 _ hg; omega)).ch0 _cw_77).ch0 _cw_89).ch0 _cw_90).ch0 _cw_91).ch _cw_92 (fun g hg hm => by have _h0 := List.mem_singleton.1 hm; have _h2 := _lo_u22_0x0 _ hg; have _h3 := _hiu22_0x0 _ hg; omega))
                refine Step.call (r_call (xs := [.tmp 79, .tmp 80]) fk18 rfl) (c_laws_eqExpr _f_97.ls _f_98.ls ) fun _v81 _w_99 _q81 => ?_
                obtain ⟨rfl, _cw_99⟩ := _q81
                have _cw_99z := _cw_99.size
                have E := E.trans _cw_99
                refine WL_step rfl rfl (r_not rfl) ?_
                refine WL_step rfl rfl (r_move rfl) ?_
                refine WL_splitF (d := 83) rfl _kb_38 ?_
                refine WL_step rfl rfl (r_move rfl) ?_
                refine WL_step rfl rfl (r_move rfl) ?_
                refine WL_step rfl rfl (r_neqB un4 rfl rfl) ?_
                refine WL_step rfl rfl (r_pickF rfl rfl) ?_
                refine WL_nil ?_
                refine thn_nrm (_hK_95 _ _ ?_)
                clear _hK_95
                refine W_condFk rfl _kb_40 ?_
                refine W_skip ?_
                refine thn_nrm (_hK_94 _ _ ?_)
                clear _hK_94
                refine W_seq fun _K_100 _hK_100 => ?_
                refine W_region ?_
                refine WL_step rfl rfl (r_assign rfl) ?_
                refine WL_nil ?_
                refine thn_nrm (_hK_100 _ _ ?_)
                clear _hK_100
                refine W_seq fun _K_101 _hK_101 => ?_
                refine W_region ?_
                have _f_102 := ((((((_f_76.ch0 _cw_77).ch0 _cw_89).ch0 _cw_90).ch0 _cw_91).ch _cw_92 (fun hm => by have _h1 := List.mem_singleton.1 hm; omega)).ch0 _cw_99)
                refine WL_step rfl rfl (r_loadAtA0 _f_102.at_ agg29 sz29 rfl) ?_
                refine WL_step rfl rfl (r_move rfl) ?_
                refine WL_s rfl rfl ?_
                have _f_103 := ((((((_q64.ch0 _cw_77).ch0 _cw_89).ch0 _cw_90).ch0 _cw_91).ch _cw_92 (fun g hg hm => by have _h0 := List.mem_singleton.1 hm; have _h2 := _lo_u29_0x0 _ hg; have _h3 := _hiu29_0x0 _ hg; omega)).ch0 _cw_99)
                refine Step.call (r_call (xs := [.tmp 88, .tmp 89]) fk26 rfl) (c_laws_heldExpr _f_103.ls _ (by omega) (by first | omega | (simp <;> omega))) fun _v90 _w_104 _q90 => ?_
                obtain ⟨rfl, _cw_104⟩ := _q90
                have _cw_104z := _cw_104.size
                have E := E.trans _cw_104
                refine WL_step rfl rfl (r_assign rfl) ?_
                refine WL_nil ?_
                refine thn_nrm (_hK_101 _ _ ?_)
                clear _hK_101
                refine W_seq fun _K_105 _hK_105 => ?_
                refine W_seq fun _K_106 _hK_106 => ?_
                refine W_region ?_
                refine WL_step rfl rfl (r_move rfl) ?_
                refine WL_step rfl rfl (r_lss rfl rfl) ?_
                refine WL_nil ?_
                refine thn_nrm (_hK_106 _ _ ?_)
                clear _hK_106
                refine W_condFk rfl _kb_80 ?_
                refine W_skip ?_
                refine thn_nrm (_hK_105 _ _ ?_)
                clear _hK_105
                refine W_seq fun _K_107 _hK_107 => ?_
                refine W_seq fun _K_108 _hK_108 => ?_
                refine W_region ?_
                refine WL_step rfl rfl (r_move rfl) ?_
                refine WL_step rfl rfl (r_move rfl) ?_
                refine WL_step rfl rfl (r_neq rfl rfl) ?_
                refine WL_nil ?_
                refine thn_nrm (_hK_108 _ _ ?_)
                clear _hK_108
                refine W_condFk rfl _kb_84 ?_
                refine W_skip ?_
                refine thn_nrm (_hK_107 _ _ ?_)
                clear _hK_107
                refine W_seq fun _K_109 _hK_109 => ?_
                refine W_region ?_
                refine WL_step rfl rfl (r_assign rfl) ?_
                refine WL_nil ?_
                refine thn_nrm (_hK_109 _ _ ?_)
                clear _hK_109
                refine W_ret ?_
                exact ret_intro [_] ⟨rfl, trivial⟩ ⟨congrArg Value.bool (by first | rfl | (exfalso; omega) | (exfalso; revert _h72; simp; done) | (exfalso; revert _h72; simp; omega)), E⟩

end Go.Proofs.Ytjjmjmbihonicaa
