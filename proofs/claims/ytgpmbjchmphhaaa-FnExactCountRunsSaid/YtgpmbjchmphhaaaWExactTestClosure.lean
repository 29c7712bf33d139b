/- Walks of functions that FnExactTestClosure reaches: what each returns, and that it leaves the memory that was there alone. -/
import Derived.Test.YtgpmbjchmphhaaaKF
import Derived.Test.YtgpmbjchmphhaaaKG
import Derived.Test.YtgpmbjchmphhaaaKH
import Derived.Test.YtgpmbjchmphhaaaKI
import Derived.Test.YtgpmbjchmphhaaaKJ
import Derived.Test.YtgpmbjchmphhaaaKM
import Derived.Test.YtgpmbjchmphhaaaKN
import Derived.Test.YtgpmbjchmphhaaaKO
import Derived.Test.YtgpmbjchmphhaaaKP
import Derived.Test.YtgpmbjchmphhaaaKQ
import Derived.Test.YtgpmbjchmphhaaaKR
import Derived.Test.YtgpmbjchmphhaaaKS
import Derived.Test.YtgpmbjchmphhaaaKT
import Derived.Test.YtgpmbjchmphhaaaKU
import Derived.Test.YtgpmbjchmphhaaaKV
import Derived.Test.YtgpmbjchmphhaaaKX
import Derived.Test.YtgpmbjchmphhaaaKY
import Derived.Test.YtgpmbjchmphhaaaKZ
import Derived.Test.YtgpmbjchmphhaaaJA
import Derived.Test.YtgpmbjchmphhaaaJB
import Derived.Test.YtgpmbjchmphhaaaJC
import Derived.Test.YtgpmbjchmphhaaaWExactUsefulStates
import Derived.Test.YtgpmbjchmphhaaaProg
namespace Go.Proofs.Ytgpmbjchmphhaaa
open Go.KLib
set_option maxRecDepth 20000
set_option linter.unusedVariables false
set_option linter.unusedSimpArgs false
namespace TExactTestClosure
theorem agg22 : aggB Try.prog 22 = some false := by kernel_rfl
theorem agg23 : aggB Try.prog 23 = some false := by kernel_rfl
theorem agg25 : aggB Try.prog 25 = some true := by kernel_rfl
theorem agg28 : aggB Try.prog 28 = some true := by kernel_rfl
theorem agg3 : aggB Try.prog 3 = some false := by kernel_rfl
theorem agg32 : aggB Try.prog 32 = some false := by kernel_rfl
theorem by3 : bytesB Try.prog 3 = some 8 := by kernel_rfl
theorem el22 : elB Try.prog 22 = some 4 := by kernel_rfl
theorem el23 : elB Try.prog 23 = some 32 := by kernel_rfl
theorem el32 : elB Try.prog 32 = some 3 := by kernel_rfl
theorem fa28_1 : faB Try.prog 28 1 = some 1 := by kernel_rfl
theorem fa28_2 : faB Try.prog 28 2 = some 2 := by kernel_rfl
theorem fk14 : fnB Try.prog 14 = true := by kernel_rfl
theorem fk16 : fnB Try.prog 16 = true := by kernel_rfl
theorem fk18 : fnB Try.prog 18 = true := by kernel_rfl
theorem fk25 : fnB Try.prog 25 = true := by kernel_rfl
theorem fk26 : fnB Try.prog 26 = true := by kernel_rfl
theorem fk27 : fnB Try.prog 27 = true := by kernel_rfl
theorem fk28 : fnB Try.prog 28 = true := by kernel_rfl
theorem fk29 : fnB Try.prog 29 = true := by kernel_rfl
theorem fk30 : fnB Try.prog 30 = true := by kernel_rfl
theorem fk49 : fnB Try.prog 49 = true := by kernel_rfl
theorem fk53 : fnB Try.prog 53 = true := by kernel_rfl
theorem fk66 : fnB Try.prog 66 = true := by kernel_rfl
theorem fk67 : fnB Try.prog 67 = true := by kernel_rfl
theorem fk68 : fnB Try.prog 68 = true := by kernel_rfl
theorem fk69 : fnB Try.prog 69 = true := by kernel_rfl
theorem fk70 : fnB Try.prog 70 = true := by kernel_rfl
theorem fk71 : fnB Try.prog 71 = true := by kernel_rfl
theorem fk72 : fnB Try.prog 72 = true := by kernel_rfl
theorem fk85 : fnB Try.prog 85 = true := by kernel_rfl
theorem fk99 : fnB Try.prog 99 = true := by kernel_rfl
theorem mixed : Try.prog.follows .mixedOrders = true := by kernel_rfl
theorem sz25 : sizeB Try.prog 25 = some 3 := by kernel_rfl
theorem sz28 : sizeB Try.prog 28 = some 3 := by kernel_rfl
theorem sz3 : sizeB Try.prog 3 = some 1 := by kernel_rfl
theorem sz32 : sizeB Try.prog 32 = some 1 := by kernel_rfl
theorem zr28 : zeroB Try.prog 28 = some (.agg #[.int .i64 0, .slice none 0 0, .slice none 0 0]) := by kernel_rfl
theorem zr3 : zeroB Try.prog 3 = some (.int .i64 0) := by kernel_rfl
end TExactTestClosure
open TExactTestClosure

/-- impl.isLetter -/
theorem c_impl_isLetter {w : World} (n : Int) :
    Ctr Try.prog 99 #[(.int .i64 n)] w (fun v w' => v = .bool (decide (0 ≤ n ∧ n ≤ 8)) ∧ Ch [] w w') := by
  have E := Ch.refl [] w
  refine Ctr_of_W (N := 5) (vs0 := [(.int .i64 n)]) Try.func99 rfl rfl rfl ?_
  refine W_seq fun _K_1 _hK_1 => ?_
  refine W_region ?_
  refine WL_step rfl rfl (r_assign rfl) ?_
  refine WL_nil ?_
  refine thn_nrm (_hK_1 _ _ ?_)
  clear _hK_1
  refine W_seq fun _K_2 _hK_2 => ?_
  refine W_region ?_
  refine WL_step rfl rfl (r_move rfl) ?_
  refine WL_s rfl rfl ?_
  refine Step.call (r_call (xs := [.tmp 3, .const (Go.Value.int Go.IntKind.i64 0), .const (Go.Value.int Go.IntKind.i64 8)]) fk70 rfl) (c_impl_within _ _ _ ) fun _v4 _w_3 _q4 => ?_
  obtain ⟨rfl, _cw_3⟩ := _q4
  have _cw_3z := _cw_3.size
  have E := E.trans _cw_3
  refine WL_step rfl rfl (r_assign rfl) ?_
  refine WL_nil ?_
  refine thn_nrm (_hK_2 _ _ ?_)
  clear _hK_2
  refine W_ret ?_
  exact ret_intro [_] ⟨rfl, trivial⟩ ⟨congrArg Value.bool rfl, E⟩

/-- impl.Automaton).move -/
theorem c_impl_Automaton_move {w : World} (aS : Int) {LL_aA _B_aA : Nat} {_v_aA : Value} {aA : List Bool} (_h_aA : Ls bcs 1 w LL_aA _B_aA _v_aA aA) {LL_saN _B_saN : Nat} {_v_saN : Value} {saN : List Sv} (_h_saN : Ls Sv.cs 1 w LL_saN _B_saN _v_saN saN) {LR_aN BB_aN : Nat} {aN : List (List Int)} (_rd_aN : Rd ics 1 w LR_aN BB_aN saN aN) (s : Int) (x : Int) (hv : ValidA aS aA aN) (hs : -1 ≤ s ∧ s ≤ (aA.length : Int) - 1) :
    Ctr Try.prog 85 #[(.agg #[(.int .i64 aS), _v_aA, _v_saN]), (.int .i64 s), (.int .i64 x)] w (fun v w' => v = .int .i64 (moveA aN s x) ∧ Ch [] w w') := by
  obtain ⟨_A_aA, _C_aA, _e1_aA⟩ := _h_aA.val
  subst _e1_aA
  have _l_aA := _h_aA.len
  have _h_aA := _h_aA.here (by decide)
  obtain ⟨_A_saN, _C_saN, _e1_saN⟩ := _h_saN.val
  subst _e1_saN
  have _l_saN := _h_saN.len
  have _h_saN := _h_saN.here (by decide)
  have _rd_aN := _rd_aN.here (by decide)
  have _rl_aN := _rd_aN.1
  have E := Ch.refl [] w
  have hv2 := hv.2.2.1
  refine Ctr_of_W (N := 22) (vs0 := [(.agg #[(.int .i64 aS), (.slice _A_aA aA.length _C_aA), (.slice _A_saN saN.length _C_saN)]), (.int .i64 s), (.int .i64 x)]) Try.func85 rfl rfl rfl ?_
  refine W_seq fun _K_1 _hK_1 => ?_
  refine W_region ?_
  refine WL_s rfl rfl ?_
  refine s_box rfl fun _b3 _w_2 _m3 _cw_2 _e3 => ?_
  have _cw_2z := _cw_2.size
  have E := E.trans _cw_2
  have _z3 := _m3.lt
  replace _m3 : Blk _w_2 _b3 28 [(.int .i64 aS), (.slice _A_aA aA.length _C_aA), (.slice _A_saN saN.length _C_saN)] := _m3
  refine WL_step rfl rfl (r_assign rfl) ?_
  refine WL_nil ?_
  refine thn_nrm (_hK_1 _ _ ?_)
  clear _hK_1
  refine W_seq fun _K_3 _hK_3 => ?_
  refine W_seq fun _K_4 _hK_4 => ?_
  refine W_region ?_
  refine WL_step rfl rfl (r_move rfl) ?_
  refine WL_step rfl rfl (r_lss rfl rfl) ?_
  refine WL_step rfl rfl (r_move rfl) ?_
  refine WL_split (d := 9) rfl (fun _h9 => ?_) (fun _h9 => ?_)
  · have _kb_5 := _h9
    have _h9 := bt_d _h9
    refine WL_skip rfl rfl ?_
    refine WL_skip rfl rfl ?_
    refine WL_skip rfl rfl ?_
    refine WL_step rfl rfl (r_pickT rfl rfl) ?_
    refine WL_nil ?_
    refine thn_nrm (_hK_4 _ _ ?_)
    clear _hK_4
    refine W_condT rfl ?_
    refine W_seq fun _K_6 _hK_6 => ?_
    refine W_region ?_
    refine WL_step rfl rfl (r_assign rfl) ?_
    refine WL_nil ?_
    refine thn_nrm (_hK_6 _ _ ?_)
    clear _hK_6
    refine W_ret (thn_ret ?_)
    clear _hK_3
    exact ret_intro [_] ⟨rfl, trivial⟩ ⟨congrArg (Value.int .i64) (by first | exact move_y (by omega) _h13 _hys17 _hy20 | exact move_n (.inl _h9) | exact move_n (.inr _h13) | exact move_n (.inl (by omega))), E⟩
  · have _kb_5 := _h9
    have _h9 := bf_d _h9
    refine WL_step rfl rfl (r_move rfl) ?_
    refine WL_s rfl rfl ?_
    refine Step.call (r_call (xs := [.tmp 10]) fk99 rfl) (c_impl_isLetter _ ) fun _v11 _w_7 _q11 => ?_
    obtain ⟨rfl, _cw_7⟩ := _q11
    have _cw_7z := _cw_7.size
    have E := E.trans _cw_7
    refine WL_step rfl rfl (r_not rfl) ?_
    refine WL_step rfl rfl (r_pickF rfl rfl) ?_
    refine WL_nil ?_
    refine thn_nrm (_hK_4 _ _ ?_)
    clear _hK_4
    refine W_cond rfl (fun _h13 => ?_) (fun _h13 => ?_)
    · have _kb_8 := _h13
      have _h13 := bf_d (bt_n _h13)
      refine W_seq fun _K_9 _hK_9 => ?_
      refine W_region ?_
      refine WL_step rfl rfl (r_assign rfl) ?_
      refine WL_nil ?_
      refine thn_nrm (_hK_9 _ _ ?_)
      clear _hK_9
      refine W_ret (thn_ret ?_)
      clear _hK_3
      exact ret_intro [_] ⟨rfl, trivial⟩ ⟨congrArg (Value.int .i64) (by first | exact move_y (by omega) _h13 _hys17 _hy20 | exact move_n (.inl _h9) | exact move_n (.inr _h13) | exact move_n (.inl (by omega))), E⟩
    · have _kb_8 := _h13
      have _h13 := bt_d (bf_n _h13)
      refine W_skip ?_
      refine thn_nrm (_hK_3 _ _ ?_)
      clear _hK_3
      refine W_seq fun _K_10 _hK_10 => ?_
      refine W_region ?_
      refine WL_step rfl rfl (r_fieldAddr fa28_2 rfl) ?_
      have _f_11 := (_m3.ch0 _cw_7)
      refine WL_step rfl rfl (r_loadAt _f_11.at_ agg23 rfl rfl) ?_
      refine WL_step rfl rfl (r_move rfl) ?_
      refine WL_s rfl rfl ?_
      have _f_12 := ((_h_saN.ch0 _cw_2).ch0 _cw_7)
      refine (s_index (j := s.toNat) _f_12 Sv.len el23 sz32 rfl rfl (by omega) (by omega) fun _p17 _y17 _hy17 _a17 => ?_)
      have _f_13 := ((_rd_aN.ch0 _cw_2).ch0 _cw_7)
      obtain ⟨_ys17, _hys17, _fs17⟩ := _f_13.get _hy17
      obtain ⟨_A17, _n17, _C17⟩ := _y17
      obtain rfl := _fs17.eqn
      have _l17 := _fs17.len
      replace _fs17 : Ls ics 1 _w_7 LR_aN w.heap.size (.slice _A17 _ys17.length _C17) _ys17 := _fs17
      replace _a17 : At _w_7 LL_saN w.heap.size _p17 ([(.slice _A17 _ys17.length _C17)]) := _a17
      have _e17 := (fits_row hv.2 _hys17).1
      refine WL_step rfl rfl (r_loadAt0 _a17 agg32 rfl rfl) ?_
      refine WL_step rfl rfl (r_move rfl) ?_
      refine WL_s rfl rfl ?_
      refine (s_index (j := x.toNat) _fs17 ics_len el32 sz3 rfl rfl (by omega) (by omega) fun _p20 _y20 _hy20 _a20 => ?_)
      refine WL_step rfl rfl (r_loadAt0 _a20 agg3 rfl rfl) ?_
      refine WL_step rfl rfl (r_assign rfl) ?_
      refine WL_nil ?_
      refine thn_nrm (_hK_10 _ _ ?_)
      clear _hK_10
      refine W_ret ?_
      exact ret_intro [_] ⟨rfl, trivial⟩ ⟨congrArg (Value.int .i64) (by first | exact move_y (by omega) _h13 _hys17 _hy20 | exact move_n (.inl _h9) | exact move_n (.inr _h13) | exact move_n (.inl (by omega))), E⟩

/-- impl.closure -/
theorem c_impl_closure {w : World} (aS : Int) {LL_aA _B_aA : Nat} {_v_aA : Value} {aA : List Bool} (_h_aA : Ls bcs 1 w LL_aA _B_aA _v_aA aA) {LL_saN _B_saN : Nat} {_v_saN : Value} {saN : List Sv} (_h_saN : Ls Sv.cs 1 w LL_saN _B_saN _v_saN saN) {LR_aN BB_aN : Nat} {aN : List (List Int)} (_rd_aN : Rd ics 1 w LR_aN BB_aN saN aN) (s : Int) (x : Int) (hv : ValidA aS aA aN) (hs : 0 ≤ s ∧ s ≤ (aA.length : Int) - 1) (hw : 0 ≤ x ∧ x ≤ 2) :
    Ctr Try.prog 72 #[(.agg #[(.int .i64 aS), _v_aA, _v_saN]), (.int .i64 s), (.int .i64 x)] w (fun v w' => v = .int .i64 (((cloR aN (6 + x) s : Nat) : Int)) ∧ Ch [] w w') := by
  obtain ⟨_A_aA, _C_aA, _e1_aA⟩ := _h_aA.val
  subst _e1_aA
  have _l_aA := _h_aA.len
  have _h_aA := _h_aA.here (by decide)
  obtain ⟨_A_saN, _C_saN, _e1_saN⟩ := _h_saN.val
  subst _e1_saN
  have _l_saN := _h_saN.len
  have _h_saN := _h_saN.here (by decide)
  have _rd_aN := _rd_aN.here (by decide)
  have _rl_aN := _rd_aN.1
  have E := Ch.refl [] w
  have hv2 := hv.2.2.1; have hv1 := hv.1
  refine Ctr_of_W (N := 29) (vs0 := [(.agg #[(.int .i64 aS), (.slice _A_aA aA.length _C_aA), (.slice _A_saN saN.length _C_saN)]), (.int .i64 s), (.int .i64 x)]) Try.func72 rfl rfl rfl ?_
  refine W_seq fun _K_1 _hK_1 => ?_
  refine W_region ?_
  refine WL_s rfl rfl ?_
  refine s_box rfl fun _b3 _w_2 _m3 _cw_2 _e3 => ?_
  have _cw_2z := _cw_2.size
  have E := E.trans _cw_2
  have _z3 := _m3.lt
  replace _m3 : Blk _w_2 _b3 28 [(.int .i64 aS), (.slice _A_aA aA.length _C_aA), (.slice _A_saN saN.length _C_saN)] := _m3
  refine WL_step rfl rfl (r_assign rfl) ?_
  refine WL_nil ?_
  refine thn_nrm (_hK_1 _ _ ?_)
  clear _hK_1
  refine W_seq fun _K_3 _hK_3 => ?_
  refine W_region ?_
  refine WL_step rfl rfl (r_assign rfl) ?_
  refine WL_nil ?_
  refine thn_nrm (_hK_3 _ _ ?_)
  clear _hK_3
  refine W_seq fun _K_4 _hK_4 => ?_
  refine W_seq fun _K_5 _hK_5 => ?_
  refine W_region ?_
  refine WL_step rfl rfl (r_move rfl) ?_
  refine WL_step rfl rfl (r_assign rfl) ?_
  refine WL_nil ?_
  refine thn_nrm (_hK_5 _ _ ?_)
  clear _hK_5
  refine W_block ?_
  refine W_loop (σ := Int × Int) (fun ⟨z, m⟩ => [(2, (.int .i64 x)), (3, (.pointer (some ⟨_b3, 0, none⟩))), (6, (.int .i64 0)), (7, (.int .i64 m)), (8, (.int .i64 z))]) (fun ⟨z, m⟩ wx => Ch [] w wx ∧ _w_2.heap.size ≤ wx.heap.size ∧ (-1 ≤ z ∧ z ≤ (aA.length : Int) - 1) ∧ (CloI aN (6 + x) s z m) ∧ Blk wx _b3 28 [(.int .i64 aS), (.slice _A_aA aA.length _C_aA), (.slice _A_saN saN.length _C_saN)]) (fun ⟨z, m⟩ => zc m.toNat 12) (s, 0) (Sub.cons rfl (Sub.cons rfl (Sub.cons rfl (Sub.cons rfl (Sub.cons rfl (Sub.nil _)))))) ⟨E, (Nat.le_refl _), (by omega), (cloi_zero _ _ _), _m3⟩ ?_
  rintro ⟨z, m⟩ _wr_6 ⟨E, _zz0, hz, hc, _F0_0⟩
  have _E0h := E
  have _E0hz := _E0h.size
  have _F0_0z := _F0_0.lt
  refine W_seq fun _K_7 _hK_7 => ?_
  refine W_seq fun _K_8 _hK_8 => ?_
  refine W_region ?_
  refine WL_step rfl rfl (r_move rfl) ?_
  refine WL_step rfl rfl (r_geq rfl rfl) ?_
  refine WL_step rfl rfl (r_move rfl) ?_
  refine WL_split (d := 12) rfl (fun _h12 => ?_) (fun _h12 => ?_)
  · have _kb_9 := _h12
    have _h12 := bt_d _h12
    refine WL_step rfl rfl (r_move rfl) ?_
    refine WL_step rfl rfl (r_move rfl) ?_
    refine WL_step rfl rfl (r_shr (by omega) rfl rfl) ?_
    refine WL_step rfl rfl (r_and rfl rfl) ?_
    refine WL_step rfl rfl (r_eql rfl rfl) ?_
    refine WL_step rfl rfl (r_pickT rfl rfl) ?_
    refine WL_nil ?_
    refine thn_nrm (_hK_8 _ _ ?_)
    clear _hK_8
    refine W_cond rfl (fun _h18 => ?_) (fun _h18 => ?_)
    · have _kb_10 := _h18
      have _h18 := bt_d _h18
      refine W_skip ?_
      refine thn_nrm (_hK_7 _ _ ?_)
      clear _hK_7
      refine W_seq fun _K_11 _hK_11 => ?_
      refine W_block ?_
      refine W_region ?_
      refine WL_step rfl rfl (r_move rfl) ?_
      refine WL_step rfl rfl (r_move rfl) ?_
      refine WL_step rfl rfl (r_shl (by omega) rfl rfl) ?_
      refine WL_step rfl rfl (r_or rfl rfl) ?_
      refine WL_step rfl rfl (r_assign rfl) ?_
      refine WL_nil ?_
      refine inB_nrm ?_
      refine thn_nrm (_hK_11 _ _ ?_)
      clear _hK_11
      refine W_region ?_
      refine WL_step rfl rfl (r_loadAtA0 _F0_0.at_ agg28 sz28 rfl) ?_
      refine WL_step rfl rfl (r_move rfl) ?_
      refine WL_step rfl rfl (r_move rfl) ?_
      refine WL_step rfl rfl (r_add (by omega) rfl rfl) ?_
      refine WL_s rfl rfl ?_
      have _f_12 := (_h_aA.ch0 _E0h)
      have _f_13 := (_rd_aN.ch0 _E0h)
      have _f_14 := (_h_saN.ch0 _E0h)
      refine Step.call (r_call (xs := [.tmp 19, .tmp 20, .tmp 22]) fk85 rfl) (c_impl_Automaton_move _ _f_12 _f_14 _f_13 _ _ hv (by omega)) fun _v23 _w_15 _q23 => ?_
      obtain ⟨rfl, _cw_15⟩ := _q23
      have _cw_15z := _cw_15.size
      have E := E.trans _cw_15
      refine WL_step rfl rfl (r_assign rfl) ?_
      refine WL_nil ?_
      have _f_16 := (_F0_0.ch0 _cw_15)
      exact thn_nrm (Exists.intro (moveA aN z (6 + x), (ior m (ishl 1 z))) ⟨⟨E, (by omega), (move_rng hv hz), (cloi_step hc (by omega) (by omega) _h18), _f_16⟩, Sub.cons rfl (Sub.cons rfl (Sub.cons rfl (Sub.cons rfl (Sub.cons rfl (Sub.nil _))))), (cloi_mu hc (by omega) (by omega) _h18)⟩)
    · have _kb_10 := _h18
      have _h18 := bf_d _h18
      refine W_exit (thn_exit (thn_exit (inB_hit ?_)))
      refine thn_nrm (_hK_4 _ _ ?_)
      clear _hK_4
      refine W_seq fun _K_17 _hK_17 => ?_
      refine W_region ?_
      refine WL_step rfl rfl (r_move rfl) ?_
      refine WL_step rfl rfl (r_assign rfl) ?_
      refine WL_nil ?_
      refine thn_nrm (_hK_17 _ _ ?_)
      clear _hK_17
      refine W_ret ?_
      clear _hK_7
      exact ret_intro [_] ⟨rfl, trivial⟩ ⟨congrArg (Value.int .i64) (by first | exact cloi_end1 hc (by omega) | exact cloi_end2 hc (by omega) (by omega) _h18), E⟩
  · have _kb_9 := _h12
    have _h12 := bf_d _h12
    refine WL_skip rfl rfl ?_
    refine WL_skip rfl rfl ?_
    refine WL_skip rfl rfl ?_
    refine WL_skip rfl rfl ?_
    refine WL_skip rfl rfl ?_
    refine WL_step rfl rfl (r_pickF rfl rfl) ?_
    refine WL_nil ?_
    refine thn_nrm (_hK_8 _ _ ?_)
    clear _hK_8
    refine W_condF rfl ?_
    refine W_exit (thn_exit (thn_exit (inB_hit ?_)))
    refine thn_nrm (_hK_4 _ _ ?_)
    clear _hK_4
    refine W_seq fun _K_18 _hK_18 => ?_
    refine W_region ?_
    refine WL_step rfl rfl (r_move rfl) ?_
    refine WL_step rfl rfl (r_assign rfl) ?_
    refine WL_nil ?_
    refine thn_nrm (_hK_18 _ _ ?_)
    clear _hK_18
    refine W_ret ?_
    clear _hK_7
    exact ret_intro [_] ⟨rfl, trivial⟩ ⟨congrArg (Value.int .i64) (by first | exact cloi_end1 hc (by omega) | exact cloi_end2 hc (by omega) (by omega) _h18), E⟩

/-- impl.hasState -/
theorem c_impl_hasState {w : World} (aS : Int) {LL_aA _B_aA : Nat} {_v_aA : Value} {aA : List Bool} (_h_aA : Ls bcs 1 w LL_aA _B_aA _v_aA aA) {LL_saN _B_saN : Nat} {_v_saN : Value} {saN : List Sv} (_h_saN : Ls Sv.cs 1 w LL_saN _B_saN _v_saN saN) {LR_aN BB_aN : Nat} {aN : List (List Int)} (_rd_aN : Rd ics 1 w LR_aN BB_aN saN aN) (s : Int) :
    Ctr Try.prog 69 #[(.agg #[(.int .i64 aS), _v_aA, _v_saN]), (.int .i64 s)] w (fun v w' => v = .bool (tt (ValidA aS aA aN ∧ (0 ≤ s ∧ s ≤ (aA.length : Int) - 1))) ∧ Ch [] w w') := by
  obtain ⟨_A_aA, _C_aA, _e1_aA⟩ := _h_aA.val
  subst _e1_aA
  have _l_aA := _h_aA.len
  have _h_aA := _h_aA.here (by decide)
  obtain ⟨_A_saN, _C_saN, _e1_saN⟩ := _h_saN.val
  subst _e1_saN
  have _l_saN := _h_saN.len
  have _h_saN := _h_saN.here (by decide)
  have _rd_aN := _rd_aN.here (by decide)
  have _rl_aN := _rd_aN.1
  have E := Ch.refl [] w
  refine Ctr_of_W (N := 15) (vs0 := [(.agg #[(.int .i64 aS), (.slice _A_aA aA.length _C_aA), (.slice _A_saN saN.length _C_saN)]), (.int .i64 s)]) Try.func69 rfl rfl rfl ?_
  refine W_seq fun _K_1 _hK_1 => ?_
  refine W_region ?_
  refine WL_s rfl rfl ?_
  refine s_box rfl fun _b2 _w_2 _m2 _cw_2 _e2 => ?_
  have _cw_2z := _cw_2.size
  have E := E.trans _cw_2
  have _z2 := _m2.lt
  replace _m2 : Blk _w_2 _b2 28 [(.int .i64 aS), (.slice _A_aA aA.length _C_aA), (.slice _A_saN saN.length _C_saN)] := _m2
  refine WL_step rfl rfl (r_assign rfl) ?_
  refine WL_nil ?_
  refine thn_nrm (_hK_1 _ _ ?_)
  clear _hK_1
  refine W_seq fun _K_3 _hK_3 => ?_
  refine W_region ?_
  refine WL_step rfl rfl (r_move rfl) ?_
  refine WL_step rfl rfl (r_fieldAddr fa28_1 rfl) ?_
  refine WL_step rfl rfl (r_loadAt _m2.at_ agg22 rfl rfl) ?_
  refine WL_step rfl rfl (r_len (by rw [el22]; rfl) rfl) ?_
  refine WL_step rfl rfl (r_sub (by omega) rfl rfl) ?_
  refine WL_s rfl rfl ?_
  refine Step.call (r_call (xs := [.tmp 5, .const (Go.Value.int Go.IntKind.i64 0), .tmp 9]) fk70 rfl) (c_impl_within _ _ _ ) fun _v10 _w_4 _q10 => ?_
  obtain ⟨rfl, _cw_4⟩ := _q10
  have _cw_4z := _cw_4.size
  have E := E.trans _cw_4
  refine WL_step rfl rfl (r_move rfl) ?_
  refine WL_split (d := 11) rfl (fun _h11 => ?_) (fun _h11 => ?_)
  · have _kb_5 := _h11
    have _h11 := bt_d _h11
    have _f_6 := (_m2.ch0 _cw_4)
    refine WL_step rfl rfl (r_loadAtA0 _f_6.at_ agg28 sz28 rfl) ?_
    refine WL_s rfl rfl ?_
    have _f_7 := ((_h_aA.ch0 _cw_2).ch0 _cw_4)
    have _f_8 := ((_rd_aN.ch0 _cw_2).ch0 _cw_4)
    have _f_9 := ((_h_saN.ch0 _cw_2).ch0 _cw_4)
    refine Step.call (r_call (xs := [.tmp 12]) fk53 rfl) (c_impl_IsValidAutomaton _ _f_7 _f_9 _f_8 ) fun _v13 _w_10 _q13 => ?_
    obtain ⟨rfl, _cw_10⟩ := _q13
    have _cw_10z := _cw_10.size
    have E := E.trans _cw_10
    refine WL_step rfl rfl (r_pickT rfl rfl) ?_
    refine WL_step rfl rfl (r_assign rfl) ?_
    refine WL_nil ?_
    refine thn_nrm (_hK_3 _ _ ?_)
    clear _hK_3
    refine W_ret ?_
    exact ret_intro [_] ⟨rfl, trivial⟩ ⟨congrArg Value.bool (by first | exact tt_false (fun e => _h11 e.2) | exact tt_eq ⟨fun e => ⟨e, _h11⟩, fun e => e.1⟩), E⟩
  · have _kb_5 := _h11
    have _h11 := bf_d _h11
    refine WL_skip rfl rfl ?_
    refine WL_skip rfl rfl ?_
    refine WL_step rfl rfl (r_pickF rfl rfl) ?_
    refine WL_step rfl rfl (r_assign rfl) ?_
    refine WL_nil ?_
    refine thn_nrm (_hK_3 _ _ ?_)
    clear _hK_3
    refine W_ret ?_
    exact ret_intro [_] ⟨rfl, trivial⟩ ⟨congrArg Value.bool (by first | exact tt_false (fun e => _h11 e.2) | exact tt_eq ⟨fun e => ⟨e, _h11⟩, fun e => e.1⟩), E⟩

/-- impl.members -/
theorem c_impl_members {w : World} (m : Int) (_m0 : 0 ≤ m) (_m1 : m < 1073741824) :
    Ctr Try.prog 71 #[(.int .i64 m)] w (fun v w' => Ol ics 3 1 w' v (bitsL m.toNat 30) ∧ Lo w.heap.size v ∧ Ch [] w w') := by
  have E := Ch.refl [] w
  refine Ctr_of_W (N := 22) (vs0 := [(.int .i64 m)]) Try.func71 rfl rfl rfl ?_
  refine W_seq fun _K_1 _hK_1 => ?_
  refine W_region ?_
  refine WL_step rfl rfl (r_assign rfl) ?_
  refine WL_nil ?_
  refine thn_nrm (_hK_1 _ _ ?_)
  clear _hK_1
  refine W_seq fun _K_2 _hK_2 => ?_
  refine W_region ?_
  refine WL_s rfl rfl ?_
  refine s_buildSlice0 (k := 1) ics el32 sz3 fun _v5 _w_3 _q5 _lo5 _cw_3 => ?_
  have _cw_3z := _cw_3.size
  have E := E.trans _cw_3
  obtain ⟨_Av5, _Cv5, _ev5⟩ := _q5.val
  subst _ev5
  have _lv5 := _q5.len
  have _hiv5 := _q5.lt
  refine WL_step rfl rfl (r_assign rfl) ?_
  refine WL_nil ?_
  refine thn_nrm (_hK_2 _ _ ?_)
  clear _hK_2
  refine W_seq fun _K_4 _hK_4 => ?_
  refine W_seq fun _K_5 _hK_5 => ?_
  refine W_region ?_
  refine WL_step rfl rfl (r_assign rfl) ?_
  refine WL_nil ?_
  refine thn_nrm (_hK_5 _ _ ?_)
  clear _hK_5
  refine W_block ?_
  have _oi_6 : Ol ics 3 1 _w_3 (.slice _Av5 (([] : List Int)).length _Cv5) (bitsL m.toNat 0) := by
    have hx := _q5
    simpa [bitsL] using hx
  refine W_loop (σ := Nat × Value) (fun ⟨i, sv⟩ => [(0, (.int .i64 m)), (2, (.slice none 0 0)), (3, sv), (4, (.int .i64 ((i : Nat) : Int)))]) (fun ⟨i, sv⟩ wx => Ch [] w wx ∧ _w_3.heap.size ≤ wx.heap.size ∧ (i ≤ 30) ∧ Ol ics 3 1 wx sv (bitsL m.toNat i) ∧ Lo w.heap.size sv) (fun ⟨i, sv⟩ => 30 - i) (0, (.slice _Av5 (([] : List Int)).length _Cv5)) (Sub.cons rfl (Sub.cons rfl (Sub.cons rfl (Sub.cons rfl (Sub.nil _))))) ⟨E, (Nat.le_refl _), (by omega), _oi_6, _lo5⟩ ?_
  rintro ⟨i, sv⟩ _wr_7 ⟨E, _zz0, hi, _o0_3, _lo0_3⟩
  have _E0h := E
  have _E0hz := _E0h.size
  obtain ⟨Asv, Csv, esv⟩ := _o0_3.val
  subst esv
  have lsv := _o0_3.len
  have hisv := _o0_3.lt
  refine W_seq fun _K_8 _hK_8 => ?_
  refine W_seq fun _K_9 _hK_9 => ?_
  refine W_region ?_
  refine WL_step rfl rfl (r_move rfl) ?_
  refine WL_step rfl rfl (r_move rfl) ?_
  refine WL_step rfl rfl (r_shr (by omega) rfl rfl) ?_
  refine WL_step rfl rfl (r_neq rfl rfl) ?_
  refine WL_nil ?_
  refine thn_nrm (_hK_9 _ _ ?_)
  clear _hK_9
  refine W_cond rfl (fun _h9 => ?_) (fun _h9 => ?_)
  · have _kb_10 := _h9
    have _h9 := bf_d (bt_n _h9)
    have i30 := bits_more _h9 _m0 _m1 hi
    refine W_skip ?_
    refine thn_nrm (_hK_8 _ _ ?_)
    clear _hK_8
    refine W_seq fun _K_11 _hK_11 => ?_
    refine W_block ?_
    refine W_seq fun _K_12 _hK_12 => ?_
    refine W_region ?_
    refine WL_step rfl rfl (r_move rfl) ?_
    refine WL_step rfl rfl (r_move rfl) ?_
    refine WL_step rfl rfl (r_shr (by omega) rfl rfl) ?_
    refine WL_step rfl rfl (r_and rfl rfl) ?_
    refine WL_step rfl rfl (r_eql rfl rfl) ?_
    refine WL_nil ?_
    refine thn_nrm (_hK_12 _ _ ?_)
    clear _hK_12
    refine W_cond rfl (fun _h16 => ?_) (fun _h16 => ?_)
    · have _kb_13 := _h16
      have _h16 := bt_d _h16
      refine W_region ?_
      refine WL_step rfl rfl (r_move rfl) ?_
      refine WL_step rfl rfl (r_move rfl) ?_
      refine WL_s rfl rfl ?_
      refine s_buildSlice (cs := ics) (parts := [(0, .tmp 18)]) (0 : Int) [((i : Nat) : Int)] el32 sz3 zr3 ics_len (by decide) rfl rfl rfl (by decide) (by decide) rfl fun _v19 _w_14 _q19 _lo19 _cw_14 => ?_
      have _cw_14z := _cw_14.size
      have E := E.trans _cw_14
      obtain ⟨_Av19, _Cv19, _ev19⟩ := _q19.val
      subst _ev19
      have _lv19 := _q19.len
      have _hiv19 := _q19.lt
      refine WL_s rfl rfl ?_
      have _f_16 := (_o0_3.ch0 _cw_14)
      refine s_append (cs := ics) el32 sz3 by3 zr3 rfl (by decide) ics_one _f_16 _q19.ls rfl rfl (by have _h9 := bitsL_len m.toNat i; simp only [List.length_singleton]; omega) (by have _h9 := bitsL_len m.toNat i; simp only [List.length_singleton]; omega) _lo0_3 (by omega) fun _v20 _w_15 _q20 _lo20 _ap20 _cw_15 => ?_
      have _cw_15z := _cw_15.size
      have E := E.step _cw_15 (fun i hi => .inl (by have _h1 := _lo0_3 _ hi; omega))
      obtain ⟨_Av20, _Cv20, _ev20⟩ := _q20.val
      subst _ev20
      have _lv20 := _q20.len
      have _hiv20 := _q20.lt
      refine WL_step rfl rfl (r_assign rfl) ?_
      refine WL_nil ?_
      refine inB_nrm ?_
      refine thn_nrm (_hK_11 _ _ ?_)
      clear _hK_11
      refine W_region ?_
      refine WL_step rfl rfl (r_move rfl) ?_
      refine WL_step rfl rfl (r_add (by omega) rfl rfl) ?_
      refine WL_step rfl rfl (r_assign rfl) ?_
      refine WL_nil ?_
      have _on_17 : Ol ics 3 1 _w_15 (.slice _Av20 ((bitsL m.toNat i ++ [((i : Nat) : Int)])).length _Cv20) (bitsL m.toNat (i + 1)) := by
        have hx := _q20
        first | exact hx.eq (bitsL_y _h16 _m0 (by omega) (by omega)) | exact hx.eq (bitsL_n _h16 _m0 (by omega) (by omega))
      exact thn_nrm (Exists.intro ((i + 1), (.slice _Av20 ((bitsL m.toNat i ++ [((i : Nat) : Int)])).length _Cv20)) ⟨⟨E, (by omega), (by omega), _on_17, (Lo.down _lo20 (by omega))⟩, Sub.cons rfl (Sub.cons rfl (Sub.cons rfl (Sub.cons rfl (Sub.nil _)))), (by first | omega | (dsimp only; omega))⟩)
    · have _kb_13 := _h16
      have _h16 := bf_d _h16
      refine W_skip ?_
      refine inB_nrm ?_
      refine thn_nrm (_hK_11 _ _ ?_)
      clear _hK_11
      refine W_region ?_
      refine WL_step rfl rfl (r_move rfl) ?_
      refine WL_step rfl rfl (r_add (by omega) rfl rfl) ?_
      refine WL_step rfl rfl (r_assign rfl) ?_
      refine WL_nil ?_
      have _on_18 : Ol ics 3 1 _wr_7 (.slice Asv (bitsL m.toNat i).length Csv) (bitsL m.toNat (i + 1)) := by
        have hx := _o0_3
        first | exact hx.eq (bitsL_y _h16 _m0 (by omega) (by omega)) | exact hx.eq (bitsL_n _h16 _m0 (by omega) (by omega))
      exact thn_nrm (Exists.intro ((i + 1), (.slice Asv (bitsL m.toNat i).length Csv)) ⟨⟨E, (by omega), (by omega), _on_18, (Lo.down _lo0_3 (by omega))⟩, Sub.cons rfl (Sub.cons rfl (Sub.cons rfl (Sub.cons rfl (Sub.nil _)))), (by first | omega | (dsimp only; omega))⟩)
  · have _kb_10 := _h9
    have _h9 := bt_d (bf_n _h9)
    refine W_exit (thn_exit (thn_exit (inB_hit ?_)))
    refine thn_nrm (_hK_4 _ _ ?_)
    clear _hK_4
    refine W_seq fun _K_19 _hK_19 => ?_
    refine W_region ?_
    refine WL_step rfl rfl (r_move rfl) ?_
    refine WL_step rfl rfl (r_assign rfl) ?_
    refine WL_nil ?_
    refine thn_nrm (_hK_19 _ _ ?_)
    clear _hK_19
    refine W_ret ?_
    clear _hK_8
    have _o_20 : Ol ics 3 1 _wr_7 (.slice Asv (bitsL m.toNat i).length Csv) (bitsL m.toNat 30) := by
      have hx := _o0_3
      exact hx.eq (bitsL_fin (by omega) _m0 hi)
    exact ret_intro [_] ⟨rfl, trivial⟩ ⟨_o_20, Lo.down _lo0_3 (by omega), E⟩

/-- impl.TestClosure -/
theorem c_impl_TestClosure {w : World} (aS : Int) {LL_aA _B_aA : Nat} {_v_aA : Value} {aA : List Bool} (_h_aA : Ls bcs 1 w LL_aA _B_aA _v_aA aA) {LL_saN _B_saN : Nat} {_v_saN : Value} {saN : List Sv} (_h_saN : Ls Sv.cs 1 w LL_saN _B_saN _v_saN saN) {LR_aN BB_aN : Nat} {aN : List (List Int)} (_rd_aN : Rd ics 1 w LR_aN BB_aN saN aN) (s : Int) (x : Int) :
    Ctr Try.prog 27 #[(.agg #[(.int .i64 aS), _v_aA, _v_saN]), (.int .i64 s), (.int .i64 x)] w (fun v w' => Ol ics 3 1 w' v (tcR aS aA aN s x) ∧ Lo w.heap.size v ∧ Ch [] w w') := by
  obtain ⟨_A_aA, _C_aA, _e1_aA⟩ := _h_aA.val
  subst _e1_aA
  have _l_aA := _h_aA.len
  have _h_aA := _h_aA.here (by decide)
  obtain ⟨_A_saN, _C_saN, _e1_saN⟩ := _h_saN.val
  subst _e1_saN
  have _l_saN := _h_saN.len
  have _h_saN := _h_saN.here (by decide)
  have _rd_aN := _rd_aN.here (by decide)
  have _rl_aN := _rd_aN.1
  have E := Ch.refl [] w
  refine Ctr_of_W (N := 21) (vs0 := [(.agg #[(.int .i64 aS), (.slice _A_aA aA.length _C_aA), (.slice _A_saN saN.length _C_saN)]), (.int .i64 s), (.int .i64 x)]) Try.func27 rfl rfl rfl ?_
  refine W_seq fun _K_1 _hK_1 => ?_
  refine W_region ?_
  refine WL_s rfl rfl ?_
  refine s_box rfl fun _b3 _w_2 _m3 _cw_2 _e3 => ?_
  have _cw_2z := _cw_2.size
  have E := E.trans _cw_2
  have _z3 := _m3.lt
  replace _m3 : Blk _w_2 _b3 28 [(.int .i64 aS), (.slice _A_aA aA.length _C_aA), (.slice _A_saN saN.length _C_saN)] := _m3
  refine WL_step rfl rfl (r_assign rfl) ?_
  refine WL_nil ?_
  refine thn_nrm (_hK_1 _ _ ?_)
  clear _hK_1
  refine W_seq fun _K_3 _hK_3 => ?_
  refine W_seq fun _K_4 _hK_4 => ?_
  refine W_region ?_
  refine WL_step rfl rfl (r_loadAtA0 _m3.at_ agg28 sz28 rfl) ?_
  refine WL_step rfl rfl (r_move rfl) ?_
  refine WL_s rfl rfl ?_
  have _f_5 := (_h_aA.ch0 _cw_2)
  have _f_6 := (_rd_aN.ch0 _cw_2)
  have _f_7 := (_h_saN.ch0 _cw_2)
  refine Step.call (r_call (xs := [.tmp 7, .tmp 8]) fk69 rfl) (c_impl_hasState _ _f_5 _f_7 _f_6 _ ) fun _v9 _w_8 _q9 => ?_
  obtain ⟨rfl, _cw_8⟩ := _q9
  have _cw_8z := _cw_8.size
  have E := E.trans _cw_8
  refine WL_step rfl rfl (r_not rfl) ?_
  refine WL_step rfl rfl (r_move rfl) ?_
  refine WL_split (d := 11) rfl (fun _h11 => ?_) (fun _h11 => ?_)
  · have _kb_9 := _h11
    have _h11 := bf_t (bt_n _h11)
    refine WL_skip rfl rfl ?_
    refine WL_skip rfl rfl ?_
    refine WL_skip rfl rfl ?_
    refine WL_step rfl rfl (r_pickT rfl rfl) ?_
    refine WL_nil ?_
    refine thn_nrm (_hK_4 _ _ ?_)
    clear _hK_4
    refine W_condT rfl ?_
    refine W_seq fun _K_10 _hK_10 => ?_
    refine W_region ?_
    refine WL_step rfl rfl (r_assign rfl) ?_
    refine WL_nil ?_
    refine thn_nrm (_hK_10 _ _ ?_)
    clear _hK_10
    refine W_ret (thn_ret ?_)
    clear _hK_3
    have _o_11 : Ol ics 3 1 _w_8 (.slice none 0 0) (tcR aS aA aN s x) := by
      have hx := (Ol.nil (cs := ics) (e := 3) (k := 1) _w_8)
      first | exact hx.eq (tcR_n (by first | exact fun e => _h11 ⟨e.1, e.2.1⟩ | exact fun e => _h15 e.2.2)) | exact hx.eq (by rw [Int.toNat_natCast]; exact tcR_y _h11.1 _h11.2 (by omega))
    exact ret_intro [_] ⟨rfl, trivial⟩ ⟨_o_11, Lo.nil _, E⟩
  · have _kb_9 := _h11
    have _h11 := bt_t (bf_n _h11)
    refine WL_step rfl rfl (r_move rfl) ?_
    refine WL_s rfl rfl ?_
    refine Step.call (r_call (xs := [.tmp 12, .const (Go.Value.int Go.IntKind.i64 0), .const (Go.Value.int Go.IntKind.i64 2)]) fk70 rfl) (c_impl_within _ _ _ ) fun _v13 _w_12 _q13 => ?_
    obtain ⟨rfl, _cw_12⟩ := _q13
    have _cw_12z := _cw_12.size
    have E := E.trans _cw_12
    refine WL_step rfl rfl (r_not rfl) ?_
    refine WL_step rfl rfl (r_pickF rfl rfl) ?_
    refine WL_nil ?_
    refine thn_nrm (_hK_4 _ _ ?_)
    clear _hK_4
    refine W_cond rfl (fun _h15 => ?_) (fun _h15 => ?_)
    · have _kb_13 := _h15
      have _h15 := bf_d (bt_n _h15)
      refine W_seq fun _K_14 _hK_14 => ?_
      refine W_region ?_
      refine WL_step rfl rfl (r_assign rfl) ?_
      refine WL_nil ?_
      refine thn_nrm (_hK_14 _ _ ?_)
      clear _hK_14
      refine W_ret (thn_ret ?_)
      clear _hK_3
      have _o_15 : Ol ics 3 1 _w_12 (.slice none 0 0) (tcR aS aA aN s x) := by
        have hx := (Ol.nil (cs := ics) (e := 3) (k := 1) _w_12)
        first | exact hx.eq (tcR_n (by first | exact fun e => _h11 ⟨e.1, e.2.1⟩ | exact fun e => _h15 e.2.2)) | exact hx.eq (by rw [Int.toNat_natCast]; exact tcR_y _h11.1 _h11.2 (by omega))
      exact ret_intro [_] ⟨rfl, trivial⟩ ⟨_o_15, Lo.nil _, E⟩
    · have _kb_13 := _h15
      have _h15 := bt_d (bf_n _h15)
      refine W_skip ?_
      refine thn_nrm (_hK_3 _ _ ?_)
      clear _hK_3
      refine W_seq fun _K_16 _hK_16 => ?_
      refine W_region ?_
      have _f_17 := ((_m3.ch0 _cw_8).ch0 _cw_12)
      refine WL_step rfl rfl (r_loadAtA0 _f_17.at_ agg28 sz28 rfl) ?_
      refine WL_step rfl rfl (r_move rfl) ?_
      refine WL_step rfl rfl (r_move rfl) ?_
      refine WL_s rfl rfl ?_
      have _f_18 := ((_f_5.ch0 _cw_8).ch0 _cw_12)
      have _f_19 := ((_f_6.ch0 _cw_8).ch0 _cw_12)
      have _f_20 := ((_f_7.ch0 _cw_8).ch0 _cw_12)
      refine Step.call (r_call (xs := [.tmp 16, .tmp 17, .tmp 18]) fk72 rfl) (c_impl_closure _ _f_18 _f_20 _f_19 _ _ _h11.1 _h11.2 (by omega)) fun _v19 _w_21 _q19 => ?_
      obtain ⟨rfl, _cw_21⟩ := _q19
      have _cw_21z := _cw_21.size
      have E := E.trans _cw_21
      have _e19 := cloR_lt (c := 6 + x) (s := s) _h11.1 (by omega)
      refine WL_s rfl rfl ?_
      refine Step.call (r_call (xs := [.tmp 19]) fk71 rfl) (c_impl_members _ (by omega) (by omega)) fun _v20 _w_22 _q20 => ?_
      obtain ⟨_q20, _lo20, _cw_22⟩ := _q20
      have _cw_22z := _cw_22.size
      have E := E.trans _cw_22
      obtain ⟨_Av20, _Cv20, _ev20⟩ := _q20.val
      subst _ev20
      have _lv20 := _q20.len
      have _hiv20 := _q20.lt
      refine WL_step rfl rfl (r_assign rfl) ?_
      refine WL_nil ?_
      refine thn_nrm (_hK_16 _ _ ?_)
      clear _hK_16
      refine W_ret ?_
      have _o_23 : Ol ics 3 1 _w_22 (.slice _Av20 (bitsL ((cloR aN (6 + x) s : Nat) : Int).toNat 30).length _Cv20) (tcR aS aA aN s x) := by
        have hx := _q20
        first | exact hx.eq (tcR_n (by first | exact fun e => _h11 ⟨e.1, e.2.1⟩ | exact fun e => _h15 e.2.2)) | exact hx.eq (by rw [Int.toNat_natCast]; exact tcR_y _h11.1 _h11.2 (by omega))
      exact ret_intro [_] ⟨rfl, trivial⟩ ⟨_o_23, Lo.down _lo20 (by omega), E⟩

/-- spec.l14Closure -/
theorem c_spec_l14Closure {w : World} (aS : Int) {LL_aA _B_aA : Nat} {_v_aA : Value} {aA : List Bool} (_h_aA : Ls bcs 1 w LL_aA _B_aA _v_aA aA) {LL_saN _B_saN : Nat} {_v_saN : Value} {saN : List Sv} (_h_saN : Ls Sv.cs 1 w LL_saN _B_saN _v_saN saN) {LR_aN BB_aN : Nat} {aN : List (List Int)} (_rd_aN : Rd ics 1 w LR_aN BB_aN saN aN) (s : Int) (x : Int) (hv : ValidA aS aA aN) (hs : 0 ≤ s ∧ s ≤ (aA.length : Int) - 1) (hw : 0 ≤ x ∧ x ≤ 2) :
    Ctr Try.prog 68 #[(.agg #[(.int .i64 aS), _v_aA, _v_saN]), (.int .i64 s), (.int .i64 x)] w (fun v w' => v = .int .i64 (((cloR aN (6 + x) s : Nat) : Int)) ∧ Ch [] w w') := by
  obtain ⟨_A_aA, _C_aA, _e1_aA⟩ := _h_aA.val
  subst _e1_aA
  have _l_aA := _h_aA.len
  have _h_aA := _h_aA.here (by decide)
  obtain ⟨_A_saN, _C_saN, _e1_saN⟩ := _h_saN.val
  subst _e1_saN
  have _l_saN := _h_saN.len
  have _h_saN := _h_saN.here (by decide)
  have _rd_aN := _rd_aN.here (by decide)
  have _rl_aN := _rd_aN.1
  have E := Ch.refl [] w
  have hv2 := hv.2.2.1; have hv1 := hv.1
  refine Ctr_of_W (N := 31) (vs0 := [(.agg #[(.int .i64 aS), (.slice _A_aA aA.length _C_aA), (.slice _A_saN saN.length _C_saN)]), (.int .i64 s), (.int .i64 x)]) Try.func68 rfl rfl rfl ?_
  refine W_seq fun _K_1 _hK_1 => ?_
  refine W_region ?_
  refine WL_s rfl rfl ?_
  refine s_box rfl fun _b3 _w_2 _m3 _cw_2 _e3 => ?_
  have _cw_2z := _cw_2.size
  have E := E.trans _cw_2
  have _z3 := _m3.lt
  replace _m3 : Blk _w_2 _b3 28 [(.int .i64 aS), (.slice _A_aA aA.length _C_aA), (.slice _A_saN saN.length _C_saN)] := _m3
  refine WL_step rfl rfl (r_assign rfl) ?_
  refine WL_nil ?_
  refine thn_nrm (_hK_1 _ _ ?_)
  clear _hK_1
  refine W_seq fun _K_3 _hK_3 => ?_
  refine W_region ?_
  refine WL_step rfl rfl (r_assign rfl) ?_
  refine WL_nil ?_
  refine thn_nrm (_hK_3 _ _ ?_)
  clear _hK_3
  refine W_seq fun _K_4 _hK_4 => ?_
  refine W_block ?_
  refine W_loop (σ := Int × Int) (fun ⟨z, m⟩ => [(1, (.int .i64 z)), (2, (.int .i64 x)), (3, (.pointer (some ⟨_b3, 0, none⟩))), (6, (.int .i64 0)), (7, (.int .i64 m))]) (fun ⟨z, m⟩ wx => Ch [] w wx ∧ _w_2.heap.size ≤ wx.heap.size ∧ (-1 ≤ z ∧ z ≤ (aA.length : Int) - 1) ∧ (CloI aN (6 + x) s z m) ∧ Blk wx _b3 28 [(.int .i64 aS), (.slice _A_aA aA.length _C_aA), (.slice _A_saN saN.length _C_saN)]) (fun ⟨z, m⟩ => zc m.toNat 12) (s, 0) (Sub.cons rfl (Sub.cons rfl (Sub.cons rfl (Sub.cons rfl (Sub.cons rfl (Sub.nil _)))))) ⟨E, (Nat.le_refl _), (by omega), (cloi_zero _ _ _), _m3⟩ ?_
  rintro ⟨z, m⟩ _wr_5 ⟨E, _zz0, hz, hc, _F0_0⟩
  have _E0h := E
  have _E0hz := _E0h.size
  have _F0_0z := _F0_0.lt
  refine W_seq fun _K_6 _hK_6 => ?_
  refine W_seq fun _K_7 _hK_7 => ?_
  refine W_region ?_
  refine WL_step rfl rfl (r_move rfl) ?_
  refine WL_step rfl rfl (r_geq rfl rfl) ?_
  refine WL_step rfl rfl (r_move rfl) ?_
  refine WL_split (d := 10) rfl (fun _h10 => ?_) (fun _h10 => ?_)
  · have _kb_8 := _h10
    have _h10 := bt_d _h10
    refine WL_step rfl rfl (r_move rfl) ?_
    refine WL_step rfl rfl (r_move rfl) ?_
    refine WL_step rfl rfl (r_shr (by omega) rfl rfl) ?_
    refine WL_step rfl rfl (r_and rfl rfl) ?_
    refine WL_step rfl rfl (r_eql rfl rfl) ?_
    refine WL_step rfl rfl (r_pickT rfl rfl) ?_
    refine WL_nil ?_
    refine thn_nrm (_hK_7 _ _ ?_)
    clear _hK_7
    refine W_cond rfl (fun _h16 => ?_) (fun _h16 => ?_)
    · have _kb_9 := _h16
      have _h16 := bt_d _h16
      refine W_skip ?_
      refine thn_nrm (_hK_6 _ _ ?_)
      clear _hK_6
      refine W_block ?_
      refine W_seq fun _K_10 _hK_10 => ?_
      refine W_region ?_
      refine WL_step rfl rfl (r_move rfl) ?_
      refine WL_step rfl rfl (r_move rfl) ?_
      refine WL_step rfl rfl (r_shl (by omega) rfl rfl) ?_
      refine WL_step rfl rfl (r_or rfl rfl) ?_
      refine WL_step rfl rfl (r_assign rfl) ?_
      refine WL_nil ?_
      refine thn_nrm (_hK_10 _ _ ?_)
      clear _hK_10
      refine W_region ?_
      refine WL_step rfl rfl (r_fieldAddr fa28_2 rfl) ?_
      refine WL_step rfl rfl (r_loadAt _F0_0.at_ agg23 rfl rfl) ?_
      refine WL_step rfl rfl (r_move rfl) ?_
      refine WL_s rfl rfl ?_
      have _f_11 := (_h_saN.ch0 _E0h)
      refine (s_index (j := z.toNat) _f_11 Sv.len el23 sz32 rfl rfl (by omega) (by omega) fun _p24 _y24 _hy24 _a24 => ?_)
      have _f_12 := (_rd_aN.ch0 _E0h)
      obtain ⟨_ys24, _hys24, _fs24⟩ := _f_12.get _hy24
      obtain ⟨_A24, _n24, _C24⟩ := _y24
      obtain rfl := _fs24.eqn
      have _l24 := _fs24.len
      replace _fs24 : Ls ics 1 _wr_5 LR_aN w.heap.size (.slice _A24 _ys24.length _C24) _ys24 := _fs24
      replace _a24 : At _wr_5 LL_saN w.heap.size _p24 ([(.slice _A24 _ys24.length _C24)]) := _a24
      have _e24 := (fits_row hv.2 _hys24).1
      refine WL_step rfl rfl (r_loadAt0 _a24 agg32 rfl rfl) ?_
      refine WL_step rfl rfl (r_move rfl) ?_
      refine WL_step rfl rfl (r_add (by omega) rfl rfl) ?_
      refine WL_s rfl rfl ?_
      refine (s_index (j := (6 + x).toNat) _fs24 ics_len el32 sz3 rfl rfl (by omega) (by omega) fun _p28 _y28 _hy28 _a28 => ?_)
      refine WL_step rfl rfl (r_loadAt0 _a28 agg3 rfl rfl) ?_
      refine WL_step rfl rfl (r_assign rfl) ?_
      refine WL_nil ?_
      refine inB_nrm ?_
      exact thn_nrm (Exists.intro (_y28, (ior m (ishl 1 z))) ⟨⟨E, (by omega), (fits_el hv.2 _hys24 _hy28), (by rw [move_y (x := 6 + x) (by omega) (by omega) _hys24 _hy28]; exact cloi_step hc (by omega) (by omega) _h16), _F0_0⟩, Sub.cons rfl (Sub.cons rfl (Sub.cons rfl (Sub.cons rfl (Sub.cons rfl (Sub.nil _))))), (cloi_mu hc (by omega) (by omega) _h16)⟩)
    · have _kb_9 := _h16
      have _h16 := bf_d _h16
      refine W_exit (thn_exit (thn_exit (inB_hit ?_)))
      refine thn_nrm (_hK_4 _ _ ?_)
      clear _hK_4
      refine W_seq fun _K_13 _hK_13 => ?_
      refine W_region ?_
      refine WL_step rfl rfl (r_move rfl) ?_
      refine WL_step rfl rfl (r_assign rfl) ?_
      refine WL_nil ?_
      refine thn_nrm (_hK_13 _ _ ?_)
      clear _hK_13
      refine W_ret ?_
      clear _hK_6
      exact ret_intro [_] ⟨rfl, trivial⟩ ⟨congrArg (Value.int .i64) (by first | exact cloi_end1 hc (by omega) | exact cloi_end2 hc (by omega) (by omega) _h16), E⟩
  · have _kb_8 := _h10
    have _h10 := bf_d _h10
    refine WL_skip rfl rfl ?_
    refine WL_skip rfl rfl ?_
    refine WL_skip rfl rfl ?_
    refine WL_skip rfl rfl ?_
    refine WL_skip rfl rfl ?_
    refine WL_step rfl rfl (r_pickF rfl rfl) ?_
    refine WL_nil ?_
    refine thn_nrm (_hK_7 _ _ ?_)
    clear _hK_7
    refine W_condF rfl ?_
    refine W_exit (thn_exit (thn_exit (inB_hit ?_)))
    refine thn_nrm (_hK_4 _ _ ?_)
    clear _hK_4
    refine W_seq fun _K_14 _hK_14 => ?_
    refine W_region ?_
    refine WL_step rfl rfl (r_move rfl) ?_
    refine WL_step rfl rfl (r_assign rfl) ?_
    refine WL_nil ?_
    refine thn_nrm (_hK_14 _ _ ?_)
    clear _hK_14
    refine W_ret ?_
    clear _hK_6
    exact ret_intro [_] ⟨rfl, trivial⟩ ⟨congrArg (Value.int .i64) (by first | exact cloi_end1 hc (by omega) | exact cloi_end2 hc (by omega) (by omega) _h16), E⟩

/-- spec.l4Set -/
theorem c_spec_l4Set {w : World} (m : Int) (_m0 : 0 ≤ m) (_m1 : m < 1073741824) :
    Ctr Try.prog 67 #[(.int .i64 m)] w (fun v w' => Ol ics 3 1 w' v (bitsL m.toNat 30) ∧ Lo w.heap.size v ∧ Ch [] w w') := by
  have E := Ch.refl [] w
  refine Ctr_of_W (N := 20) (vs0 := [(.int .i64 m)]) Try.func67 rfl rfl rfl ?_
  refine W_seq fun _K_1 _hK_1 => ?_
  refine W_region ?_
  refine WL_step rfl rfl (r_assign rfl) ?_
  refine WL_nil ?_
  refine thn_nrm (_hK_1 _ _ ?_)
  clear _hK_1
  refine W_seq fun _K_2 _hK_2 => ?_
  refine W_region ?_
  refine WL_s rfl rfl ?_
  refine s_buildSlice0 (k := 1) ics el32 sz3 fun _v5 _w_3 _q5 _lo5 _cw_3 => ?_
  have _cw_3z := _cw_3.size
  have E := E.trans _cw_3
  obtain ⟨_Av5, _Cv5, _ev5⟩ := _q5.val
  subst _ev5
  have _lv5 := _q5.len
  have _hiv5 := _q5.lt
  refine WL_step rfl rfl (r_assign rfl) ?_
  refine WL_nil ?_
  refine thn_nrm (_hK_2 _ _ ?_)
  clear _hK_2
  refine W_seq fun _K_4 _hK_4 => ?_
  refine W_seq fun _K_5 _hK_5 => ?_
  refine W_region ?_
  refine WL_step rfl rfl (r_assign rfl) ?_
  refine WL_nil ?_
  refine thn_nrm (_hK_5 _ _ ?_)
  clear _hK_5
  refine W_block ?_
  have _oi_6 : Ol ics 3 1 _w_3 (.slice _Av5 (([] : List Int)).length _Cv5) (bitsL m.toNat 0) := by
    have hx := _q5
    simpa [bitsL] using hx
  refine W_loop (σ := Nat × Value) (fun ⟨i, sv⟩ => [(0, (.int .i64 m)), (2, (.slice none 0 0)), (3, sv), (4, (.int .i64 ((i : Nat) : Int)))]) (fun ⟨i, sv⟩ wx => Ch [] w wx ∧ _w_3.heap.size ≤ wx.heap.size ∧ (i ≤ 30) ∧ Ol ics 3 1 wx sv (bitsL m.toNat i) ∧ Lo w.heap.size sv) (fun ⟨i, sv⟩ => 30 - i) (0, (.slice _Av5 (([] : List Int)).length _Cv5)) (Sub.cons rfl (Sub.cons rfl (Sub.cons rfl (Sub.cons rfl (Sub.nil _))))) ⟨E, (Nat.le_refl _), (by omega), _oi_6, _lo5⟩ ?_
  rintro ⟨i, sv⟩ _wr_7 ⟨E, _zz0, hi, _o0_3, _lo0_3⟩
  have _E0h := E
  have _E0hz := _E0h.size
  obtain ⟨Asv, Csv, esv⟩ := _o0_3.val
  subst esv
  have lsv := _o0_3.len
  have hisv := _o0_3.lt
  refine W_seq fun _K_8 _hK_8 => ?_
  refine W_seq fun _K_9 _hK_9 => ?_
  refine W_region ?_
  refine WL_step rfl rfl (r_move rfl) ?_
  refine WL_step rfl rfl (r_lss rfl rfl) ?_
  refine WL_nil ?_
  refine thn_nrm (_hK_9 _ _ ?_)
  clear _hK_9
  refine W_cond rfl (fun _h7 => ?_) (fun _h7 => ?_)
  · have _kb_10 := _h7
    have _h7 := bt_d _h7
    refine W_skip ?_
    refine thn_nrm (_hK_8 _ _ ?_)
    clear _hK_8
    refine W_seq fun _K_11 _hK_11 => ?_
    refine W_block ?_
    refine W_seq fun _K_12 _hK_12 => ?_
    refine W_region ?_
    refine WL_step rfl rfl (r_move rfl) ?_
    refine WL_step rfl rfl (r_move rfl) ?_
    refine WL_step rfl rfl (r_shr (by omega) rfl rfl) ?_
    refine WL_step rfl rfl (r_and rfl rfl) ?_
    refine WL_step rfl rfl (r_eql rfl rfl) ?_
    refine WL_nil ?_
    refine thn_nrm (_hK_12 _ _ ?_)
    clear _hK_12
    refine W_cond rfl (fun _h14 => ?_) (fun _h14 => ?_)
    · have _kb_13 := _h14
      have _h14 := bt_d _h14
      refine W_region ?_
      refine WL_step rfl rfl (r_move rfl) ?_
      refine WL_step rfl rfl (r_move rfl) ?_
      refine WL_s rfl rfl ?_
      refine s_buildSlice (cs := ics) (parts := [(0, .tmp 16)]) (0 : Int) [((i : Nat) : Int)] el32 sz3 zr3 ics_len (by decide) rfl rfl rfl (by decide) (by decide) rfl fun _v17 _w_14 _q17 _lo17 _cw_14 => ?_
      have _cw_14z := _cw_14.size
      have E := E.trans _cw_14
      obtain ⟨_Av17, _Cv17, _ev17⟩ := _q17.val
      subst _ev17
      have _lv17 := _q17.len
      have _hiv17 := _q17.lt
      refine WL_s rfl rfl ?_
      have _f_16 := (_o0_3.ch0 _cw_14)
      refine s_append (cs := ics) el32 sz3 by3 zr3 rfl (by decide) ics_one _f_16 _q17.ls rfl rfl (by have _h9 := bitsL_len m.toNat i; simp only [List.length_singleton]; omega) (by have _h9 := bitsL_len m.toNat i; simp only [List.length_singleton]; omega) _lo0_3 (by omega) fun _v18 _w_15 _q18 _lo18 _ap18 _cw_15 => ?_
      have _cw_15z := _cw_15.size
      have E := E.step _cw_15 (fun i hi => .inl (by have _h1 := _lo0_3 _ hi; omega))
      obtain ⟨_Av18, _Cv18, _ev18⟩ := _q18.val
      subst _ev18
      have _lv18 := _q18.len
      have _hiv18 := _q18.lt
      refine WL_step rfl rfl (r_assign rfl) ?_
      refine WL_nil ?_
      refine inB_nrm ?_
      refine thn_nrm (_hK_11 _ _ ?_)
      clear _hK_11
      refine W_region ?_
      refine WL_step rfl rfl (r_move rfl) ?_
      refine WL_step rfl rfl (r_add (by omega) rfl rfl) ?_
      refine WL_step rfl rfl (r_assign rfl) ?_
      refine WL_nil ?_
      have _on_17 : Ol ics 3 1 _w_15 (.slice _Av18 ((bitsL m.toNat i ++ [((i : Nat) : Int)])).length _Cv18) (bitsL m.toNat (i + 1)) := by
        have hx := _q18
        first | exact hx.eq (bitsL_y _h14 _m0 (by omega) (by omega)) | exact hx.eq (bitsL_n _h14 _m0 (by omega) (by omega))
      exact thn_nrm (Exists.intro ((i + 1), (.slice _Av18 ((bitsL m.toNat i ++ [((i : Nat) : Int)])).length _Cv18)) ⟨⟨E, (by omega), (by omega), _on_17, (Lo.down _lo18 (by omega))⟩, Sub.cons rfl (Sub.cons rfl (Sub.cons rfl (Sub.cons rfl (Sub.nil _)))), (by first | omega | (dsimp only; omega))⟩)
    · have _kb_13 := _h14
      have _h14 := bf_d _h14
      refine W_skip ?_
      refine inB_nrm ?_
      refine thn_nrm (_hK_11 _ _ ?_)
      clear _hK_11
      refine W_region ?_
      refine WL_step rfl rfl (r_move rfl) ?_
      refine WL_step rfl rfl (r_add (by omega) rfl rfl) ?_
      refine WL_step rfl rfl (r_assign rfl) ?_
      refine WL_nil ?_
      have _on_18 : Ol ics 3 1 _wr_7 (.slice Asv (bitsL m.toNat i).length Csv) (bitsL m.toNat (i + 1)) := by
        have hx := _o0_3
        first | exact hx.eq (bitsL_y _h14 _m0 (by omega) (by omega)) | exact hx.eq (bitsL_n _h14 _m0 (by omega) (by omega))
      exact thn_nrm (Exists.intro ((i + 1), (.slice Asv (bitsL m.toNat i).length Csv)) ⟨⟨E, (by omega), (by omega), _on_18, (Lo.down _lo0_3 (by omega))⟩, Sub.cons rfl (Sub.cons rfl (Sub.cons rfl (Sub.cons rfl (Sub.nil _)))), (by first | omega | (dsimp only; omega))⟩)
  · have _kb_10 := _h7
    have _h7 := bf_d _h7
    refine W_exit (thn_exit (thn_exit (inB_hit ?_)))
    refine thn_nrm (_hK_4 _ _ ?_)
    clear _hK_4
    refine W_seq fun _K_19 _hK_19 => ?_
    refine W_region ?_
    refine WL_step rfl rfl (r_move rfl) ?_
    refine WL_step rfl rfl (r_assign rfl) ?_
    refine WL_nil ?_
    refine thn_nrm (_hK_19 _ _ ?_)
    clear _hK_19
    refine W_ret ?_
    clear _hK_8
    have _o_20 : Ol ics 3 1 _wr_7 (.slice Asv (bitsL m.toNat i).length Csv) (bitsL m.toNat 30) := by
      have hx := _o0_3
      exact hx.eq (by rw [show i = 30 by omega])
    exact ret_intro [_] ⟨rfl, trivial⟩ ⟨_o_20, Lo.down _lo0_3 (by omega), E⟩

/-- spec.TestClosure -/
theorem c_spec_TestClosure {w : World} (aS : Int) {LL_aA _B_aA : Nat} {_v_aA : Value} {aA : List Bool} (_h_aA : Ls bcs 1 w LL_aA _B_aA _v_aA aA) {LL_saN _B_saN : Nat} {_v_saN : Value} {saN : List Sv} (_h_saN : Ls Sv.cs 1 w LL_saN _B_saN _v_saN saN) {LR_aN BB_aN : Nat} {aN : List (List Int)} (_rd_aN : Rd ics 1 w LR_aN BB_aN saN aN) (s : Int) (x : Int) :
    Ctr Try.prog 26 #[(.agg #[(.int .i64 aS), _v_aA, _v_saN]), (.int .i64 s), (.int .i64 x)] w (fun v w' => Ol ics 3 1 w' v (tcR aS aA aN s x) ∧ Lo w.heap.size v ∧ Ch [] w w') := by
  obtain ⟨_A_aA, _C_aA, _e1_aA⟩ := _h_aA.val
  subst _e1_aA
  have _l_aA := _h_aA.len
  have _h_aA := _h_aA.here (by decide)
  obtain ⟨_A_saN, _C_saN, _e1_saN⟩ := _h_saN.val
  subst _e1_saN
  have _l_saN := _h_saN.len
  have _h_saN := _h_saN.here (by decide)
  have _rd_aN := _rd_aN.here (by decide)
  have _rl_aN := _rd_aN.1
  have E := Ch.refl [] w
  refine Ctr_of_W (N := 30) (vs0 := [(.agg #[(.int .i64 aS), (.slice _A_aA aA.length _C_aA), (.slice _A_saN saN.length _C_saN)]), (.int .i64 s), (.int .i64 x)]) Try.func26 rfl rfl rfl ?_
  refine W_seq fun _K_1 _hK_1 => ?_
  refine W_region ?_
  refine WL_s rfl rfl ?_
  refine s_box rfl fun _b3 _w_2 _m3 _cw_2 _e3 => ?_
  have _cw_2z := _cw_2.size
  have E := E.trans _cw_2
  have _z3 := _m3.lt
  replace _m3 : Blk _w_2 _b3 28 [(.int .i64 aS), (.slice _A_aA aA.length _C_aA), (.slice _A_saN saN.length _C_saN)] := _m3
  refine WL_step rfl rfl (r_assign rfl) ?_
  refine WL_nil ?_
  refine thn_nrm (_hK_1 _ _ ?_)
  clear _hK_1
  refine W_seq fun _K_3 _hK_3 => ?_
  refine W_seq fun _K_4 _hK_4 => ?_
  refine W_region ?_
  refine WL_step rfl rfl (r_loadAtA0 _m3.at_ agg28 sz28 rfl) ?_
  refine WL_s rfl rfl ?_
  have _f_5 := (_h_aA.ch0 _cw_2)
  have _f_6 := (_rd_aN.ch0 _cw_2)
  have _f_7 := (_h_saN.ch0 _cw_2)
  refine Step.call (r_call (xs := [.tmp 7]) fk49 rfl) (c_spec_IsValidAutomaton _ _f_5 _f_7 _f_6 ) fun _v8 _w_8 _q8 => ?_
  obtain ⟨rfl, _cw_8⟩ := _q8
  have _cw_8z := _cw_8.size
  have E := E.trans _cw_8
  refine WL_step rfl rfl (r_not rfl) ?_
  refine WL_step rfl rfl (r_move rfl) ?_
  refine WL_split (d := 10) rfl (fun _h10 => ?_) (fun _h10 => ?_)
  · have _kb_9 := _h10
    have _h10 := bf_t (bt_n _h10)
    refine WL_skip rfl rfl ?_
    refine WL_skip rfl rfl ?_
    refine WL_skip rfl rfl ?_
    refine WL_skip rfl rfl ?_
    refine WL_skip rfl rfl ?_
    refine WL_skip rfl rfl ?_
    refine WL_skip rfl rfl ?_
    refine WL_step rfl rfl (r_pickT rfl rfl) ?_
    refine WL_step rfl rfl (r_move rfl) ?_
    refine WL_skip rfl rfl ?_
    refine WL_skip rfl rfl ?_
    refine WL_skip rfl rfl ?_
    refine WL_step rfl rfl (r_pickT rfl rfl) ?_
    refine WL_nil ?_
    refine thn_nrm (_hK_4 _ _ ?_)
    clear _hK_4
    refine W_condT rfl ?_
    refine W_seq fun _K_10 _hK_10 => ?_
    refine W_region ?_
    refine WL_s rfl rfl ?_
    refine s_buildSlice0 (k := 1) ics el32 sz3 fun _v24 _w_11 _q24 _lo24 _cw_11 => ?_
    have _cw_11z := _cw_11.size
    have E := E.trans _cw_11
    obtain ⟨_Av24, _Cv24, _ev24⟩ := _q24.val
    subst _ev24
    have _lv24 := _q24.len
    have _hiv24 := _q24.lt
    refine WL_step rfl rfl (r_assign rfl) ?_
    refine WL_nil ?_
    refine thn_nrm (_hK_10 _ _ ?_)
    clear _hK_10
    refine W_ret (thn_ret ?_)
    clear _hK_3
    have _o_12 : Ol ics 3 1 _w_11 (.slice _Av24 (([] : List Int)).length _Cv24) (tcR aS aA aN s x) := by
      have hx := _q24
      first | exact hx.eq (tcR_n (by first | exact fun e => _h10 e.1 | exact fun e => _h19 e.2.1 | exact fun e => _h23 e.2.2)) | exact hx.eq (by rw [Int.toNat_natCast]; exact tcR_y _h10 (by omega) (by omega))
    exact ret_intro [_] ⟨rfl, trivial⟩ ⟨_o_12, Lo.down _lo24 (by omega), E⟩
  · have _kb_9 := _h10
    have _h10 := bt_t (bf_n _h10)
    refine WL_step rfl rfl (r_move rfl) ?_
    refine WL_step rfl rfl (r_fieldAddr fa28_1 rfl) ?_
    have _f_13 := (_m3.ch0 _cw_8)
    refine WL_step rfl rfl (r_loadAt _f_13.at_ agg22 rfl rfl) ?_
    refine WL_step rfl rfl (r_len (by rw [el22]; rfl) rfl) ?_
    refine WL_step rfl rfl (r_sub (by omega) rfl rfl) ?_
    refine WL_s rfl rfl ?_
    refine Step.call (r_call (xs := [.tmp 11, .const (Go.Value.int Go.IntKind.i64 0), .tmp 15]) fk66 rfl) (c_spec_l1In _ _ _ ) fun _v16 _w_14 _q16 => ?_
    obtain ⟨rfl, _cw_14⟩ := _q16
    have _cw_14z := _cw_14.size
    have E := E.trans _cw_14
    refine WL_step rfl rfl (r_not rfl) ?_
    refine WL_step rfl rfl (r_pickF rfl rfl) ?_
    refine WL_step rfl rfl (r_move rfl) ?_
    refine WL_split (d := 19) rfl (fun _h19 => ?_) (fun _h19 => ?_)
    · have _kb_15 := _h19
      have _h19 := bf_d (bt_n _h19)
      refine WL_skip rfl rfl ?_
      refine WL_skip rfl rfl ?_
      refine WL_skip rfl rfl ?_
      refine WL_step rfl rfl (r_pickT rfl rfl) ?_
      refine WL_nil ?_
      refine thn_nrm (_hK_4 _ _ ?_)
      clear _hK_4
      refine W_condT rfl ?_
      refine W_seq fun _K_16 _hK_16 => ?_
      refine W_region ?_
      refine WL_s rfl rfl ?_
      refine s_buildSlice0 (k := 1) ics el32 sz3 fun _v24 _w_17 _q24 _lo24 _cw_17 => ?_
      have _cw_17z := _cw_17.size
      have E := E.trans _cw_17
      obtain ⟨_Av24, _Cv24, _ev24⟩ := _q24.val
      subst _ev24
      have _lv24 := _q24.len
      have _hiv24 := _q24.lt
      refine WL_step rfl rfl (r_assign rfl) ?_
      refine WL_nil ?_
      refine thn_nrm (_hK_16 _ _ ?_)
      clear _hK_16
      refine W_ret (thn_ret ?_)
      clear _hK_3
      have _o_18 : Ol ics 3 1 _w_17 (.slice _Av24 (([] : List Int)).length _Cv24) (tcR aS aA aN s x) := by
        have hx := _q24
        first | exact hx.eq (tcR_n (by first | exact fun e => _h10 e.1 | exact fun e => _h19 e.2.1 | exact fun e => _h23 e.2.2)) | exact hx.eq (by rw [Int.toNat_natCast]; exact tcR_y _h10 (by omega) (by omega))
      exact ret_intro [_] ⟨rfl, trivial⟩ ⟨_o_18, Lo.down _lo24 (by omega), E⟩
    · have _kb_15 := _h19
      have _h19 := bt_d (bf_n _h19)
      refine WL_step rfl rfl (r_move rfl) ?_
      refine WL_s rfl rfl ?_
      refine Step.call (r_call (xs := [.tmp 20, .const (Go.Value.int Go.IntKind.i64 0), .const (Go.Value.int Go.IntKind.i64 2)]) fk66 rfl) (c_spec_l1In _ _ _ ) fun _v21 _w_19 _q21 => ?_
      obtain ⟨rfl, _cw_19⟩ := _q21
      have _cw_19z := _cw_19.size
      have E := E.trans _cw_19
      refine WL_step rfl rfl (r_not rfl) ?_
      refine WL_step rfl rfl (r_pickF rfl rfl) ?_
      refine WL_nil ?_
      refine thn_nrm (_hK_4 _ _ ?_)
      clear _hK_4
      refine W_cond rfl (fun _h23 => ?_) (fun _h23 => ?_)
      · have _kb_20 := _h23
        have _h23 := bf_d (bt_n _h23)
        refine W_seq fun _K_21 _hK_21 => ?_
        refine W_region ?_
        refine WL_s rfl rfl ?_
        refine s_buildSlice0 (k := 1) ics el32 sz3 fun _v24 _w_22 _q24 _lo24 _cw_22 => ?_
        have _cw_22z := _cw_22.size
        have E := E.trans _cw_22
        obtain ⟨_Av24, _Cv24, _ev24⟩ := _q24.val
        subst _ev24
        have _lv24 := _q24.len
        have _hiv24 := _q24.lt
        refine WL_step rfl rfl (r_assign rfl) ?_
        refine WL_nil ?_
        refine thn_nrm (_hK_21 _ _ ?_)
        clear _hK_21
        refine W_ret (thn_ret ?_)
        clear _hK_3
        have _o_23 : Ol ics 3 1 _w_22 (.slice _Av24 (([] : List Int)).length _Cv24) (tcR aS aA aN s x) := by
          have hx := _q24
          first | exact hx.eq (tcR_n (by first | exact fun e => _h10 e.1 | exact fun e => _h19 e.2.1 | exact fun e => _h23 e.2.2)) | exact hx.eq (by rw [Int.toNat_natCast]; exact tcR_y _h10 (by omega) (by omega))
        exact ret_intro [_] ⟨rfl, trivial⟩ ⟨_o_23, Lo.down _lo24 (by omega), E⟩
      · have _kb_20 := _h23
        have _h23 := bt_d (bf_n _h23)
        refine W_skip ?_
        refine thn_nrm (_hK_3 _ _ ?_)
        clear _hK_3
        refine W_seq fun _K_24 _hK_24 => ?_
        refine W_region ?_
        have _f_25 := ((_f_13.ch0 _cw_14).ch0 _cw_19)
        refine WL_step rfl rfl (r_loadAtA0 _f_25.at_ agg28 sz28 rfl) ?_
        refine WL_step rfl rfl (r_move rfl) ?_
        refine WL_step rfl rfl (r_move rfl) ?_
        refine WL_s rfl rfl ?_
        have _f_26 := (((_f_5.ch0 _cw_8).ch0 _cw_14).ch0 _cw_19)
        have _f_27 := (((_f_6.ch0 _cw_8).ch0 _cw_14).ch0 _cw_19)
        have _f_28 := (((_f_7.ch0 _cw_8).ch0 _cw_14).ch0 _cw_19)
        refine Step.call (r_call (xs := [.tmp 25, .tmp 26, .tmp 27]) fk68 rfl) (c_spec_l14Closure _ _f_26 _f_28 _f_27 _ _ _h10 (by omega) (by omega)) fun _v28 _w_29 _q28 => ?_
        obtain ⟨rfl, _cw_29⟩ := _q28
        have _cw_29z := _cw_29.size
        have E := E.trans _cw_29
        have _e28 := cloR_lt (c := 6 + x) (s := s) _h10 (by omega)
        refine WL_s rfl rfl ?_
        refine Step.call (r_call (xs := [.tmp 28]) fk67 rfl) (c_spec_l4Set _ (by omega) (by omega)) fun _v29 _w_30 _q29 => ?_
        obtain ⟨_q29, _lo29, _cw_30⟩ := _q29
        have _cw_30z := _cw_30.size
        have E := E.trans _cw_30
        obtain ⟨_Av29, _Cv29, _ev29⟩ := _q29.val
        subst _ev29
        have _lv29 := _q29.len
        have _hiv29 := _q29.lt
        refine WL_step rfl rfl (r_assign rfl) ?_
        refine WL_nil ?_
        refine thn_nrm (_hK_24 _ _ ?_)
        clear _hK_24
        refine W_ret ?_
        have _o_31 : Ol ics 3 1 _w_30 (.slice _Av29 (bitsL ((cloR aN (6 + x) s : Nat) : Int).toNat 30).length _Cv29) (tcR aS aA aN s x) := by
          have hx := _q29
          first | exact hx.eq (tcR_n (by first | exact fun e => _h10 e.1 | exact fun e => _h19 e.2.1 | exact fun e => _h23 e.2.2)) | exact hx.eq (by rw [Int.toNat_natCast]; exact tcR_y _h10 (by omega) (by omega))
        exact ret_intro [_] ⟨rfl, trivial⟩ ⟨_o_31, Lo.down _lo29 (by omega), E⟩

/-- laws.FnExactTestClosure -/
theorem c_laws_FnExactTestClosure {w : World} (aS : Int) {LL_aA _B_aA : Nat} {_v_aA : Value} {aA : List Bool} (_h_aA : Ls bcs 1 w LL_aA _B_aA _v_aA aA) {LL_saN _B_saN : Nat} {_v_saN : Value} {saN : List Sv} (_h_saN : Ls Sv.cs 1 w LL_saN _B_saN _v_saN saN) {LR_aN BB_aN : Nat} {aN : List (List Int)} (_rd_aN : Rd ics 1 w LR_aN BB_aN saN aN) (s : Int) (x : Int) :
    Ctr Try.prog 5 #[(.agg #[(.int .i64 aS), _v_aA, _v_saN]), (.int .i64 s), (.int .i64 x)] w (fun v w' => v = .bool (true) ∧ Ch [] w w') := by
  obtain ⟨_A_aA, _C_aA, _e1_aA⟩ := _h_aA.val
  subst _e1_aA
  have _l_aA := _h_aA.len
  have _h_aA := _h_aA.here (by decide)
  obtain ⟨_A_saN, _C_saN, _e1_saN⟩ := _h_saN.val
  subst _e1_saN
  have _l_saN := _h_saN.len
  have _h_saN := _h_saN.here (by decide)
  have _rd_aN := _rd_aN.here (by decide)
  have _rl_aN := _rd_aN.1
  have E := Ch.refl [] w
  have sl := tcR_len aS aA aN s x
  refine Ctr_of_W (N := 79) (vs0 := [(.agg #[(.int .i64 aS), (.slice _A_aA aA.length _C_aA), (.slice _A_saN saN.length _C_saN)]), (.int .i64 s), (.int .i64 x)]) Try.func5 rfl rfl rfl ?_
  refine W_seq fun _K_1 _hK_1 => ?_
  refine W_region ?_
  refine WL_s rfl rfl ?_
  refine s_box rfl fun _b3 _w_2 _m3 _cw_2 _e3 => ?_
  have _cw_2z := _cw_2.size
  have E := E.trans _cw_2
  have _z3 := _m3.lt
  replace _m3 : Blk _w_2 _b3 25 [(.int .i64 aS), (.slice _A_aA aA.length _C_aA), (.slice _A_saN saN.length _C_saN)] := _m3
  refine WL_step rfl rfl (r_assign rfl) ?_
  refine WL_nil ?_
  refine thn_nrm (_hK_1 _ _ ?_)
  clear _hK_1
  refine W_seq fun _K_3 _hK_3 => ?_
  refine W_region ?_
  refine WL_step rfl rfl (r_assign rfl) ?_
  refine WL_nil ?_
  refine thn_nrm (_hK_3 _ _ ?_)
  clear _hK_3
  refine W_seq fun _K_4 _hK_4 => ?_
  refine W_region ?_
  refine WL_step rfl rfl (r_loadAtA0 _m3.at_ agg25 sz25 rfl) ?_
  refine WL_step rfl rfl (r_move rfl) ?_
  refine WL_s rfl rfl ?_
  have _f_5 := (_h_aA.ch0 _cw_2)
  have _f_6 := (_rd_aN.ch0 _cw_2)
  have _f_7 := (_h_saN.ch0 _cw_2)
  refine Step.call (r_call (xs := [.tmp 15, .tmp 16]) fk14 rfl) (c_laws_szAutomaton _ _f_5 _f_7 _f_6 _ (by omega) (by omega)) fun _v17 _w_8 _q17 => ?_
  obtain ⟨rfl, _cw_8⟩ := _q17
  have _cw_8z := _cw_8.size
  have E := E.trans _cw_8
  refine WL_step rfl rfl (r_assign rfl) ?_
  refine WL_nil ?_
  refine thn_nrm (_hK_4 _ _ ?_)
  clear _hK_4
  refine W_seq fun _K_9 _hK_9 => ?_
  refine W_seq fun _K_10 _hK_10 => ?_
  refine W_region ?_
  refine WL_step rfl rfl (r_move rfl) ?_
  refine WL_step rfl rfl (r_lss rfl rfl) ?_
  refine WL_nil ?_
  refine thn_nrm (_hK_10 _ _ ?_)
  clear _hK_10
  refine W_cond rfl (fun _h19 => ?_) (fun _h19 => ?_)
  · have _kb_11 := _h19
    have _h19 := bt_d _h19
    refine W_seq fun _K_12 _hK_12 => ?_
    refine W_region ?_
    refine WL_step rfl rfl (r_assign rfl) ?_
    refine WL_nil ?_
    refine thn_nrm (_hK_12 _ _ ?_)
    clear _hK_12
    refine W_ret (thn_ret ?_)
    clear _hK_9
    exact ret_intro [_] ⟨rfl, trivial⟩ ⟨congrArg Value.bool (by first | rfl | (exfalso; omega) | (exfalso; revert _h19; simp; done) | (exfalso; revert _h19; simp; omega)), E⟩
  · have _kb_11 := _h19
    have _h19 := bf_d _h19
    refine W_skip ?_
    refine thn_nrm (_hK_9 _ _ ?_)
    clear _hK_9
    refine W_seq fun _K_13 _hK_13 => ?_
    refine W_region ?_
    have _f_14 := (_m3.ch0 _cw_8)
    refine WL_step rfl rfl (r_loadAtA0 _f_14.at_ agg25 sz25 rfl) ?_
    refine WL_s rfl rfl ?_
    have _f_15 := (_f_5.ch0 _cw_8)
    have _f_16 := (_f_6.ch0 _cw_8)
    have _f_17 := (_f_7.ch0 _cw_8)
    refine Step.call (r_call (xs := [.tmp 20]) fk16 rfl) (c_laws_toAutomaton _ _f_15 _f_17 _f_16 (by omega)) fun _v21 _w_18 _q21 => ?_
    obtain ⟨u21_0x1, u21_0x2, _vs21_0x2, rfl, _q_u21_0x1, _lo_u21_0x1, _q_u21_0x2, _lo_u21_0x2, _od_vs21_0x2, _sep_vs21_0x2, _dj_u21_0x1_u21_0x2, _sep_u21_0x1_vs21_0x2, _cw_18⟩ := _q21
    have _cw_18z := _cw_18.size
    have E := E.trans _cw_18
    obtain ⟨Au21_0x1, Cu21_0x1, eu21_0x1⟩ := _q_u21_0x1.val
    subst eu21_0x1
    have lu21_0x1 := _q_u21_0x1.len
    have _hiu21_0x1 := _q_u21_0x1.lt
    obtain ⟨Au21_0x2, Cu21_0x2, eu21_0x2⟩ := _q_u21_0x2.val
    subst eu21_0x2
    have lu21_0x2 := _q_u21_0x2.len
    have _hiu21_0x2 := _q_u21_0x2.lt
    refine WL_step rfl rfl (r_move rfl) ?_
    refine WL_step rfl rfl (r_move rfl) ?_
    refine WL_s rfl rfl ?_
    refine Step.call (r_call (xs := [.tmp 21, .tmp 22, .tmp 23]) fk26 rfl) (c_spec_TestClosure _ _q_u21_0x1.ls _q_u21_0x2.ls _od_vs21_0x2.rd _ _ ) fun _v24 _w_19 _q24 => ?_
    obtain ⟨_q24, _lo24, _cw_19⟩ := _q24
    have _cw_19z := _cw_19.size
    have E := E.trans _cw_19
    obtain ⟨_Av24, _Cv24, _ev24⟩ := _q24.val
    subst _ev24
    have _lv24 := _q24.len
    have _hiv24 := _q24.lt
    refine WL_step rfl rfl (r_assign rfl) ?_
    refine WL_nil ?_
    refine thn_nrm (_hK_13 _ _ ?_)
    clear _hK_13
    refine W_seq fun _K_20 _hK_20 => ?_
    refine W_region ?_
    have _f_21 := ((_f_14.ch0 _cw_18).ch0 _cw_19)
    refine WL_step rfl rfl (r_loadAtA0 _f_21.at_ agg25 sz25 rfl) ?_
    refine WL_s rfl rfl ?_
    have _f_22 := ((_f_15.ch0 _cw_18).ch0 _cw_19)
    have _f_23 := ((_f_16.ch0 _cw_18).ch0 _cw_19)
    have _f_24 := ((_f_17.ch0 _cw_18).ch0 _cw_19)
    refine Step.call (r_call (xs := [.tmp 25]) fk16 rfl) (c_laws_toAutomaton _ _f_22 _f_24 _f_23 (by omega)) fun _v26 _w_25 _q26 => ?_
    obtain ⟨u26_0x1, u26_0x2, _vs26_0x2, rfl, _q_u26_0x1, _lo_u26_0x1, _q_u26_0x2, _lo_u26_0x2, _od_vs26_0x2, _sep_vs26_0x2, _dj_u26_0x1_u26_0x2, _sep_u26_0x1_vs26_0x2, _cw_25⟩ := _q26
    have _cw_25z := _cw_25.size
    have E := E.trans _cw_25
    obtain ⟨Au26_0x1, Cu26_0x1, eu26_0x1⟩ := _q_u26_0x1.val
    subst eu26_0x1
    have lu26_0x1 := _q_u26_0x1.len
    have _hiu26_0x1 := _q_u26_0x1.lt
    obtain ⟨Au26_0x2, Cu26_0x2, eu26_0x2⟩ := _q_u26_0x2.val
    subst eu26_0x2
    have lu26_0x2 := _q_u26_0x2.len
    have _hiu26_0x2 := _q_u26_0x2.lt
    refine WL_s rfl rfl ?_
    refine s_alloc zr28 fun _b9 _w_26 _m9 _cw_26 _e9 => ?_
    have _cw_26z := _cw_26.size
    have E := E.trans _cw_26
    have _z9 := _m9.lt
    replace _m9 : Blk _w_26 _b9 28 [(.int .i64 0), (.slice none 0 0), (.slice none 0 0)] := _m9
    refine WL_s rfl rfl ?_
    refine s_storeA (off := 0) 3 _m9 sz28 rfl (us := [(.int .i64 aS), (.slice Au26_0x1 (aA).length Cu26_0x1), (.slice Au26_0x2 (_vs26_0x2).length Cu26_0x2)]) rfl rfl rfl rfl fun _w_27 _m_28 _cw_27 => ?_
    have _cw_27z := _cw_27.size
    have E := E.step _cw_27 (fun i hi => .inl (by have _h1 := List.mem_singleton.1 hi; omega))
    replace _m_28 : Blk _w_27 _b9 28 [(.int .i64 aS), (.slice Au26_0x1 (aA).length Cu26_0x1), (.slice Au26_0x2 (_vs26_0x2).length Cu26_0x2)] := _m_28
    refine WL_nil ?_
    refine thn_nrm (_hK_20 _ _ ?_)
    clear _hK_20
    refine W_seq fun _K_29 _hK_29 => ?_
    refine W_region ?_
    refine WL_step rfl rfl (r_loadAtA0 _m_28.at_ agg28 sz28 rfl) ?_
    refine WL_step rfl rfl (r_move rfl) ?_
    refine WL_step rfl rfl (r_move rfl) ?_
    refine WL_s rfl rfl ?_
    have _f_30 := ((_q_u26_0x1.ch0 _cw_26).ch _cw_27 (fun g hg hm => by have _h0 := List.mem_singleton.1 hm; have _h2 := _lo_u26_0x1 _ hg; have _h3 := _hiu26_0x1 _ hg; omega))
    have _f_31 := ((_od_vs26_0x2.ch0 _cw_26).ch _cw_27 (fun i hi => by have _h1 := List.mem_singleton.1 hi; omega))
    have _f_32 := ((_q_u26_0x2.ch0 _cw_26).ch _cw_27 (fun g hg hm => by have _h0 := List.mem_singleton.1 hm; have _h2 := _lo_u26_0x2 _ hg; have _h3 := _hiu26_0x2 _ hg; omega))
    refine Step.call (r_call (xs := [.tmp 27, .tmp 28, .tmp 29]) fk27 rfl) (c_impl_TestClosure _ _f_30.ls _f_32.ls _f_31.rd _ _ ) fun _v30 _w_33 _q30 => ?_
    obtain ⟨_q30, _lo30, _cw_33⟩ := _q30
    have _cw_33z := _cw_33.size
    have E := E.trans _cw_33
    obtain ⟨_Av30, _Cv30, _ev30⟩ := _q30.val
    subst _ev30
    have _lv30 := _q30.len
    have _hiv30 := _q30.lt
    refine WL_step rfl rfl (r_assign rfl) ?_
    refine WL_nil ?_
    refine thn_nrm (_hK_29 _ _ ?_)
    clear _hK_29
    refine W_seq fun _K_34 _hK_34 => ?_
    refine W_seq fun _K_35 _hK_35 => ?_
    refine W_region ?_
    refine WL_step rfl rfl (r_move rfl) ?_
    refine WL_step rfl rfl (r_move rfl) ?_
    refine WL_s rfl rfl ?_
    have _f_36 := ((((_q24.ch0 _cw_25).ch0 _cw_26).ch _cw_27 (fun g hg hm => by have _h0 := List.mem_singleton.1 hm; have _h2 := _lo24 _ hg; have _h3 := _hiv24 _ hg; omega)).ch0 _cw_33)
    refine Step.call (r_call (xs := [.tmp 31, .tmp 32]) fk25 rfl) (c_laws_eqIntS _q30.ls _f_36.ls ) fun _v33 _w_37 _q33 => ?_
    obtain ⟨rfl, _cw_37⟩ := _q33
    have _cw_37z := _cw_37.size
    have E := E.trans _cw_37
    refine WL_step rfl rfl (r_not rfl) ?_
    refine WL_nil ?_
    refine thn_nrm (_hK_35 _ _ ?_)
    clear _hK_35
    refine W_cond rfl (fun _h34 => ?_) (fun _h34 => ?_)
    · have _kb_38 := _h34
      have _h34 := bf_d (bt_n _h34)
      refine W_seq fun _K_39 _hK_39 => ?_
      refine W_region ?_
      refine WL_step rfl rfl (r_assign rfl) ?_
      refine WL_nil ?_
      refine thn_nrm (_hK_39 _ _ ?_)
      clear _hK_39
      refine W_ret (thn_ret ?_)
      clear _hK_34
      exact ret_intro [_] ⟨rfl, trivial⟩ ⟨congrArg Value.bool (by first | rfl | (exfalso; omega) | (exfalso; revert _h34; simp; done) | (exfalso; revert _h34; simp; omega)), E⟩
    · have _kb_38 := _h34
      have _h34 := bt_d (bf_n _h34)
      refine W_skip ?_
      refine thn_nrm (_hK_34 _ _ ?_)
      clear _hK_34
      refine W_seq fun _K_40 _hK_40 => ?_
      refine W_seq fun _K_41 _hK_41 => ?_
      refine W_drawC [] 5 mixed rfl fun _w_42 _cw_42 => ?_
      have _cw_42z := _cw_42.size
      have E := E.trans _cw_42
      have _f_43 := (((_m_28.ch0 _cw_33).ch0 _cw_37).ch0 _cw_42)
      refine DR_s 0 rfl (by kernel_rfl) rfl rfl (t_loadAtA0 _f_43.at_ (fun i hi => absurd hi List.not_mem_nil) agg28 sz28 rfl ?_)
      have _f_44 := ((((((_f_21.ch0 _cw_25).ch0 _cw_26).ch _cw_27 (fun hm => by have _h1 := List.mem_singleton.1 hm; omega)).ch0 _cw_33).ch0 _cw_37).ch0 _cw_42)
      refine DR_s 1 rfl (by kernel_rfl) rfl rfl (t_loadAtA0 _f_44.at_ (fun i hi => absurd hi List.not_mem_nil) agg25 sz25 rfl ?_)
      refine DR_one 2 (by kernel_rfl) ?_
      refine DO_s rfl rfl rfl ?_
      have _f_45 := ((((((_f_22.ch0 _cw_25).ch0 _cw_26).ch _cw_27 (fun i hi => by have _h1 := List.mem_singleton.1 hi; omega)).ch0 _cw_33).ch0 _cw_37).ch0 _cw_42)
      have _f_46 := ((((((_f_23.ch0 _cw_25).ch0 _cw_26).ch _cw_27 (fun i hi => by have _h1 := List.mem_singleton.1 hi; omega)).ch0 _cw_33).ch0 _cw_37).ch0 _cw_42)
      have _f_47 := ((((((_f_24.ch0 _cw_25).ch0 _cw_26).ch _cw_27 (fun i hi => by have _h1 := List.mem_singleton.1 hi; omega)).ch0 _cw_33).ch0 _cw_37).ch0 _cw_42)
      refine Step.call (r_call (xs := [.tmp 36]) fk16 rfl) (c_laws_toAutomaton _ _f_45 _f_47 _f_46 (by omega)) fun _v37 _w_48 _q37 => ?_
      obtain ⟨u37_0x1, u37_0x2, _vs37_0x2, rfl, _q_u37_0x1, _lo_u37_0x1, _q_u37_0x2, _lo_u37_0x2, _od_vs37_0x2, _sep_vs37_0x2, _dj_u37_0x1_u37_0x2, _sep_u37_0x1_vs37_0x2, _cw_48⟩ := _q37
      have _cw_48z := _cw_48.size
      have E := E.trans _cw_48
      obtain ⟨Au37_0x1, Cu37_0x1, eu37_0x1⟩ := _q_u37_0x1.val
      subst eu37_0x1
      have lu37_0x1 := _q_u37_0x1.len
      have _hiu37_0x1 := _q_u37_0x1.lt
      obtain ⟨Au37_0x2, Cu37_0x2, eu37_0x2⟩ := _q_u37_0x2.val
      subst eu37_0x2
      have lu37_0x2 := _q_u37_0x2.len
      have _hiu37_0x2 := _q_u37_0x2.lt
      have _S_49 : Ch [] _w_42 _w_48 := ((Ch.refl _ _).trans _cw_48)
      refine ⟨_S_49, ?_⟩
      refine DR_one 3 (by kernel_rfl) ?_
      refine DO_s rfl rfl rfl ?_
      have _f_50 := ((((_f_30.ch0 _cw_33).ch0 _cw_37).ch0 _cw_42).ch0 _cw_48)
      have _f_51 := ((((_f_31.ch0 _cw_33).ch0 _cw_37).ch0 _cw_42).ch0 _cw_48)
      have _f_52 := ((((_f_32.ch0 _cw_33).ch0 _cw_37).ch0 _cw_42).ch0 _cw_48)
      refine Step.call (r_call (xs := [.tmp 35, .tmp 37]) fk18 rfl) (c_laws_eqAutomaton _ _f_50.ls _f_52.ls _f_51.rd _ _q_u37_0x1.ls _q_u37_0x2.ls _od_vs37_0x2.rd ) fun _v38 _w_53 _q38 => ?_
      obtain ⟨rfl, _cw_53⟩ := _q38
      have _cw_53z := _cw_53.size
      have E := E.trans _cw_53
      have _S_54 : Ch [] _w_42 _w_53 := (_S_49.trans _cw_53)
      refine ⟨_S_54, ?_⟩
      refine DR_s 4 rfl (by kernel_rfl) rfl rfl (t_v (fun _ => (r_not rfl)) ?_)
      refine DR_done (by kernel_rfl) ?_
      refine thn_nrm (_hK_41 _ _ ?_)
      clear _hK_41
      refine W_cond rfl (fun _h39 => ?_) (fun _h39 => ?_)
      · have _kb_55 := _h39
        have _h39 := bf_d (bt_n _h39)
        refine W_seq fun _K_56 _hK_56 => ?_
        refine W_region ?_
        refine WL_step rfl rfl (r_assign rfl) ?_
        refine WL_nil ?_
        refine thn_nrm (_hK_56 _ _ ?_)
        clear _hK_56
        refine W_ret (thn_ret ?_)
        clear _hK_40
        exact ret_intro [_] ⟨rfl, trivial⟩ ⟨congrArg Value.bool (by first | rfl | (exfalso; omega) | (exfalso; revert _h39; simp; done) | (exfalso; revert _h39; simp; omega)), E⟩
      · have _kb_55 := _h39
        have _h39 := bt_d (bf_n _h39)
        refine W_skip ?_
        refine thn_nrm (_hK_40 _ _ ?_)
        clear _hK_40
        refine W_seq fun _K_57 _hK_57 => ?_
        refine W_region ?_
        refine WL_step rfl rfl (r_assign rfl) ?_
        refine WL_nil ?_
        refine thn_nrm (_hK_57 _ _ ?_)
        clear _hK_57
        refine W_seq fun _K_58 _hK_58 => ?_
        refine W_region ?_
        have _f_59 := ((_f_43.ch0 _cw_48).ch0 _cw_53)
        refine WL_step rfl rfl (r_loadAtA0 _f_59.at_ agg28 sz28 rfl) ?_
        refine WL_step rfl rfl (r_move rfl) ?_
        refine WL_s rfl rfl ?_
        have _f_60 := (_f_50.ch0 _cw_53)
        have _f_61 := (_f_52.ch0 _cw_53)
        have _f_62 := (_f_51.ch0 _cw_53)
        refine Step.call (r_call (xs := [.tmp 40, .tmp 41]) fk28 rfl) (c_laws_markAutomaton _ _f_60 _f_61 (_f_62.up (lo' := _w_19.heap.size) (hi' := _w_25.heap.size) (by omega) (by omega)) (fun g hm => by have _h1 := _lo_u26_0x2 _ hm; have _h2 := _hiu26_0x2 _ hm; omega) _sep_vs26_0x2 (by omega) (fun g hm => by have _h1 := _lo_u26_0x1 _ hm; have _h2 := _hiu26_0x1 _ hm; omega) (fun g hm hg => by exact _dj_u26_0x1_u26_0x2 _ hm hg) _sep_u26_0x1_vs26_0x2 _ (by omega) (by first | omega | (simp <;> omega))) fun _v42 _w_63 _q42 => ?_
        obtain ⟨rfl, _cw_63⟩ := _q42
        have _cw_63z := _cw_63.size
        have E := E.step _cw_63 (fun i hm => by have _h1 := mem_rg hm; left; omega)
        refine WL_step rfl rfl (r_assign rfl) ?_
        refine WL_nil ?_
        refine thn_nrm (_hK_58 _ _ ?_)
        clear _hK_58
        refine W_seq fun _K_64 _hK_64 => ?_
        refine W_seq fun _K_65 _hK_65 => ?_
        refine W_region ?_
        refine WL_step rfl rfl (r_move rfl) ?_
        refine WL_step rfl rfl (r_lss rfl rfl) ?_
        refine WL_step rfl rfl (r_move rfl) ?_
        refine WL_split (d := 45) rfl (fun _h45 => ?_) (fun _h45 => ?_)
        · have _kb_66 := _h45
          have _h45 := bt_d _h45
          refine WL_skip rfl rfl ?_
          refine WL_skip rfl rfl ?_
          refine WL_skip rfl rfl ?_
          refine WL_skip rfl rfl ?_
          refine WL_step rfl rfl (r_pickT rfl rfl) ?_
          refine WL_nil ?_
          refine thn_nrm (_hK_65 _ _ ?_)
          clear _hK_65
          refine W_condT rfl ?_
          refine W_seq fun _K_67 _hK_67 => ?_
          refine W_region ?_
          refine WL_step rfl rfl (r_assign rfl) ?_
          refine WL_nil ?_
          refine thn_nrm (_hK_67 _ _ ?_)
          clear _hK_67
          refine W_ret (thn_ret ?_)
          clear _hK_64
          exact ret_intro [_] ⟨rfl, trivial⟩ ⟨congrArg Value.bool (by first | rfl | (exfalso; omega) | (exfalso; revert _h45; simp; done) | (exfalso; revert _h45; simp; omega)), E⟩
        · have _kb_66 := _h45
          have _h45 := bf_d _h45
          refine WL_step rfl rfl (r_move rfl) ?_
          refine WL_step rfl rfl (r_move rfl) ?_
          refine WL_s rfl rfl ?_
          have _f_68 := (((((_q30.ch0 _cw_37).ch0 _cw_42).ch0 _cw_48).ch0 _cw_53).ch _cw_63 (fun g hg hm => by have _h0 := mem_rg hm; have _h1 := _lo30 _ hg; have _h2 := _hiv30 _ hg; omega))
          have _f_69 := (((((_f_36.ch0 _cw_37).ch0 _cw_42).ch0 _cw_48).ch0 _cw_53).ch _cw_63 (fun g hg hm => by have _h0 := mem_rg hm; have _h1 := _lo24 _ hg; have _h2 := _hiv24 _ hg; omega))
          refine Step.call (r_call (xs := [.tmp 46, .tmp 47]) fk25 rfl) (c_laws_eqIntS _f_68.ls _f_69.ls ) fun _v48 _w_70 _q48 => ?_
          obtain ⟨rfl, _cw_70⟩ := _q48
          have _cw_70z := _cw_70.size
          have E := E.trans _cw_70
          refine WL_step rfl rfl (r_not rfl) ?_
          refine WL_step rfl rfl (r_pickF rfl rfl) ?_
          refine WL_nil ?_
          refine thn_nrm (_hK_65 _ _ ?_)
          clear _hK_65
          refine W_condFk rfl _kb_38 ?_
          refine W_skip ?_
          refine thn_nrm (_hK_64 _ _ ?_)
          clear _hK_64
          refine W_seq fun _K_71 _hK_71 => ?_
          refine W_region ?_
          refine WL_step rfl rfl (r_assign rfl) ?_
          refine WL_nil ?_
          refine thn_nrm (_hK_71 _ _ ?_)
          clear _hK_71
          refine W_seq fun _K_72 _hK_72 => ?_
          refine W_region ?_
          refine WL_step rfl rfl (r_move rfl) ?_
          refine WL_step rfl rfl (r_move rfl) ?_
          refine WL_s rfl rfl ?_
          have _f_73 := (_f_68.ch0 _cw_70)
          refine Step.call (r_call (xs := [.tmp 51, .tmp 52]) fk29 rfl) (c_laws_markIntS _f_73 _ (by omega) (by first | omega | (simp <;> omega))) fun _v53 _w_74 _q53 => ?_
          obtain ⟨rfl, _q53, _cw_74⟩ := _q53
          have _cw_74z := _cw_74.size
          have E := E.step _cw_74 (fun i hi => .inl (by have _h1 := _lo30 _ hi; omega))
          refine WL_step rfl rfl (r_assign rfl) ?_
          refine WL_nil ?_
          refine thn_nrm (_hK_72 _ _ ?_)
          clear _hK_72
          refine W_seq fun _K_75 _hK_75 => ?_
          refine W_region ?_
          refine WL_step rfl rfl (r_assign rfl) ?_
          refine WL_nil ?_
          refine thn_nrm (_hK_75 _ _ ?_)
          clear _hK_75
          refine W_seq fun _K_76 _hK_76 => ?_
          refine W_region ?_
          refine WL_step rfl rfl (r_move rfl) ?_
          refine WL_step rfl rfl (r_move rfl) ?_
          refine WL_s rfl rfl ?_
          refine Step.call (r_call (xs := [.tmp 54, .tmp 55]) fk30 rfl) (c_laws_heldIntS _q53.ls _ (by omega) (by first | omega | (simp <;> omega))) fun _v56 _w_77 _q56 => ?_
          obtain ⟨rfl, _cw_77⟩ := _q56
          have _cw_77z := _cw_77.size
          have E := E.trans _cw_77
          refine WL_step rfl rfl (r_assign rfl) ?_
          refine WL_nil ?_
          refine thn_nrm (_hK_76 _ _ ?_)
          clear _hK_76
          refine W_seq fun _K_78 _hK_78 => ?_
          refine W_seq fun _K_79 _hK_79 => ?_
          refine W_region ?_
          refine WL_step rfl rfl (r_move rfl) ?_
          refine WL_step rfl rfl (r_lss rfl rfl) ?_
          refine WL_nil ?_
          refine thn_nrm (_hK_79 _ _ ?_)
          clear _hK_79
          refine W_cond rfl (fun _h58 => ?_) (fun _h58 => ?_)
          · have _kb_80 := _h58
            have _h58 := bt_d _h58
            refine W_seq fun _K_81 _hK_81 => ?_
            refine W_region ?_
            refine WL_step rfl rfl (r_assign rfl) ?_
            refine WL_nil ?_
            refine thn_nrm (_hK_81 _ _ ?_)
            clear _hK_81
            refine W_ret (thn_ret ?_)
            clear _hK_78
            exact ret_intro [_] ⟨rfl, trivial⟩ ⟨congrArg Value.bool (by first | rfl | (exfalso; omega) | (exfalso; revert _h58; simp; done) | (exfalso; revert _h58; simp; omega)), E⟩
          · have _kb_80 := _h58
            have _h58 := bf_d _h58
            refine W_skip ?_
            refine thn_nrm (_hK_78 _ _ ?_)
            clear _hK_78
            refine W_seq fun _K_82 _hK_82 => ?_
            refine W_seq fun _K_83 _hK_83 => ?_
            refine W_region ?_
            refine WL_step rfl rfl (r_move rfl) ?_
            refine WL_step rfl rfl (r_move rfl) ?_
            refine WL_step rfl rfl (r_neq rfl rfl) ?_
            refine WL_nil ?_
            refine thn_nrm (_hK_83 _ _ ?_)
            clear _hK_83
            refine W_cond rfl (fun _h61 => ?_) (fun _h61 => ?_)
            · have _kb_84 := _h61
              have _h61 := bf_d (bt_n _h61)
              refine W_seq fun _K_85 _hK_85 => ?_
              refine W_region ?_
              refine WL_step rfl rfl (r_assign rfl) ?_
              refine WL_nil ?_
              refine thn_nrm (_hK_85 _ _ ?_)
              clear _hK_85
              refine W_ret (thn_ret ?_)
              clear _hK_82
              exact ret_intro [_] ⟨rfl, trivial⟩ ⟨congrArg Value.bool (by first | rfl | (exfalso; omega) | (exfalso; revert _h61; simp; done) | (exfalso; revert _h61; simp; omega)), E⟩
            · have _kb_84 := _h61
              have _h61 := bt_d (bf_n _h61)
              refine W_skip ?_
              refine thn_nrm (_hK_82 _ _ ?_)
              clear _hK_82
              refine W_seq fun _K_86 _hK_86 => ?_
              refine W_region ?_
              have _f_87 := ((((((_f_44.ch0 _cw_48).ch0 _cw_53).ch _cw_63 (fun hm => by have _h1 := mem_rg hm; omega)).ch0 _cw_70).ch _cw_74 (fun hm => by have _h1 := _lo30 _ hm; have _h2 := _hiv30 _ hm; omega)).ch0 _cw_77)
              refine WL_step rfl rfl (r_loadAtA0 _f_87.at_ agg25 sz25 rfl) ?_
              refine WL_s rfl rfl ?_
              have _f_88 := ((((((_f_45.ch0 _cw_48).ch0 _cw_53).ch _cw_63 (fun i hm => by have _h1 := mem_rg hm; omega)).ch0 _cw_70).ch _cw_74 (fun i hi => by have _h1 := _lo30 _ hi; omega)).ch0 _cw_77)
              have _f_89 := ((((((_f_46.ch0 _cw_48).ch0 _cw_53).ch _cw_63 (fun i hm => by have _h1 := mem_rg hm; omega)).ch0 _cw_70).ch _cw_74 (fun i hi => by have _h1 := _lo30 _ hi; omega)).ch0 _cw_77)
              have _f_90 := ((((((_f_47.ch0 _cw_48).ch0 _cw_53).ch _cw_63 (fun i hm => by have _h1 := mem_rg hm; omega)).ch0 _cw_70).ch _cw_74 (fun i hi => by have _h1 := _lo30 _ hi; omega)).ch0 _cw_77)
              refine Step.call (r_call (xs := [.tmp 62]) fk16 rfl) (c_laws_toAutomaton _ _f_88 _f_90 _f_89 (by omega)) fun _v63 _w_91 _q63 => ?_
              obtain ⟨u63_0x1, u63_0x2, _vs63_0x2, rfl, _q_u63_0x1, _lo_u63_0x1, _q_u63_0x2, _lo_u63_0x2, _od_vs63_0x2, _sep_vs63_0x2, _dj_u63_0x1_u63_0x2, _sep_u63_0x1_vs63_0x2, _cw_91⟩ := _q63
              have _cw_91z := _cw_91.size
              have E := E.trans _cw_91
              obtain ⟨Au63_0x1, Cu63_0x1, eu63_0x1⟩ := _q_u63_0x1.val
              subst eu63_0x1
              have lu63_0x1 := _q_u63_0x1.len
              have _hiu63_0x1 := _q_u63_0x1.lt
              obtain ⟨Au63_0x2, Cu63_0x2, eu63_0x2⟩ := _q_u63_0x2.val
              subst eu63_0x2
              have lu63_0x2 := _q_u63_0x2.len
              have _hiu63_0x2 := _q_u63_0x2.lt
              refine WL_step rfl rfl (r_move rfl) ?_
              refine WL_step rfl rfl (r_move rfl) ?_
              refine WL_s rfl rfl ?_
              refine Step.call (r_call (xs := [.tmp 63, .tmp 64, .tmp 65]) fk27 rfl) (c_impl_TestClosure _ _q_u63_0x1.ls _q_u63_0x2.ls _od_vs63_0x2.rd _ _ ) fun _v66 _w_92 _q66 => ?_
              obtain ⟨_q66, _lo66, _cw_92⟩ := _q66
              have _cw_92z := _cw_92.size
              have E := E.trans _cw_92
              obtain ⟨_Av66, _Cv66, _ev66⟩ := _q66.val
              subst _ev66
              have _lv66 := _q66.len
              have _hiv66 := _q66.lt
              refine WL_step rfl rfl (r_assign rfl) ?_
              refine WL_nil ?_
              refine thn_nrm (_hK_86 _ _ ?_)
              clear _hK_86
              refine W_seq fun _K_93 _hK_93 => ?_
              refine W_seq fun _K_94 _hK_94 => ?_
              refine W_region ?_
              refine WL_step rfl rfl (r_move rfl) ?_
              refine WL_step rfl rfl (r_move rfl) ?_
              refine WL_s rfl rfl ?_
              have _f_95 := (((((_f_69.ch0 _cw_70).ch _cw_74 (fun g hg hm => by have _h1 := _lo30 _ hm; have _h2 := _hiv30 _ hm; have _h3 := _lo24 _ hg; have _h4 := _hiv24 _ hg; omega)).ch0 _cw_77).ch0 _cw_91).ch0 _cw_92)
              refine Step.call (r_call (xs := [.tmp 67, .tmp 68]) fk25 rfl) (c_laws_eqIntS _q66.ls _f_95.ls ) fun _v69 _w_96 _q69 => ?_
              obtain ⟨rfl, _cw_96⟩ := _q69
              have _cw_96z := _cw_96.size
              have E := E.trans _cw_96
              refine WL_step rfl rfl (r_not rfl) ?_
              refine WL_nil ?_
              refine thn_nrm (_hK_94 _ _ ?_)
              clear _hK_94
              refine W_condFk rfl _kb_38 ?_
              refine W_skip ?_
              refine thn_nrm (_hK_93 _ _ ?_)
              clear _hK_93
              refine W_seq fun _K_97 _hK_97 => ?_
              refine W_region ?_
              refine WL_step rfl rfl (r_assign rfl) ?_
              refine WL_nil ?_
              refine thn_nrm (_hK_97 _ _ ?_)
              clear _hK_97
              refine W_seq fun _K_98 _hK_98 => ?_
              refine W_region ?_
              refine WL_step rfl rfl (r_move rfl) ?_
              refine WL_step rfl rfl (r_move rfl) ?_
              refine WL_s rfl rfl ?_
              have _f_99 := ((((_q53.ch0 _cw_77).ch0 _cw_91).ch0 _cw_92).ch0 _cw_96)
              refine Step.call (r_call (xs := [.tmp 71, .tmp 72]) fk30 rfl) (c_laws_heldIntS _f_99.ls _ (by omega) (by first | omega | (simp <;> omega))) fun _v73 _w_100 _q73 => ?_
              obtain ⟨rfl, _cw_100⟩ := _q73
              have _cw_100z := _cw_100.size
              have E := E.trans _cw_100
              refine WL_step rfl rfl (r_assign rfl) ?_
              refine WL_nil ?_
              refine thn_nrm (_hK_98 _ _ ?_)
              clear _hK_98
              refine W_seq fun _K_101 _hK_101 => ?_
              refine W_seq fun _K_102 _hK_102 => ?_
              refine W_region ?_
              refine WL_step rfl rfl (r_move rfl) ?_
              refine WL_step rfl rfl (r_lss rfl rfl) ?_
              refine WL_nil ?_
              refine thn_nrm (_hK_102 _ _ ?_)
              clear _hK_102
              refine W_condFk rfl _kb_80 ?_
              refine W_skip ?_
              refine thn_nrm (_hK_101 _ _ ?_)
              clear _hK_101
              refine W_seq fun _K_103 _hK_103 => ?_
              refine W_seq fun _K_104 _hK_104 => ?_
              refine W_region ?_
              refine WL_step rfl rfl (r_move rfl) ?_
              refine WL_step rfl rfl (r_move rfl) ?_
              refine WL_step rfl rfl (r_neq rfl rfl) ?_
              refine WL_nil ?_
              refine thn_nrm (_hK_104 _ _ ?_)
              clear _hK_104
              refine W_condFk rfl _kb_84 ?_
              refine W_skip ?_
              refine thn_nrm (_hK_103 _ _ ?_)
              clear _hK_103
              refine W_seq fun _K_105 _hK_105 => ?_
              refine W_region ?_
              refine WL_step rfl rfl (r_assign rfl) ?_
              refine WL_nil ?_
              refine thn_nrm (_hK_105 _ _ ?_)
              clear _hK_105
              refine W_ret ?_
              exact ret_intro [_] ⟨rfl, trivial⟩ ⟨congrArg Value.bool (by first | rfl | (exfalso; omega) | (exfalso; revert _h61; simp; done) | (exfalso; revert _h61; simp; omega)), E⟩

end Go.Proofs.Ytgpmbjchmphhaaa
