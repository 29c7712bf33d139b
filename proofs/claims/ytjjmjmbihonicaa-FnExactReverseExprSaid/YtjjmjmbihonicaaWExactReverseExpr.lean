/- Walks of functions that FnExactReverseExpr reaches: what each returns, and that it leaves the memory that was there alone. -/
import Derived.Test.YtjjmjmbihonicaaKF
import Derived.Test.YtjjmjmbihonicaaKG
import Derived.Test.YtjjmjmbihonicaaKH
import Derived.Test.YtjjmjmbihonicaaKI
import Derived.Test.YtjjmjmbihonicaaKJ
import Derived.Test.YtjjmjmbihonicaaKM
import Derived.Test.YtjjmjmbihonicaaKN
import Derived.Test.YtjjmjmbihonicaaKO
import Derived.Test.YtjjmjmbihonicaaKP
import Derived.Test.YtjjmjmbihonicaaKQ
import Derived.Test.YtjjmjmbihonicaaKR
import Derived.Test.YtjjmjmbihonicaaKS
import Derived.Test.YtjjmjmbihonicaaKT
import Derived.Test.YtjjmjmbihonicaaKU
import Derived.Test.YtjjmjmbihonicaaKV
import Derived.Test.YtjjmjmbihonicaaKX
import Derived.Test.YtjjmjmbihonicaaKY
import Derived.Test.YtjjmjmbihonicaaKZ
import Derived.Test.YtjjmjmbihonicaaWExactDerivativeWord
import Derived.Test.YtjjmjmbihonicaaWExactDerivativeWordb
import Derived.Test.YtjjmjmbihonicaaWExactDerivativeWordc
import Derived.Test.YtjjmjmbihonicaaProg
namespace Go.Proofs.Ytjjmjmbihonicaa
open Go.KLib
set_option maxRecDepth 20000
set_option linter.unusedVariables false
set_option linter.unusedSimpArgs false
namespace TExactReverseExpr
theorem agg24 : aggB Try.prog 24 = some true := by kernel_rfl
theorem agg27 : aggB Try.prog 27 = some false := by kernel_rfl
theorem agg29 : aggB Try.prog 29 = some true := by kernel_rfl
theorem agg3 : aggB Try.prog 3 = some false := by kernel_rfl
theorem agg57 : aggB Try.prog 57 = some true := by kernel_rfl
theorem agg59 : aggB Try.prog 59 = some false := by kernel_rfl
theorem agg66 : aggB Try.prog 66 = some false := by kernel_rfl
theorem by57 : bytesB Try.prog 57 = some 32 := by kernel_rfl
theorem by59 : bytesB Try.prog 59 = some 8 := by kernel_rfl
theorem el27 : elB Try.prog 27 = some 57 := by kernel_rfl
theorem el66 : elB Try.prog 66 = some 59 := by kernel_rfl
theorem fa29_0 : faB Try.prog 29 0 = some 0 := by kernel_rfl
theorem fa57_0 : faB Try.prog 57 0 = some 0 := by kernel_rfl
theorem fa57_1 : faB Try.prog 57 1 = some 1 := by kernel_rfl
theorem fa68_0 : faB Try.prog 68 0 = some 0 := by kernel_rfl
theorem fa68_1 : faB Try.prog 68 1 = some 4 := by kernel_rfl
theorem fk110 : fnB Try.prog 110 = true := by kernel_rfl
theorem fk111 : fnB Try.prog 111 = true := by kernel_rfl
theorem fk14 : fnB Try.prog 14 = true := by kernel_rfl
theorem fk15 : fnB Try.prog 15 = true := by kernel_rfl
theorem fk16 : fnB Try.prog 16 = true := by kernel_rfl
theorem fk18 : fnB Try.prog 18 = true := by kernel_rfl
theorem fk25 : fnB Try.prog 25 = true := by kernel_rfl
theorem fk26 : fnB Try.prog 26 = true := by kernel_rfl
theorem fk27 : fnB Try.prog 27 = true := by kernel_rfl
theorem fk28 : fnB Try.prog 28 = true := by kernel_rfl
theorem fk49 : fnB Try.prog 49 = true := by kernel_rfl
theorem fk51 : fnB Try.prog 51 = true := by kernel_rfl
theorem fk56 : fnB Try.prog 56 = true := by kernel_rfl
theorem fk57 : fnB Try.prog 57 = true := by kernel_rfl
theorem fk60 : fnB Try.prog 60 = true := by kernel_rfl
theorem fk61 : fnB Try.prog 61 = true := by kernel_rfl
theorem fk79 : fnB Try.prog 79 = true := by kernel_rfl
theorem fk85 : fnB Try.prog 85 = true := by kernel_rfl
theorem fk86 : fnB Try.prog 86 = true := by kernel_rfl
theorem fk87 : fnB Try.prog 87 = true := by kernel_rfl
theorem fk92 : fnB Try.prog 92 = true := by kernel_rfl
theorem mixed : Try.prog.follows .mixedOrders = true := by kernel_rfl
theorem pl29 : placesB Try.prog 29 = some [(0, 1)] := by kernel_rfl
theorem pl68 : placesB Try.prog 68 = some [(0, 4), (4, 1)] := by kernel_rfl
theorem ptr59 : ptrB Try.prog 59 = true := by kernel_rfl
theorem sz24 : sizeB Try.prog 24 = some 1 := by kernel_rfl
theorem sz29 : sizeB Try.prog 29 = some 1 := by kernel_rfl
theorem sz3 : sizeB Try.prog 3 = some 1 := by kernel_rfl
theorem sz57 : sizeB Try.prog 57 = some 4 := by kernel_rfl
theorem sz59 : sizeB Try.prog 59 = some 1 := by kernel_rfl
theorem sz66 : sizeB Try.prog 66 = some 1 := by kernel_rfl
theorem un4 : Try.prog.underlying 4 = some (.bool) := by kernel_rfl
theorem zr29 : zeroB Try.prog 29 = some (.agg #[.slice none 0 0]) := by kernel_rfl
theorem zr57 : zeroB Try.prog 57 = some (.agg #[.int .i64 0, .int .i64 0, .int .i64 0, .int .i64 0]) := by kernel_rfl
theorem zr59 : zeroB Try.prog 59 = some (.pointer none) := by kernel_rfl
theorem zr68 : zeroB Try.prog 68 = some (.agg #[.int .i64 0, .int .i64 0, .int .i64 0, .int .i64 0, .slice none 0 0]) := by kernel_rfl
end TExactReverseExpr
open TExactReverseExpr

/-- impl.IsMove -/
theorem c_impl_IsMove {w : World} (n : Int) :
    Ctr Try.prog 111 #[(.int .i64 n)] w (fun v w' => v = .bool (decide (0 ≤ n ∧ n ≤ 5)) ∧ Ch [] w w') := by
  have E := Ch.refl [] w
  refine Ctr_of_W (N := 5) (vs0 := [(.int .i64 n)]) Try.func111 rfl rfl rfl ?_
  refine W_seq fun _K_1 _hK_1 => ?_
  refine W_region ?_
  refine WL_step rfl rfl (r_assign rfl) ?_
  refine WL_nil ?_
  refine thn_nrm (_hK_1 _ _ ?_)
  clear _hK_1
  refine W_seq fun _K_2 _hK_2 => ?_
  refine W_region ?_
  refine WL_step rfl rfl (r_move rfl) ?_
  refine WL_s rfl rfl ?_
  refine Step.call (r_call (xs := [.tmp 3, .const (Go.Value.int Go.IntKind.i64 0), .const (Go.Value.int Go.IntKind.i64 5)]) fk92 rfl) (c_impl_within _ _ _ ) fun _v4 _w_3 _q4 => ?_
  obtain ⟨rfl, _cw_3⟩ := _q4
  have _cw_3z := _cw_3.size
  have E := E.trans _cw_3
  refine WL_step rfl rfl (r_assign rfl) ?_
  refine WL_nil ?_
  refine thn_nrm (_hK_2 _ _ ?_)
  clear _hK_2
  refine W_ret ?_
  exact ret_intro [_] ⟨rfl, trivial⟩ ⟨congrArg Value.bool rfl, E⟩

/-- impl.InverseLetter -/
theorem c_impl_InverseLetter {w : World} (n : Int) :
    Ctr Try.prog 86 #[(.int .i64 n)] w (fun v w' => v = .int .i64 (invL n) ∧ Ch [] w w') := by
  have E := Ch.refl [] w
  refine Ctr_of_W (N := 9) (vs0 := [(.int .i64 n)]) Try.func86 rfl rfl rfl ?_
  refine W_seq fun _K_1 _hK_1 => ?_
  refine W_region ?_
  refine WL_step rfl rfl (r_assign rfl) ?_
  refine WL_nil ?_
  refine thn_nrm (_hK_1 _ _ ?_)
  clear _hK_1
  refine W_seq fun _K_2 _hK_2 => ?_
  refine W_seq fun _K_3 _hK_3 => ?_
  refine W_region ?_
  refine WL_step rfl rfl (r_move rfl) ?_
  refine WL_s rfl rfl ?_
  refine Step.call (r_call (xs := [.tmp 3]) fk111 rfl) (c_impl_IsMove _ ) fun _v4 _w_4 _q4 => ?_
  obtain ⟨rfl, _cw_4⟩ := _q4
  have _cw_4z := _cw_4.size
  have E := E.trans _cw_4
  refine WL_step rfl rfl (r_not rfl) ?_
  refine WL_nil ?_
  refine thn_nrm (_hK_3 _ _ ?_)
  clear _hK_3
  refine W_cond rfl (fun _h5 => ?_) (fun _h5 => ?_)
  · have _kb_5 := _h5
    have _h5 := bf_d (bt_n _h5)
    refine W_seq fun _K_6 _hK_6 => ?_
    refine W_region ?_
    refine WL_step rfl rfl (r_move rfl) ?_
    refine WL_step rfl rfl (r_assign rfl) ?_
    refine WL_nil ?_
    refine thn_nrm (_hK_6 _ _ ?_)
    clear _hK_6
    refine W_ret (thn_ret ?_)
    clear _hK_2
    exact ret_intro [_] ⟨rfl, trivial⟩ ⟨congrArg (Value.int .i64) (by unfold invL; first | rw [if_pos (by omega)] | rw [if_neg (by omega)]), E⟩
  · have _kb_5 := _h5
    have _h5 := bt_d (bf_n _h5)
    refine W_skip ?_
    refine thn_nrm (_hK_2 _ _ ?_)
    clear _hK_2
    refine W_seq fun _K_7 _hK_7 => ?_
    refine W_region ?_
    refine WL_step rfl rfl (r_move rfl) ?_
    refine WL_step rfl rfl (r_xor rfl rfl) ?_
    refine WL_step rfl rfl (r_assign rfl) ?_
    refine WL_nil ?_
    refine thn_nrm (_hK_7 _ _ ?_)
    clear _hK_7
    refine W_ret ?_
    exact ret_intro [_] ⟨rfl, trivial⟩ ⟨congrArg (Value.int .i64) (by unfold invL; first | rw [if_pos (by omega)] | rw [if_neg (by omega)]), E⟩

/-- slices.Reverse[[]*impl.tree,*impl.tree] -/
theorem c_slices_Reverse_impl_tree_impl_tree {w : World} {e_s : Nat} {_v_s : Value} {s : List Addr} (_h_s : Ol acs e_s 1 w _v_s s) :
    Ctr Try.prog 87 #[_v_s] w (fun v w' => v = .tuple #[] ∧ Ol acs e_s 1 w' _v_s (s.reverse) ∧ Ch (bl _v_s) w w') := by
  obtain ⟨_A_s, _C_s, _e1_s⟩ := _h_s.val
  subst _e1_s
  have _l_s := _h_s.len
  have _lt_s := _h_s.lt
  have E := Ch.refl (bl (.slice _A_s s.length _C_s)) w
  refine Ctr_of_W (N := 28) (vs0 := [(.slice _A_s s.length _C_s)]) Try.func87 rfl rfl rfl ?_
  refine W_seq fun _K_1 _hK_1 => ?_
  refine W_region ?_
  refine WL_step rfl rfl (r_move rfl) ?_
  refine WL_step rfl rfl (r_len (by rw [el66]; rfl) rfl) ?_
  refine WL_step rfl rfl (r_sub (by omega) rfl rfl) ?_
  refine WL_step rfl rfl (r_assign rfl) ?_
  refine WL_step rfl rfl (r_assign rfl) ?_
  refine WL_nil ?_
  refine thn_nrm (_hK_1 _ _ ?_)
  clear _hK_1
  refine W_block ?_
  have _oi_2 : Ol acs e_s 1 w (.slice _A_s s.length _C_s) (s) := by
    have hx := _h_s
    exact hx
  refine W_loop (σ := Nat × Int × List Addr) (fun ⟨i, j, zs⟩ => [(0, (.slice _A_s s.length _C_s)), (2, (.int .i64 ((i : Nat) : Int))), (3, (.int .i64 j))]) (fun ⟨i, j, zs⟩ wx => Ch (bl (.slice _A_s s.length _C_s)) w wx ∧ w.heap.size ≤ wx.heap.size ∧ ((i : Int) + j + 1 = s.length) ∧ (i ≤ s.length) ∧ (TurnR s i zs) ∧ Ol acs e_s 1 wx (.slice _A_s s.length _C_s) zs) (fun ⟨i, j, zs⟩ => s.length - i) (0, ((s.length : Int) - 1), s) (Sub.cons rfl (Sub.cons rfl (Sub.cons rfl (Sub.nil _)))) ⟨E, (Nat.le_refl _), (by omega), (by omega), (turn_zero _), _oi_2⟩ ?_
  rintro ⟨i, j, zs⟩ _wr_3 ⟨E, _zz0, hi, hi2, _ht, _o0_0⟩
  have _E0h := E
  have _E0hz := _E0h.size
  have hl0 := _ht.1
  refine W_seq fun _K_4 _hK_4 => ?_
  refine W_seq fun _K_5 _hK_5 => ?_
  refine W_region ?_
  refine WL_step rfl rfl (r_move rfl) ?_
  refine WL_step rfl rfl (r_move rfl) ?_
  refine WL_step rfl rfl (r_lss rfl rfl) ?_
  refine WL_nil ?_
  refine thn_nrm (_hK_5 _ _ ?_)
  clear _hK_5
  refine W_cond rfl (fun _h9 => ?_) (fun _h9 => ?_)
  · have _kb_6 := _h9
    have _h9 := bt_d _h9
    refine W_skip ?_
    refine thn_nrm (_hK_4 _ _ ?_)
    clear _hK_4
    refine W_seq fun _K_7 _hK_7 => ?_
    refine W_block ?_
    refine W_drawC (bl (.slice _A_s s.length _C_s)) 16 mixed rfl fun _w_8 _cw_8 => ?_
    have _cw_8z := _cw_8.size
    have E := E.trans _cw_8.of_nil
    refine DR_s 0 rfl (by kernel_rfl) rfl rfl (t_v (fun _ => (r_move rfl)) ?_)
    refine DR_s 1 rfl (by kernel_rfl) rfl rfl (t_v (fun _ => (r_move rfl)) ?_)
    refine DR_s 2 rfl (by kernel_rfl) rfl rfl (t_v (fun _ => (r_move rfl)) ?_)
    refine DR_s 3 rfl (by kernel_rfl) rfl rfl (t_v (fun _ => (r_move rfl)) ?_)
    refine DR_s 4 rfl (by kernel_rfl) rfl rfl (t_v (fun _ => (r_move rfl)) ?_)
    refine DR_s 5 rfl (by kernel_rfl) rfl rfl (t_v (fun _ => (r_move rfl)) ?_)
    refine DR_s 8 rfl (by kernel_rfl) rfl rfl (t_v (fun _ => (r_move rfl)) ?_)
    refine DR_s 9 rfl (by kernel_rfl) rfl rfl (t_v (fun _ => (r_move rfl)) ?_)
    refine DR_two 6 10 (by kernel_rfl) ?_ ?_
    · refine DO_s rfl rfl rfl ?_
      have _f_9 := (_o0_0.ch0 _cw_8)
      refine (s_index (j := j.toNat) _f_9.ls acs_len el66 sz59 rfl rfl (by omega) (by omega) fun _p20 _y20 _hy20 _a20 => ?_)
      replace _a20 : At _w_8 0 _w_8.heap.size _p20 ([(.pointer (some _y20))]) := _a20
      refine ⟨(Ch.refl _ _), ?_⟩
      refine DR_two 7 10 (by kernel_rfl) ?_ ?_
      · refine DO_s rfl rfl rfl ?_
        refine s_v (r_loadAt0 _a20 agg59 rfl rfl) ?_
        refine ⟨(Ch.refl _ _), ?_⟩
        refine DR_one 10 (by kernel_rfl) ?_
        refine DO_s rfl rfl rfl ?_
        refine (s_index _f_9.ls acs_len el66 sz59 rfl rfl rfl (by omega) fun _p24 _y24 _hy24 _a24 => ?_)
        replace _a24 : At _w_8 0 _w_8.heap.size _p24 ([(.pointer (some _y24))]) := _a24
        refine ⟨(Ch.refl _ _), ?_⟩
        refine DR_one 11 (by kernel_rfl) ?_
        refine DO_s rfl rfl rfl ?_
        refine s_v (r_loadAt0 _a24 agg59 rfl rfl) ?_
        refine ⟨(Ch.refl _ _), ?_⟩
        refine DR_one 12 (by kernel_rfl) ?_
        refine DO_s rfl rfl rfl ?_
        refine s_indexO (j := i) _f_9 el66 sz59 rfl rfl rfl (by have _h1 := _ht.1; first | omega | (simp only [List.length_set]; omega)) fun _g26 _o26 _cp26 _q26 => ?_
        refine ⟨(Ch.refl _ _), ?_⟩
        refine DR_one 13 (by kernel_rfl) ?_
        refine DO_s rfl rfl rfl ?_
        refine s_storeO (j := i) _y20 _f_9 _q26 acs_len sz59 rfl rfl rfl rfl (by have _h1 := _ht.1; first | omega | (simp only [List.length_set]; omega)) fun _w_10 _o_11 _cw_10 => ?_
        have _cw_10z := _cw_10.size
        have E := E.trans _cw_10
        have _S_12 : Ch (bl (.slice _A_s s.length _C_s)) _w_8 _w_10 := ((Ch.refl _ _).step _cw_10 (fun i hm => by exact .inr hm))
        refine ⟨_S_12, ?_⟩
        refine DR_one 14 (by kernel_rfl) ?_
        refine DO_s rfl rfl rfl ?_
        refine s_indexO (j := j.toNat) _o_11 el66 sz59 rfl rfl (by omega) (by have _h1 := _ht.1; first | omega | (simp only [List.length_set]; omega)) fun _g27 _o27 _cp27 _q27 => ?_
        refine ⟨_S_12, ?_⟩
        refine DR_one 15 (by kernel_rfl) ?_
        refine DO_s rfl rfl rfl ?_
        refine s_storeO (j := j.toNat) _y24 _o_11 _q27 acs_len sz59 rfl rfl rfl rfl (by have _h1 := _ht.1; first | omega | (simp only [List.length_set]; omega)) fun _w_13 _o_14 _cw_13 => ?_
        have _cw_13z := _cw_13.size
        have E := E.trans _cw_13
        have _S_15 : Ch (bl (.slice _A_s s.length _C_s)) _w_8 _w_13 := (_S_12.step _cw_13 (fun i hm => by exact .inr hm))
        refine ⟨_S_15, ?_⟩
        refine DR_done (by kernel_rfl) ?_
        refine inB_nrm ?_
        refine thn_nrm (_hK_7 _ _ ?_)
        clear _hK_7
        refine W_region ?_
        refine WL_step rfl rfl (r_move rfl) ?_
        refine WL_step rfl rfl (r_add (by omega) rfl rfl) ?_
        refine WL_step rfl rfl (r_move rfl) ?_
        refine WL_step rfl rfl (r_sub (by omega) rfl rfl) ?_
        refine WL_step rfl rfl (r_assign rfl) ?_
        refine WL_step rfl rfl (r_assign rfl) ?_
        refine WL_nil ?_
        have _on_16 : Ol acs e_s 1 _w_13 (.slice _A_s s.length _C_s) (((zs.set i _y20).set j.toNat _y24)) := by
          have hx := _o_14
          exact hx
        exact thn_nrm (Exists.intro ((i + 1), (j - 1), ((zs.set i _y20).set j.toNat _y24)) ⟨⟨E, (by omega), (by omega), (by omega), (turn_step _ht (by omega) (by omega) _hy20 _hy24), _on_16⟩, Sub.cons rfl (Sub.cons rfl (Sub.cons rfl (Sub.nil _))), (by first | omega | (dsimp only; omega))⟩)
      · refine DO_s rfl rfl rfl ?_
        refine (s_index _f_9.ls acs_len el66 sz59 rfl rfl rfl (by omega) fun _p24 _y24 _hy24 _a24 => ?_)
        replace _a24 : At _w_8 0 _w_8.heap.size _p24 ([(.pointer (some _y24))]) := _a24
        refine ⟨(Ch.refl _ _), ?_⟩
        refine DR_two 7 11 (by kernel_rfl) ?_ ?_
        · refine DO_s rfl rfl rfl ?_
          refine s_v (r_loadAt0 _a20 agg59 rfl rfl) ?_
          refine ⟨(Ch.refl _ _), ?_⟩
          refine DR_one 11 (by kernel_rfl) ?_
          refine DO_s rfl rfl rfl ?_
          refine s_v (r_loadAt0 _a24 agg59 rfl rfl) ?_
          refine ⟨(Ch.refl _ _), ?_⟩
          refine DR_one 12 (by kernel_rfl) ?_
          refine DO_s rfl rfl rfl ?_
          refine s_indexO (j := i) _f_9 el66 sz59 rfl rfl rfl (by have _h1 := _ht.1; first | omega | (simp only [List.length_set]; omega)) fun _g26 _o26 _cp26 _q26 => ?_
          refine ⟨(Ch.refl _ _), ?_⟩
          refine DR_one 13 (by kernel_rfl) ?_
          refine DO_s rfl rfl rfl ?_
          refine s_storeO (j := i) _y20 _f_9 _q26 acs_len sz59 rfl rfl rfl rfl (by have _h1 := _ht.1; first | omega | (simp only [List.length_set]; omega)) fun _w_17 _o_18 _cw_17 => ?_
          have _cw_17z := _cw_17.size
          have E := E.trans _cw_17
          have _S_19 : Ch (bl (.slice _A_s s.length _C_s)) _w_8 _w_17 := ((Ch.refl _ _).step _cw_17 (fun i hm => by exact .inr hm))
          refine ⟨_S_19, ?_⟩
          refine DR_one 14 (by kernel_rfl) ?_
          refine DO_s rfl rfl rfl ?_
          refine s_indexO (j := j.toNat) _o_18 el66 sz59 rfl rfl (by omega) (by have _h1 := _ht.1; first | omega | (simp only [List.length_set]; omega)) fun _g27 _o27 _cp27 _q27 => ?_
          refine ⟨_S_19, ?_⟩
          refine DR_one 15 (by kernel_rfl) ?_
          refine DO_s rfl rfl rfl ?_
          refine s_storeO (j := j.toNat) _y24 _o_18 _q27 acs_len sz59 rfl rfl rfl rfl (by have _h1 := _ht.1; first | omega | (simp only [List.length_set]; omega)) fun _w_20 _o_21 _cw_20 => ?_
          have _cw_20z := _cw_20.size
          have E := E.trans _cw_20
          have _S_22 : Ch (bl (.slice _A_s s.length _C_s)) _w_8 _w_20 := (_S_19.step _cw_20 (fun i hm => by exact .inr hm))
          refine ⟨_S_22, ?_⟩
          refine DR_done (by kernel_rfl) ?_
          refine inB_nrm ?_
          refine thn_nrm (_hK_7 _ _ ?_)
          clear _hK_7
          refine W_region ?_
          refine WL_step rfl rfl (r_move rfl) ?_
          refine WL_step rfl rfl (r_add (by omega) rfl rfl) ?_
          refine WL_step rfl rfl (r_move rfl) ?_
          refine WL_step rfl rfl (r_sub (by omega) rfl rfl) ?_
          refine WL_step rfl rfl (r_assign rfl) ?_
          refine WL_step rfl rfl (r_assign rfl) ?_
          refine WL_nil ?_
          have _on_23 : Ol acs e_s 1 _w_20 (.slice _A_s s.length _C_s) (((zs.set i _y20).set j.toNat _y24)) := by
            have hx := _o_21
            exact hx
          exact thn_nrm (Exists.intro ((i + 1), (j - 1), ((zs.set i _y20).set j.toNat _y24)) ⟨⟨E, (by omega), (by omega), (by omega), (turn_step _ht (by omega) (by omega) _hy20 _hy24), _on_23⟩, Sub.cons rfl (Sub.cons rfl (Sub.cons rfl (Sub.nil _))), (by first | omega | (dsimp only; omega))⟩)
        · refine DO_s rfl rfl rfl ?_
          refine s_v (r_loadAt0 _a24 agg59 rfl rfl) ?_
          refine ⟨(Ch.refl _ _), ?_⟩
          refine DR_one 7 (by kernel_rfl) ?_
          refine DO_s rfl rfl rfl ?_
          refine s_v (r_loadAt0 _a20 agg59 rfl rfl) ?_
          refine ⟨(Ch.refl _ _), ?_⟩
          refine DR_one 12 (by kernel_rfl) ?_
          refine DO_s rfl rfl rfl ?_
          refine s_indexO (j := i) _f_9 el66 sz59 rfl rfl rfl (by have _h1 := _ht.1; first | omega | (simp only [List.length_set]; omega)) fun _g26 _o26 _cp26 _q26 => ?_
          refine ⟨(Ch.refl _ _), ?_⟩
          refine DR_one 13 (by kernel_rfl) ?_
          refine DO_s rfl rfl rfl ?_
          refine s_storeO (j := i) _y20 _f_9 _q26 acs_len sz59 rfl rfl rfl rfl (by have _h1 := _ht.1; first | omega | (simp only [List.length_set]; omega)) fun _w_24 _o_25 _cw_24 => ?_
          have _cw_24z := _cw_24.size
          have E := E.trans _cw_24
          have _S_26 : Ch (bl (.slice _A_s s.length _C_s)) _w_8 _w_24 := ((Ch.refl _ _).step _cw_24 (fun i hm => by exact .inr hm))
          refine ⟨_S_26, ?_⟩
          refine DR_one 14 (by kernel_rfl) ?_
          refine DO_s rfl rfl rfl ?_
          refine s_indexO (j := j.toNat) _o_25 el66 sz59 rfl rfl (by omega) (by have _h1 := _ht.1; first | omega | (simp only [List.length_set]; omega)) fun _g27 _o27 _cp27 _q27 => ?_
          refine ⟨_S_26, ?_⟩
          refine DR_one 15 (by kernel_rfl) ?_
          refine DO_s rfl rfl rfl ?_
          refine s_storeO (j := j.toNat) _y24 _o_25 _q27 acs_len sz59 rfl rfl rfl rfl (by have _h1 := _ht.1; first | omega | (simp only [List.length_set]; omega)) fun _w_27 _o_28 _cw_27 => ?_
          have _cw_27z := _cw_27.size
          have E := E.trans _cw_27
          have _S_29 : Ch (bl (.slice _A_s s.length _C_s)) _w_8 _w_27 := (_S_26.step _cw_27 (fun i hm => by exact .inr hm))
          refine ⟨_S_29, ?_⟩
          refine DR_done (by kernel_rfl) ?_
          refine inB_nrm ?_
          refine thn_nrm (_hK_7 _ _ ?_)
          clear _hK_7
          refine W_region ?_
          refine WL_step rfl rfl (r_move rfl) ?_
          refine WL_step rfl rfl (r_add (by omega) rfl rfl) ?_
          refine WL_step rfl rfl (r_move rfl) ?_
          refine WL_step rfl rfl (r_sub (by omega) rfl rfl) ?_
          refine WL_step rfl rfl (r_assign rfl) ?_
          refine WL_step rfl rfl (r_assign rfl) ?_
          refine WL_nil ?_
          have _on_30 : Ol acs e_s 1 _w_27 (.slice _A_s s.length _C_s) (((zs.set i _y20).set j.toNat _y24)) := by
            have hx := _o_28
            exact hx
          exact thn_nrm (Exists.intro ((i + 1), (j - 1), ((zs.set i _y20).set j.toNat _y24)) ⟨⟨E, (by omega), (by omega), (by omega), (turn_step _ht (by omega) (by omega) _hy20 _hy24), _on_30⟩, Sub.cons rfl (Sub.cons rfl (Sub.cons rfl (Sub.nil _))), (by first | omega | (dsimp only; omega))⟩)
    · refine DO_s rfl rfl rfl ?_
      have _f_31 := (_o0_0.ch0 _cw_8)
      refine (s_index _f_31.ls acs_len el66 sz59 rfl rfl rfl (by omega) fun _p24 _y24 _hy24 _a24 => ?_)
      replace _a24 : At _w_8 0 _w_8.heap.size _p24 ([(.pointer (some _y24))]) := _a24
      refine ⟨(Ch.refl _ _), ?_⟩
      refine DR_two 6 11 (by kernel_rfl) ?_ ?_
      · refine DO_s rfl rfl rfl ?_
        refine (s_index (j := j.toNat) _f_31.ls acs_len el66 sz59 rfl rfl (by omega) (by omega) fun _p20 _y20 _hy20 _a20 => ?_)
        replace _a20 : At _w_8 0 _w_8.heap.size _p20 ([(.pointer (some _y20))]) := _a20
        refine ⟨(Ch.refl _ _), ?_⟩
        refine DR_two 7 11 (by kernel_rfl) ?_ ?_
        · refine DO_s rfl rfl rfl ?_
          refine s_v (r_loadAt0 _a20 agg59 rfl rfl) ?_
          refine ⟨(Ch.refl _ _), ?_⟩
          refine DR_one 11 (by kernel_rfl) ?_
          refine DO_s rfl rfl rfl ?_
          refine s_v (r_loadAt0 _a24 agg59 rfl rfl) ?_
          refine ⟨(Ch.refl _ _), ?_⟩
          refine DR_one 12 (by kernel_rfl) ?_
          refine DO_s rfl rfl rfl ?_
          refine s_indexO (j := i) _f_31 el66 sz59 rfl rfl rfl (by have _h1 := _ht.1; first | omega | (simp only [List.length_set]; omega)) fun _g26 _o26 _cp26 _q26 => ?_
          refine ⟨(Ch.refl _ _), ?_⟩
          refine DR_one 13 (by kernel_rfl) ?_
          refine DO_s rfl rfl rfl ?_
          refine s_storeO (j := i) _y20 _f_31 _q26 acs_len sz59 rfl rfl rfl rfl (by have _h1 := _ht.1; first | omega | (simp only [List.length_set]; omega)) fun _w_32 _o_33 _cw_32 => ?_
          have _cw_32z := _cw_32.size
          have E := E.trans _cw_32
          have _S_34 : Ch (bl (.slice _A_s s.length _C_s)) _w_8 _w_32 := ((Ch.refl _ _).step _cw_32 (fun i hm => by exact .inr hm))
          refine ⟨_S_34, ?_⟩
          refine DR_one 14 (by kernel_rfl) ?_
          refine DO_s rfl rfl rfl ?_
          refine s_indexO (j := j.toNat) _o_33 el66 sz59 rfl rfl (by omega) (by have _h1 := _ht.1; first | omega | (simp only [List.length_set]; omega)) fun _g27 _o27 _cp27 _q27 => ?_
          refine ⟨_S_34, ?_⟩
          refine DR_one 15 (by kernel_rfl) ?_
          refine DO_s rfl rfl rfl ?_
          refine s_storeO (j := j.toNat) _y24 _o_33 _q27 acs_len sz59 rfl rfl rfl rfl (by have _h1 := _ht.1; first | omega | (simp only [List.length_set]; omega)) fun _w_35 _o_36 _cw_35 => ?_
          have _cw_35z := _cw_35.size
          have E := E.trans _cw_35
          have _S_37 : Ch (bl (.slice _A_s s.length _C_s)) _w_8 _w_35 := (_S_34.step _cw_35 (fun i hm => by exact .inr hm))
          refine ⟨_S_37, ?_⟩
          refine DR_done (by kernel_rfl) ?_
          refine inB_nrm ?_
          refine thn_nrm (_hK_7 _ _ ?_)
          clear _hK_7
          refine W_region ?_
          refine WL_step rfl rfl (r_move rfl) ?_
          refine WL_step rfl rfl (r_add (by omega) rfl rfl) ?_
          refine WL_step rfl rfl (r_move rfl) ?_
          refine WL_step rfl rfl (r_sub (by omega) rfl rfl) ?_
          refine WL_step rfl rfl (r_assign rfl) ?_
          refine WL_step rfl rfl (r_assign rfl) ?_
          refine WL_nil ?_
          have _on_38 : Ol acs e_s 1 _w_35 (.slice _A_s s.length _C_s) (((zs.set i _y20).set j.toNat _y24)) := by
            have hx := _o_36
            exact hx
          exact thn_nrm (Exists.intro ((i + 1), (j - 1), ((zs.set i _y20).set j.toNat _y24)) ⟨⟨E, (by omega), (by omega), (by omega), (turn_step _ht (by omega) (by omega) _hy20 _hy24), _on_38⟩, Sub.cons rfl (Sub.cons rfl (Sub.cons rfl (Sub.nil _))), (by first | omega | (dsimp only; omega))⟩)
        · refine DO_s rfl rfl rfl ?_
          refine s_v (r_loadAt0 _a24 agg59 rfl rfl) ?_
          refine ⟨(Ch.refl _ _), ?_⟩
          refine DR_one 7 (by kernel_rfl) ?_
          refine DO_s rfl rfl rfl ?_
          refine s_v (r_loadAt0 _a20 agg59 rfl rfl) ?_
          refine ⟨(Ch.refl _ _), ?_⟩
          refine DR_one 12 (by kernel_rfl) ?_
          refine DO_s rfl rfl rfl ?_
          refine s_indexO (j := i) _f_31 el66 sz59 rfl rfl rfl (by have _h1 := _ht.1; first | omega | (simp only [List.length_set]; omega)) fun _g26 _o26 _cp26 _q26 => ?_
          refine ⟨(Ch.refl _ _), ?_⟩
          refine DR_one 13 (by kernel_rfl) ?_
          refine DO_s rfl rfl rfl ?_
          refine s_storeO (j := i) _y20 _f_31 _q26 acs_len sz59 rfl rfl rfl rfl (by have _h1 := _ht.1; first | omega | (simp only [List.length_set]; omega)) fun _w_39 _o_40 _cw_39 => ?_
          have _cw_39z := _cw_39.size
          have E := E.trans _cw_39
          have _S_41 : Ch (bl (.slice _A_s s.length _C_s)) _w_8 _w_39 := ((Ch.refl _ _).step _cw_39 (fun i hm => by exact .inr hm))
          refine ⟨_S_41, ?_⟩
          refine DR_one 14 (by kernel_rfl) ?_
          refine DO_s rfl rfl rfl ?_
          refine s_indexO (j := j.toNat) _o_40 el66 sz59 rfl rfl (by omega) (by have _h1 := _ht.1; first | omega | (simp only [List.length_set]; omega)) fun _g27 _o27 _cp27 _q27 => ?_
          refine ⟨_S_41, ?_⟩
          refine DR_one 15 (by kernel_rfl) ?_
          refine DO_s rfl rfl rfl ?_
          refine s_storeO (j := j.toNat) _y24 _o_40 _q27 acs_len sz59 rfl rfl rfl rfl (by have _h1 := _ht.1; first | omega | (simp only [List.length_set]; omega)) fun _w_42 _o_43 _cw_42 => ?_
          have _cw_42z := _cw_42.size
          have E := E.trans _cw_42
          have _S_44 : Ch (bl (.slice _A_s s.length _C_s)) _w_8 _w_42 := (_S_41.step _cw_42 (fun i hm => by exact .inr hm))
          refine ⟨_S_44, ?_⟩
          refine DR_done (by kernel_rfl) ?_
          refine inB_nrm ?_
          refine thn_nrm (_hK_7 _ _ ?_)
          clear _hK_7
          refine W_region ?_
          refine WL_step rfl rfl (r_move rfl) ?_
          refine WL_step rfl rfl (r_add (by omega) rfl rfl) ?_
          refine WL_step rfl rfl (r_move rfl) ?_
          refine WL_step rfl rfl (r_sub (by omega) rfl rfl) ?_
          refine WL_step rfl rfl (r_assign rfl) ?_
          refine WL_step rfl rfl (r_assign rfl) ?_
          refine WL_nil ?_
          have _on_45 : Ol acs e_s 1 _w_42 (.slice _A_s s.length _C_s) (((zs.set i _y20).set j.toNat _y24)) := by
            have hx := _o_43
            exact hx
          exact thn_nrm (Exists.intro ((i + 1), (j - 1), ((zs.set i _y20).set j.toNat _y24)) ⟨⟨E, (by omega), (by omega), (by omega), (turn_step _ht (by omega) (by omega) _hy20 _hy24), _on_45⟩, Sub.cons rfl (Sub.cons rfl (Sub.cons rfl (Sub.nil _))), (by first | omega | (dsimp only; omega))⟩)
      · refine DO_s rfl rfl rfl ?_
        refine s_v (r_loadAt0 _a24 agg59 rfl rfl) ?_
        refine ⟨(Ch.refl _ _), ?_⟩
        refine DR_one 6 (by kernel_rfl) ?_
        refine DO_s rfl rfl rfl ?_
        refine (s_index (j := j.toNat) _f_31.ls acs_len el66 sz59 rfl rfl (by omega) (by omega) fun _p20 _y20 _hy20 _a20 => ?_)
        replace _a20 : At _w_8 0 _w_8.heap.size _p20 ([(.pointer (some _y20))]) := _a20
        refine ⟨(Ch.refl _ _), ?_⟩
        refine DR_one 7 (by kernel_rfl) ?_
        refine DO_s rfl rfl rfl ?_
        refine s_v (r_loadAt0 _a20 agg59 rfl rfl) ?_
        refine ⟨(Ch.refl _ _), ?_⟩
        refine DR_one 12 (by kernel_rfl) ?_
        refine DO_s rfl rfl rfl ?_
        refine s_indexO (j := i) _f_31 el66 sz59 rfl rfl rfl (by have _h1 := _ht.1; first | omega | (simp only [List.length_set]; omega)) fun _g26 _o26 _cp26 _q26 => ?_
        refine ⟨(Ch.refl _ _), ?_⟩
        refine DR_one 13 (by kernel_rfl) ?_
        refine DO_s rfl rfl rfl ?_
        refine s_storeO (j := i) _y20 _f_31 _q26 acs_len sz59 rfl rfl rfl rfl (by have _h1 := _ht.1; first | omega | (simp only [List.length_set]; omega)) fun _w_46 _o_47 _cw_46 => ?_
        have _cw_46z := _cw_46.size
        have E := E.trans _cw_46
        have _S_48 : Ch (bl (.slice _A_s s.length _C_s)) _w_8 _w_46 := ((Ch.refl _ _).step _cw_46 (fun i hm => by exact .inr hm))
        refine ⟨_S_48, ?_⟩
        refine DR_one 14 (by kernel_rfl) ?_
        refine DO_s rfl rfl rfl ?_
        refine s_indexO (j := j.toNat) _o_47 el66 sz59 rfl rfl (by omega) (by have _h1 := _ht.1; first | omega | (simp only [List.length_set]; omega)) fun _g27 _o27 _cp27 _q27 => ?_
        refine ⟨_S_48, ?_⟩
        refine DR_one 15 (by kernel_rfl) ?_
        refine DO_s rfl rfl rfl ?_
        refine s_storeO (j := j.toNat) _y24 _o_47 _q27 acs_len sz59 rfl rfl rfl rfl (by have _h1 := _ht.1; first | omega | (simp only [List.length_set]; omega)) fun _w_49 _o_50 _cw_49 => ?_
        have _cw_49z := _cw_49.size
        have E := E.trans _cw_49
        have _S_51 : Ch (bl (.slice _A_s s.length _C_s)) _w_8 _w_49 := (_S_48.step _cw_49 (fun i hm => by exact .inr hm))
        refine ⟨_S_51, ?_⟩
        refine DR_done (by kernel_rfl) ?_
        refine inB_nrm ?_
        refine thn_nrm (_hK_7 _ _ ?_)
        clear _hK_7
        refine W_region ?_
        refine WL_step rfl rfl (r_move rfl) ?_
        refine WL_step rfl rfl (r_add (by omega) rfl rfl) ?_
        refine WL_step rfl rfl (r_move rfl) ?_
        refine WL_step rfl rfl (r_sub (by omega) rfl rfl) ?_
        refine WL_step rfl rfl (r_assign rfl) ?_
        refine WL_step rfl rfl (r_assign rfl) ?_
        refine WL_nil ?_
        have _on_52 : Ol acs e_s 1 _w_49 (.slice _A_s s.length _C_s) (((zs.set i _y20).set j.toNat _y24)) := by
          have hx := _o_50
          exact hx
        exact thn_nrm (Exists.intro ((i + 1), (j - 1), ((zs.set i _y20).set j.toNat _y24)) ⟨⟨E, (by omega), (by omega), (by omega), (turn_step _ht (by omega) (by omega) _hy20 _hy24), _on_52⟩, Sub.cons rfl (Sub.cons rfl (Sub.cons rfl (Sub.nil _))), (by first | omega | (dsimp only; omega))⟩)
  · have _kb_6 := _h9
    have _h9 := bf_d _h9
    refine W_exit (thn_exit (thn_exit (inB_hit ?_)))
    clear _hK_4
    have _o_53 : Ol acs e_s 1 _wr_3 (.slice _A_s s.length _C_s) (s.reverse) := by
      have hx := _o0_0
      exact hx.eq (turn_end _ht (by omega) (by omega))
    exact end_intro [] trivial ⟨rfl, _o_53, E⟩

/-- impl.tree).reverse -/
theorem c_impl_tree_reverse_n : ∀ (n : Nat) {w : World} {LT_x _B_x : Nat} {p_x : Addr} {x : Tr} (_h_x : TrAt w LT_x _B_x p_x x) (hok : Okd x) (hsz : x.sz < n),
    Ctr Try.prog 61 #[(.pointer (some p_x))] w (fun v w' => ∃ p, v = .pointer (some p) ∧ TrAt w' w.heap.size w'.heap.size p (revT x) ∧ Ch [] w w') := by
  intro n
  induction n with
  | zero => intros; omega
  | succ n ih =>
  intro w LT_x _B_x p_x x _h_x hok hsz
  have _h_x := _h_x.here
  obtain ⟨_A_x, _C_x, _ps_x, _hc_x, _hk_x, _kd_x⟩ := _h_x.open
  have _kl_x := _kd_x.1
  have E := Ch.refl [] w
  have k2 := x.kids_le
  refine Ctr_of_W (N := 61) (vs0 := [(.pointer (some p_x))]) Try.func61 rfl rfl rfl ?_
  refine W_seq fun _K_1 _hK_1 => ?_
  refine W_region ?_
  refine WL_step rfl rfl (r_assign rfl) ?_
  refine WL_nil ?_
  refine thn_nrm (_hK_1 _ _ ?_)
  clear _hK_1
  refine W_seq fun _K_2 _hK_2 => ?_
  refine W_region ?_
  refine WL_step rfl rfl (r_move rfl) ?_
  refine WL_step rfl rfl (r_nilCheck rfl) ?_
  refine WL_step rfl rfl (r_fieldAddr fa68_0 rfl) ?_
  refine WL_step rfl rfl (r_loadAtA 4 _hc_x agg57 sz57 rfl rfl) ?_
  refine WL_step rfl rfl (r_build (parts := [(0, .tmp 9)]) (cells := [(.int .i64 x.tok.kind), (.int .i64 x.tok.letter), (.int .i64 x.tok.low), (.int .i64 x.tok.high), (.slice none 0 0)]) zr68 pl68 rfl rfl) ?_
  refine WL_s rfl rfl ?_
  refine s_box rfl fun _b11 _w_3 _m11 _cw_3 _e11 => ?_
  have _cw_3z := _cw_3.size
  have E := E.trans _cw_3
  have _z11 := _m11.lt
  replace _m11 : Blk _w_3 _b11 68 [(.int .i64 x.tok.kind), (.int .i64 x.tok.letter), (.int .i64 x.tok.low), (.int .i64 x.tok.high), (.slice none 0 0)] := _m11
  refine WL_step rfl rfl (r_assign rfl) ?_
  refine WL_nil ?_
  refine thn_nrm (_hK_2 _ _ ?_)
  clear _hK_2
  refine W_seq fun _K_4 _hK_4 => ?_
  refine W_seq fun _K_5 _hK_5 => ?_
  refine W_region ?_
  refine WL_step rfl rfl (r_move rfl) ?_
  refine WL_step rfl rfl (r_nilCheck rfl) ?_
  refine WL_step rfl rfl (r_fieldAddr fa68_0 rfl) ?_
  refine WL_step rfl rfl (r_fieldAddrN (n := 0) fa57_0 rfl rfl) ?_
  have _f_6 := (_hc_x.ch0 _cw_3)
  refine WL_step rfl rfl (r_loadAt _f_6 agg3 rfl rfl) ?_
  refine WL_step rfl rfl (r_eql rfl rfl) ?_
  refine WL_nil ?_
  refine thn_nrm (_hK_5 _ _ ?_)
  clear _hK_5
  refine W_cond rfl (fun _h17 => ?_) (fun _h17 => ?_)
  · have _kb_7 := _h17
    have _h17 := bt_d _h17
    refine W_region ?_
    refine WL_step rfl rfl (r_move rfl) ?_
    refine WL_step rfl rfl (r_move rfl) ?_
    refine WL_step rfl rfl (r_nilCheck rfl) ?_
    refine WL_step rfl rfl (r_fieldAddr fa68_0 rfl) ?_
    refine WL_step rfl rfl (r_fieldAddrN (n := 1) fa57_1 rfl rfl) ?_
    refine WL_step rfl rfl (r_loadAt _f_6 agg3 rfl rfl) ?_
    refine WL_s rfl rfl ?_
    refine Step.call (r_call (xs := [.tmp 23]) fk86 rfl) (c_impl_InverseLetter _ ) fun _v24 _w_8 _q24 => ?_
    obtain ⟨rfl, _cw_8⟩ := _q24
    have _cw_8z := _cw_8.size
    have E := E.trans _cw_8
    refine WL_step rfl rfl (r_nilCheck rfl) ?_
    refine WL_step rfl rfl (r_fieldAddr fa68_0 rfl) ?_
    refine WL_step rfl rfl (r_fieldAddrN (n := 1) fa57_1 rfl rfl) ?_
    refine WL_s rfl rfl ?_
    have _f_9 := (_m11.ch0 _cw_8)
    refine s_store1 (off := 1) _f_9 sz3 rfl rfl rfl rfl fun _w_10 _m_11 _cw_10 => ?_
    have _cw_10z := _cw_10.size
    have E := E.step _cw_10 (fun i hi => .inl (by have _h1 := List.mem_singleton.1 hi; omega))
    replace _m_11 : Blk _w_10 _b11 68 [(.int .i64 x.tok.kind), (.int .i64 (invL x.tok.letter)), (.int .i64 x.tok.low), (.int .i64 x.tok.high), (.slice none 0 0)] := _m_11
    refine WL_nil ?_
    refine thn_nrm (_hK_4 _ _ ?_)
    clear _hK_4
    refine W_seq fun _K_12 _hK_12 => ?_
    refine W_seq fun _K_13 _hK_13 => ?_
    refine W_region ?_
    refine WL_step rfl rfl (r_move rfl) ?_
    refine WL_step rfl rfl (r_nilCheck rfl) ?_
    refine WL_step rfl rfl (r_fieldAddr fa68_1 rfl) ?_
    have _f_14 := ((_f_6.ch0 _cw_8).ch _cw_10 (fun i hi => by have _h1 := List.mem_singleton.1 hi; omega))
    refine WL_step rfl rfl (r_loadAt _f_14 agg66 rfl rfl) ?_
    refine WL_step rfl rfl (r_len (by rw [el66]; rfl) rfl) ?_
    refine WL_step rfl rfl (r_move rfl) ?_
    refine WL_nil ?_
    refine thn_nrm (_hK_13 _ _ ?_)
    clear _hK_13
    refine W_block ?_
    have _oi_15 : Ol acs 59 1 _w_10 (.slice none 0 0) (([] : List Addr)) := by
      have hx := (Ol.nil (cs := acs) (e := 59) (k := 1) _w_10)
      exact hx
    refine W_loop (σ := Nat × List Addr × Value) (fun ⟨i, ps, sv⟩ => [(0, (.pointer (some p_x))), (2, (.pointer none)), (3, (.pointer (some ⟨_b11, 0, none⟩))), (31, (.slice _A_x _ps_x.length _C_x)), (32, (.int .i64 ((_ps_x.length : Nat) : Int))), (33, (.int .i64 ((i : Nat) : Int)))]) (fun ⟨i, ps, sv⟩ wx => Ch [] w wx ∧ _w_10.heap.size ≤ wx.heap.size ∧ (i ≤ x.kids.length) ∧ At wx LT_x w.heap.size p_x ([.int .i64 x.tok.kind, .int .i64 x.tok.letter, .int .i64 x.tok.low, .int .i64 x.tok.high, (.slice _A_x _ps_x.length _C_x)]) ∧ Ol acs 59 1 wx sv ps ∧ Lo _w_10.heap.size sv ∧ KdN wx w.heap.size _b11 sv ps ((x.kids.take i).map revT) ∧ Blk wx _b11 68 [(.int .i64 x.tok.kind), (.int .i64 (invL x.tok.letter)), (.int .i64 x.tok.low), (.int .i64 x.tok.high), sv] ∧ (_b11 ∉ bl sv)) (fun ⟨i, ps, sv⟩ => x.kids.length - i) (0, ([] : List Addr), (.slice none 0 0)) (Sub.cons rfl (Sub.cons rfl (Sub.cons rfl (Sub.cons rfl (Sub.cons rfl (Sub.cons rfl (Sub.nil _))))))) ⟨E, (Nat.le_refl _), (by omega), _f_14, _oi_15, (Lo.nil _), (by simpa using KdN.nil _ _ _ _), _m_11, (fun hm => by cases hm)⟩ ?_
    rintro ⟨i, ps, sv⟩ _wr_16 ⟨E, _zz0, hi, _F0_0, o0_3_4, lo0_3_4, kds, _m0_3, _nb0_3_4⟩
    have _E0h := E
    have _E0hz := _E0h.size
    obtain ⟨Asv, Csv, esv⟩ := o0_3_4.val
    subst esv
    have lsv := o0_3_4.len
    have hisv := o0_3_4.lt
    refine W_seq fun _K_17 _hK_17 => ?_
    refine W_region ?_
    refine WL_step rfl rfl (r_lss rfl rfl) ?_
    refine WL_nil ?_
    refine thn_nrm (_hK_17 _ _ ?_)
    clear _hK_17
    refine W_seq fun _K_18 _hK_18 => ?_
    refine W_cond rfl (fun _h34 => ?_) (fun _h34 => ?_)
    · have _kb_19 := _h34
      have _h34 := bt_d _h34
      refine W_skip ?_
      refine thn_nrm (_hK_18 _ _ ?_)
      clear _hK_18
      refine W_seq fun _K_20 _hK_20 => ?_
      refine W_block ?_
      refine W_seq fun _K_21 _hK_21 => ?_
      refine W_region ?_
      refine WL_s rfl rfl ?_
      have _f_22 := (_hk_x.ch0 _E0h)
      refine (s_index _f_22 acs_len el66 sz59 rfl rfl rfl (by omega) fun _p35 _y35 _hy35 _a35 => ?_)
      have _f_23 := (_kd_x.ch0 _E0h)
      obtain ⟨_t35, ht35, _tr35⟩ := _f_23.get _hy35
      obtain ⟨_A_35, _C_35, _ps_35, _hc_35, _hk_35, _kd_35⟩ := _tr35.open
      have _kl_35 := _kd_35.1
      replace _a35 : At _wr_16 LT_x w.heap.size _p35 ([(.pointer (some _y35))]) := _a35
      refine WL_step rfl rfl (r_loadAt0 _a35 agg59 rfl rfl) ?_
      refine WL_step rfl rfl (r_assign rfl) ?_
      refine WL_nil ?_
      refine thn_nrm (_hK_21 _ _ ?_)
      clear _hK_21
      refine W_drawC ((bl (.slice Asv (ps).length Csv)) ++ [_b11]) 12 mixed rfl fun _w_24 _cw_24 => ?_
      have _cw_24z := _cw_24.size
      have E := E.trans _cw_24
      refine DR_s 0 rfl (by kernel_rfl) rfl rfl (t_v (fun _ => (r_move rfl)) ?_)
      refine DR_s 1 rfl (by kernel_rfl) rfl rfl (t_v (fun _ => (r_move rfl)) ?_)
      refine DR_s 2 rfl (by kernel_rfl) rfl rfl (t_v (fun _ => (r_nilCheck rfl)) ?_)
      refine DR_s 3 rfl (by kernel_rfl) rfl rfl (t_v (fun _ => (r_fieldAddr fa68_1 rfl)) ?_)
      refine DR_s 5 rfl (by kernel_rfl) rfl rfl (t_v (fun _ => (r_move rfl)) ?_)
      refine DR_two 4 6 (by kernel_rfl) ?_ ?_
      · refine DO_s rfl rfl rfl ?_
        have _f_25 := (_m0_3.ch0 _cw_24)
        refine s_v (r_loadAt _f_25.at_ agg66 rfl rfl) ?_
        refine ⟨(Ch.refl _ _), ?_⟩
        refine DR_one 6 (by kernel_rfl) ?_
        refine DO_s rfl rfl rfl ?_
        have _f_26 := (_tr35.ch0 _cw_24)
        refine Step.call (r_call (xs := [.tmp 42]) fk61 rfl) (ih _f_26 (hok.kid ht35) (by have := Tr.kid_sz ht35; omega)) fun _v43 _w_27 _q43 => ?_
        obtain ⟨_p43, rfl, _tr43, _cw_27⟩ := _q43
        have _cw_27z := _cw_27.size
        have E := E.trans _cw_27
        replace _tr43 : TrAt _w_27 _w_24.heap.size _w_27.heap.size _p43 (revT _t35) := _tr43
        obtain ⟨_A_43, _C_43, _ps_43, _hc_43, _hk_43, _kd_43⟩ := _tr43.open
        have _kl_43 := _kd_43.1
        have _S_28 : Ch ((bl (.slice Asv (ps).length Csv)) ++ [_b11]) _w_24 _w_27 := ((Ch.refl _ _).trans _cw_27.of_nil)
        refine ⟨_S_28, ?_⟩
        refine DR_one 7 (by kernel_rfl) ?_
        refine DO_s rfl rfl rfl ?_
        refine s_buildSliceP (parts := [(0, .tmp 43)]) [(_p43 : Addr)] el66 sz59 zr59 rfl rfl (by decide) (by decide) rfl fun _v44 _w_29 _q44 _lo44 _cw_29 => ?_
        have _cw_29z := _cw_29.size
        have E := E.trans _cw_29
        obtain ⟨_Av44, _Cv44, _ev44⟩ := _q44.val
        subst _ev44
        have _lv44 := _q44.len
        have _hiv44 := _q44.lt
        have _S_30 : Ch ((bl (.slice Asv (ps).length Csv)) ++ [_b11]) _w_24 _w_29 := (_S_28.trans _cw_29.of_nil)
        refine ⟨_S_30, ?_⟩
        refine DR_one 8 (by kernel_rfl) ?_
        refine DO_s rfl rfl rfl ?_
        have _f_32 := (((o0_3_4.ch0 _cw_24).ch0 _cw_27).ch0 _cw_29)
        refine s_append (cs := acs) el66 sz59 by59 zr59 rfl (by decide) acs_one _f_32 _q44.ls rfl rfl (by have _h5 := kds.1; simp only [List.length_map, List.length_take] at _h5; simp only [List.length_singleton]; omega) (by have _h5 := kds.1; simp only [List.length_map, List.length_take] at _h5; simp only [List.length_singleton]; omega) lo0_3_4 (by omega) fun _v45 _w_31 _q45 _lo45 _ap45 _cw_31 => ?_
        have _cw_31z := _cw_31.size
        have E := E.step _cw_31 (fun i hi => .inl (by have _h1 := lo0_3_4 _ hi; omega))
        obtain ⟨_Av45, _Cv45, _ev45⟩ := _q45.val
        subst _ev45
        have _lv45 := _q45.len
        have _hiv45 := _q45.lt
        have _S_33 : Ch ((bl (.slice Asv (ps).length Csv)) ++ [_b11]) _w_24 _w_31 := (_S_30.step _cw_31 (fun i hm => by exact .inr (List.mem_append_left _ hm)))
        refine ⟨_S_33, ?_⟩
        refine DR_s 9 rfl (by kernel_rfl) rfl rfl (t_v (fun _ => (r_nilCheck rfl)) ?_)
        refine DR_s 10 rfl (by kernel_rfl) rfl rfl (t_v (fun _ => (r_fieldAddr fa68_1 rfl)) ?_)
        refine DR_one 11 (by kernel_rfl) ?_
        refine DO_s rfl rfl rfl ?_
        have _f_34 := (((_f_25.ch0 _cw_27).ch0 _cw_29).ch _cw_31 (fun hm => by exact _nb0_3_4 (by first | exact hm | exact _h0 ▸ hm)))
        refine s_store1 (off := 4) _f_34 sz66 rfl rfl rfl rfl fun _w_35 _m_36 _cw_35 => ?_
        have _cw_35z := _cw_35.size
        have E := E.step _cw_35 (fun i hi => .inl (by have _h1 := List.mem_singleton.1 hi; omega))
        replace _m_36 : Blk _w_35 _b11 68 [(.int .i64 x.tok.kind), (.int .i64 (invL x.tok.letter)), (.int .i64 x.tok.low), (.int .i64 x.tok.high), (.slice _Av45 ((ps ++ [(_p43 : Addr)])).length _Cv45)] := _m_36
        have _S_37 : Ch ((bl (.slice Asv (ps).length Csv)) ++ [_b11]) _w_24 _w_35 := (_S_33.step _cw_35 (fun i hm => by have _h0 := List.mem_singleton.1 hm; exact .inr (by rw [_h0]; exact (List.mem_append_right _ (List.mem_singleton.2 rfl)))))
        refine ⟨_S_37, ?_⟩
        refine DR_done (by kernel_rfl) ?_
        refine inB_nrm ?_
        refine thn_nrm (_hK_20 _ _ ?_)
        clear _hK_20
        refine W_region ?_
        refine WL_step rfl rfl (r_add (by omega) rfl rfl) ?_
        refine WL_step rfl rfl (r_move rfl) ?_
        refine WL_nil ?_
        have _f_38 := (_tr43.ch0 _cw_29)
        have k9 := (KdN.grow kds (by omega) hisv (by omega) ((((Ch.refl [] _wr_16).trans _cw_24).trans _cw_27).trans _cw_29) _f_38 (by omega) (by omega) _cw_31 _ap45).bo _cw_35
        have _f_40 := (_q45.ch _cw_35 (fun g hg hm => by have _h0 := List.mem_singleton.1 hm; rcases _ap45 with ea | ea; (rw [ea] at hg; exact _nb0_3_4 (by first | exact hg | exact _h0 ▸ hg)); (rw [ea] at hg; have _z1 := List.mem_singleton.1 hg; omega)))
        have _on_39 : Ol acs 59 1 _w_35 (.slice _Av45 ((ps ++ [(_p43 : Addr)])).length _Cv45) ((ps ++ [(_p43 : Addr)])) := by
          have hx := _f_40
          exact hx
        have _f_41 := (((((_F0_0.ch0 _cw_24).ch0 _cw_27).ch0 _cw_29).ch _cw_31 (fun i hi => by have _h1 := lo0_3_4 _ hi; omega)).ch _cw_35 (fun i hi => by have _h1 := List.mem_singleton.1 hi; omega))
        exact thn_nrm (Exists.intro ((i + 1), (ps ++ [(_p43 : Addr)]), (.slice _Av45 ((ps ++ [(_p43 : Addr)])).length _Cv45)) ⟨⟨E, (by omega), (by omega), _f_41, _on_39, (Lo.down _lo45 (by omega)), (by rw [take_snoc ht35, List.map_append]; exact k9), _m_36, (fun hm => by rcases _ap45 with ea | ea; (rw [ea] at hm; exact _nb0_3_4 (by first | exact hm | exact _h0 ▸ hm)); (rw [ea] at hm; have _z1 := List.mem_singleton.1 hm; omega))⟩, Sub.cons rfl (Sub.cons rfl (Sub.cons rfl (Sub.cons rfl (Sub.cons rfl (Sub.cons rfl (Sub.nil _)))))), (by first | omega | (dsimp only; omega))⟩)
      · refine DO_s rfl rfl rfl ?_
        have _f_42 := (_tr35.ch0 _cw_24)
        refine Step.call (r_call (xs := [.tmp 42]) fk61 rfl) (ih _f_42 (hok.kid ht35) (by have := Tr.kid_sz ht35; omega)) fun _v43 _w_43 _q43 => ?_
        obtain ⟨_p43, rfl, _tr43, _cw_43⟩ := _q43
        have _cw_43z := _cw_43.size
        have E := E.trans _cw_43
        replace _tr43 : TrAt _w_43 _w_24.heap.size _w_43.heap.size _p43 (revT _t35) := _tr43
        obtain ⟨_A_43, _C_43, _ps_43, _hc_43, _hk_43, _kd_43⟩ := _tr43.open
        have _kl_43 := _kd_43.1
        have _S_44 : Ch ((bl (.slice Asv (ps).length Csv)) ++ [_b11]) _w_24 _w_43 := ((Ch.refl _ _).trans _cw_43.of_nil)
        refine ⟨_S_44, ?_⟩
        refine DR_two 4 7 (by kernel_rfl) ?_ ?_
        · refine DO_s rfl rfl rfl ?_
          have _f_45 := ((_m0_3.ch0 _cw_24).ch0 _cw_43)
          refine s_v (r_loadAt _f_45.at_ agg66 rfl rfl) ?_
          refine ⟨_S_44, ?_⟩
          refine DR_one 7 (by kernel_rfl) ?_
          refine DO_s rfl rfl rfl ?_
          refine s_buildSliceP (parts := [(0, .tmp 43)]) [(_p43 : Addr)] el66 sz59 zr59 rfl rfl (by decide) (by decide) rfl fun _v44 _w_46 _q44 _lo44 _cw_46 => ?_
          have _cw_46z := _cw_46.size
          have E := E.trans _cw_46
          obtain ⟨_Av44, _Cv44, _ev44⟩ := _q44.val
          subst _ev44
          have _lv44 := _q44.len
          have _hiv44 := _q44.lt
          have _S_47 : Ch ((bl (.slice Asv (ps).length Csv)) ++ [_b11]) _w_24 _w_46 := (_S_44.trans _cw_46.of_nil)
          refine ⟨_S_47, ?_⟩
          refine DR_one 8 (by kernel_rfl) ?_
          refine DO_s rfl rfl rfl ?_
          have _f_49 := (((o0_3_4.ch0 _cw_24).ch0 _cw_43).ch0 _cw_46)
          refine s_append (cs := acs) el66 sz59 by59 zr59 rfl (by decide) acs_one _f_49 _q44.ls rfl rfl (by have _h5 := kds.1; simp only [List.length_map, List.length_take] at _h5; simp only [List.length_singleton]; omega) (by have _h5 := kds.1; simp only [List.length_map, List.length_take] at _h5; simp only [List.length_singleton]; omega) lo0_3_4 (by omega) fun _v45 _w_48 _q45 _lo45 _ap45 _cw_48 => ?_
          have _cw_48z := _cw_48.size
          have E := E.step _cw_48 (fun i hi => .inl (by have _h1 := lo0_3_4 _ hi; omega))
          obtain ⟨_Av45, _Cv45, _ev45⟩ := _q45.val
          subst _ev45
          have _lv45 := _q45.len
          have _hiv45 := _q45.lt
          have _S_50 : Ch ((bl (.slice Asv (ps).length Csv)) ++ [_b11]) _w_24 _w_48 := (_S_47.step _cw_48 (fun i hm => by exact .inr (List.mem_append_left _ hm)))
          refine ⟨_S_50, ?_⟩
          refine DR_s 9 rfl (by kernel_rfl) rfl rfl (t_v (fun _ => (r_nilCheck rfl)) ?_)
          refine DR_s 10 rfl (by kernel_rfl) rfl rfl (t_v (fun _ => (r_fieldAddr fa68_1 rfl)) ?_)
          refine DR_one 11 (by kernel_rfl) ?_
          refine DO_s rfl rfl rfl ?_
          have _f_51 := ((_f_45.ch0 _cw_46).ch _cw_48 (fun hm => by exact _nb0_3_4 (by first | exact hm | exact _h0 ▸ hm)))
          refine s_store1 (off := 4) _f_51 sz66 rfl rfl rfl rfl fun _w_52 _m_53 _cw_52 => ?_
          have _cw_52z := _cw_52.size
          have E := E.step _cw_52 (fun i hi => .inl (by have _h1 := List.mem_singleton.1 hi; omega))
          replace _m_53 : Blk _w_52 _b11 68 [(.int .i64 x.tok.kind), (.int .i64 (invL x.tok.letter)), (.int .i64 x.tok.low), (.int .i64 x.tok.high), (.slice _Av45 ((ps ++ [(_p43 : Addr)])).length _Cv45)] := _m_53
          have _S_54 : Ch ((bl (.slice Asv (ps).length Csv)) ++ [_b11]) _w_24 _w_52 := (_S_50.step _cw_52 (fun i hm => by have _h0 := List.mem_singleton.1 hm; exact .inr (by rw [_h0]; exact (List.mem_append_right _ (List.mem_singleton.2 rfl)))))
          refine ⟨_S_54, ?_⟩
          refine DR_done (by kernel_rfl) ?_
          refine inB_nrm ?_
          refine thn_nrm (_hK_20 _ _ ?_)
          clear _hK_20
          refine W_region ?_
          refine WL_step rfl rfl (r_add (by omega) rfl rfl) ?_
          refine WL_step rfl rfl (r_move rfl) ?_
          refine WL_nil ?_
          have _f_55 := (_tr43.ch0 _cw_46)
          have k9 := (KdN.grow kds (by omega) hisv (by omega) ((((Ch.refl [] _wr_16).trans _cw_24).trans _cw_43).trans _cw_46) _f_55 (by omega) (by omega) _cw_48 _ap45).bo _cw_52
          have _f_57 := (_q45.ch _cw_52 (fun g hg hm => by have _h0 := List.mem_singleton.1 hm; rcases _ap45 with ea | ea; (rw [ea] at hg; exact _nb0_3_4 (by first | exact hg | exact _h0 ▸ hg)); (rw [ea] at hg; have _z1 := List.mem_singleton.1 hg; omega)))
          have _on_56 : Ol acs 59 1 _w_52 (.slice _Av45 ((ps ++ [(_p43 : Addr)])).length _Cv45) ((ps ++ [(_p43 : Addr)])) := by
            have hx := _f_57
            exact hx
          have _f_58 := (((((_F0_0.ch0 _cw_24).ch0 _cw_43).ch0 _cw_46).ch _cw_48 (fun i hi => by have _h1 := lo0_3_4 _ hi; omega)).ch _cw_52 (fun i hi => by have _h1 := List.mem_singleton.1 hi; omega))
          exact thn_nrm (Exists.intro ((i + 1), (ps ++ [(_p43 : Addr)]), (.slice _Av45 ((ps ++ [(_p43 : Addr)])).length _Cv45)) ⟨⟨E, (by omega), (by omega), _f_58, _on_56, (Lo.down _lo45 (by omega)), (by rw [take_snoc ht35, List.map_append]; exact k9), _m_53, (fun hm => by rcases _ap45 with ea | ea; (rw [ea] at hm; exact _nb0_3_4 (by first | exact hm | exact _h0 ▸ hm)); (rw [ea] at hm; have _z1 := List.mem_singleton.1 hm; omega))⟩, Sub.cons rfl (Sub.cons rfl (Sub.cons rfl (Sub.cons rfl (Sub.cons rfl (Sub.cons rfl (Sub.nil _)))))), (by first | omega | (dsimp only; omega))⟩)
        · refine DO_s rfl rfl rfl ?_
          refine s_buildSliceP (parts := [(0, .tmp 43)]) [(_p43 : Addr)] el66 sz59 zr59 rfl rfl (by decide) (by decide) rfl fun _v44 _w_59 _q44 _lo44 _cw_59 => ?_
          have _cw_59z := _cw_59.size
          have E := E.trans _cw_59
          obtain ⟨_Av44, _Cv44, _ev44⟩ := _q44.val
          subst _ev44
          have _lv44 := _q44.len
          have _hiv44 := _q44.lt
          have _S_60 : Ch ((bl (.slice Asv (ps).length Csv)) ++ [_b11]) _w_24 _w_59 := (_S_44.trans _cw_59.of_nil)
          refine ⟨_S_60, ?_⟩
          refine DR_one 4 (by kernel_rfl) ?_
          refine DO_s rfl rfl rfl ?_
          have _f_61 := (((_m0_3.ch0 _cw_24).ch0 _cw_43).ch0 _cw_59)
          refine s_v (r_loadAt _f_61.at_ agg66 rfl rfl) ?_
          refine ⟨_S_60, ?_⟩
          refine DR_one 8 (by kernel_rfl) ?_
          refine DO_s rfl rfl rfl ?_
          have _f_63 := (((o0_3_4.ch0 _cw_24).ch0 _cw_43).ch0 _cw_59)
          refine s_append (cs := acs) el66 sz59 by59 zr59 rfl (by decide) acs_one _f_63 _q44.ls rfl rfl (by have _h5 := kds.1; simp only [List.length_map, List.length_take] at _h5; simp only [List.length_singleton]; omega) (by have _h5 := kds.1; simp only [List.length_map, List.length_take] at _h5; simp only [List.length_singleton]; omega) lo0_3_4 (by omega) fun _v45 _w_62 _q45 _lo45 _ap45 _cw_62 => ?_
          have _cw_62z := _cw_62.size
          have E := E.step _cw_62 (fun i hi => .inl (by have _h1 := lo0_3_4 _ hi; omega))
          obtain ⟨_Av45, _Cv45, _ev45⟩ := _q45.val
          subst _ev45
          have _lv45 := _q45.len
          have _hiv45 := _q45.lt
          have _S_64 : Ch ((bl (.slice Asv (ps).length Csv)) ++ [_b11]) _w_24 _w_62 := (_S_60.step _cw_62 (fun i hm => by exact .inr (List.mem_append_left _ hm)))
          refine ⟨_S_64, ?_⟩
          refine DR_s 9 rfl (by kernel_rfl) rfl rfl (t_v (fun _ => (r_nilCheck rfl)) ?_)
          refine DR_s 10 rfl (by kernel_rfl) rfl rfl (t_v (fun _ => (r_fieldAddr fa68_1 rfl)) ?_)
          refine DR_one 11 (by kernel_rfl) ?_
          refine DO_s rfl rfl rfl ?_
          have _f_65 := (_f_61.ch _cw_62 (fun hm => by exact _nb0_3_4 (by first | exact hm | exact _h0 ▸ hm)))
          refine s_store1 (off := 4) _f_65 sz66 rfl rfl rfl rfl fun _w_66 _m_67 _cw_66 => ?_
          have _cw_66z := _cw_66.size
          have E := E.step _cw_66 (fun i hi => .inl (by have _h1 := List.mem_singleton.1 hi; omega))
          replace _m_67 : Blk _w_66 _b11 68 [(.int .i64 x.tok.kind), (.int .i64 (invL x.tok.letter)), (.int .i64 x.tok.low), (.int .i64 x.tok.high), (.slice _Av45 ((ps ++ [(_p43 : Addr)])).length _Cv45)] := _m_67
          have _S_68 : Ch ((bl (.slice Asv (ps).length Csv)) ++ [_b11]) _w_24 _w_66 := (_S_64.step _cw_66 (fun i hm => by have _h0 := List.mem_singleton.1 hm; exact .inr (by rw [_h0]; exact (List.mem_append_right _ (List.mem_singleton.2 rfl)))))
          refine ⟨_S_68, ?_⟩
          refine DR_done (by kernel_rfl) ?_
          refine inB_nrm ?_
          refine thn_nrm (_hK_20 _ _ ?_)
          clear _hK_20
          refine W_region ?_
          refine WL_step rfl rfl (r_add (by omega) rfl rfl) ?_
          refine WL_step rfl rfl (r_move rfl) ?_
          refine WL_nil ?_
          have _f_69 := (_tr43.ch0 _cw_59)
          have k9 := (KdN.grow kds (by omega) hisv (by omega) ((((Ch.refl [] _wr_16).trans _cw_24).trans _cw_43).trans _cw_59) _f_69 (by omega) (by omega) _cw_62 _ap45).bo _cw_66
          have _f_71 := (_q45.ch _cw_66 (fun g hg hm => by have _h0 := List.mem_singleton.1 hm; rcases _ap45 with ea | ea; (rw [ea] at hg; exact _nb0_3_4 (by first | exact hg | exact _h0 ▸ hg)); (rw [ea] at hg; have _z1 := List.mem_singleton.1 hg; omega)))
          have _on_70 : Ol acs 59 1 _w_66 (.slice _Av45 ((ps ++ [(_p43 : Addr)])).length _Cv45) ((ps ++ [(_p43 : Addr)])) := by
            have hx := _f_71
            exact hx
          have _f_72 := (((((_F0_0.ch0 _cw_24).ch0 _cw_43).ch0 _cw_59).ch _cw_62 (fun i hi => by have _h1 := lo0_3_4 _ hi; omega)).ch _cw_66 (fun i hi => by have _h1 := List.mem_singleton.1 hi; omega))
          exact thn_nrm (Exists.intro ((i + 1), (ps ++ [(_p43 : Addr)]), (.slice _Av45 ((ps ++ [(_p43 : Addr)])).length _Cv45)) ⟨⟨E, (by omega), (by omega), _f_72, _on_70, (Lo.down _lo45 (by omega)), (by rw [take_snoc ht35, List.map_append]; exact k9), _m_67, (fun hm => by rcases _ap45 with ea | ea; (rw [ea] at hm; exact _nb0_3_4 (by first | exact hm | exact _h0 ▸ hm)); (rw [ea] at hm; have _z1 := List.mem_singleton.1 hm; omega))⟩, Sub.cons rfl (Sub.cons rfl (Sub.cons rfl (Sub.cons rfl (Sub.cons rfl (Sub.cons rfl (Sub.nil _)))))), (by first | omega | (dsimp only; omega))⟩)
    · have _kb_19 := _h34
      have _h34 := bf_d _h34
      refine W_exit (thn_exit (thn_exit (inB_hit ?_)))
      refine thn_nrm (_hK_12 _ _ ?_)
      clear _hK_12
      refine W_seq fun _K_73 _hK_73 => ?_
      refine W_seq fun _K_74 _hK_74 => ?_
      refine W_region ?_
      refine WL_step rfl rfl (r_move rfl) ?_
      refine WL_step rfl rfl (r_nilCheck rfl) ?_
      refine WL_step rfl rfl (r_fieldAddr fa68_0 rfl) ?_
      refine WL_step rfl rfl (r_fieldAddrN (n := 0) fa57_0 rfl rfl) ?_
      refine WL_step rfl rfl (r_loadAt _F0_0 agg3 rfl rfl) ?_
      refine WL_step rfl rfl (r_eql rfl rfl) ?_
      refine WL_nil ?_
      refine thn_nrm (_hK_74 _ _ ?_)
      clear _hK_74
      refine W_cond rfl (fun _h54 => ?_) (fun _h54 => ?_)
      · have _kb_75 := _h54
        have _h54 := bt_d _h54
        refine W_region ?_
        refine WL_step rfl rfl (r_move rfl) ?_
        refine WL_step rfl rfl (r_nilCheck rfl) ?_
        refine WL_step rfl rfl (r_fieldAddr fa68_1 rfl) ?_
        refine WL_step rfl rfl (r_loadAt _m0_3.at_ agg66 rfl rfl) ?_
        refine WL_s rfl rfl ?_
        refine Step.call (r_call (xs := [.tmp 58]) fk87 rfl) (c_slices_Reverse_impl_tree_impl_tree o0_3_4 ) fun _v59 _w_76 _q59 => ?_
        obtain ⟨rfl, _q59, _cw_76⟩ := _q59
        have _cw_76z := _cw_76.size
        have E := E.step _cw_76 (fun i hi => .inl (by have _h1 := lo0_3_4 _ hi; omega))
        refine WL_nil ?_
        refine thn_nrm (_hK_73 _ _ ?_)
        clear _hK_73
        refine W_seq fun _K_77 _hK_77 => ?_
        refine W_region ?_
        refine WL_step rfl rfl (r_move rfl) ?_
        refine WL_step rfl rfl (r_assign rfl) ?_
        refine WL_nil ?_
        refine thn_nrm (_hK_77 _ _ ?_)
        clear _hK_77
        refine W_ret ?_
        clear _hK_18
        have _f_78 := (_m0_3.ch _cw_76 (fun hm => by exact _nb0_3_4 (by first | exact hm | exact _h0 ▸ hm)))
        exact ret_intro [_] ⟨rfl, trivial⟩ ⟨_, rfl, (rev_done (k := ⟨x.tok.kind, invL x.tok.letter, x.tok.low, x.tok.high⟩) (KdF.rev (KdN.row kds _cw_76)) _f_78 (by omega) _q59 (Lo.down lo0_3_4 (by omega)) (by omega) hok (by unfold revK; first | (rw [if_pos (by omega)]; done) | (rw [if_neg (by omega)]; done)) (by rw [List.take_of_length_le (by omega)]; first | (rw [if_pos (by omega)]; done) | (rw [if_neg (by omega)]; done))), E⟩
      · have _kb_75 := _h54
        have _h54 := bf_d _h54
        refine W_skip ?_
        refine thn_nrm (_hK_73 _ _ ?_)
        clear _hK_73
        refine W_seq fun _K_79 _hK_79 => ?_
        refine W_region ?_
        refine WL_step rfl rfl (r_move rfl) ?_
        refine WL_step rfl rfl (r_assign rfl) ?_
        refine WL_nil ?_
        refine thn_nrm (_hK_79 _ _ ?_)
        clear _hK_79
        refine W_ret ?_
        clear _hK_18
        exact ret_intro [_] ⟨rfl, trivial⟩ ⟨_, rfl, (rev_done (k := ⟨x.tok.kind, invL x.tok.letter, x.tok.low, x.tok.high⟩) kds _m0_3 (by omega) o0_3_4 (Lo.down lo0_3_4 (by omega)) (by omega) hok (by unfold revK; first | (rw [if_pos (by omega)]; done) | (rw [if_neg (by omega)]; done)) (by rw [List.take_of_length_le (by omega)]; first | (rw [if_pos (by omega)]; done) | (rw [if_neg (by omega)]; done))), E⟩
  · have _kb_7 := _h17
    have _h17 := bf_d _h17
    refine W_skip ?_
    refine thn_nrm (_hK_4 _ _ ?_)
    clear _hK_4
    refine W_seq fun _K_80 _hK_80 => ?_
    refine W_seq fun _K_81 _hK_81 => ?_
    refine W_region ?_
    refine WL_step rfl rfl (r_move rfl) ?_
    refine WL_step rfl rfl (r_nilCheck rfl) ?_
    refine WL_step rfl rfl (r_fieldAddr fa68_1 rfl) ?_
    refine WL_step rfl rfl (r_loadAt _f_6 agg66 rfl rfl) ?_
    refine WL_step rfl rfl (r_len (by rw [el66]; rfl) rfl) ?_
    refine WL_step rfl rfl (r_move rfl) ?_
    refine WL_nil ?_
    refine thn_nrm (_hK_81 _ _ ?_)
    clear _hK_81
    refine W_block ?_
    have _oi_82 : Ol acs 59 1 _w_3 (.slice none 0 0) (([] : List Addr)) := by
      have hx := (Ol.nil (cs := acs) (e := 59) (k := 1) _w_3)
      exact hx
    refine W_loop (σ := Nat × List Addr × Value) (fun ⟨i, ps, sv⟩ => [(0, (.pointer (some p_x))), (2, (.pointer none)), (3, (.pointer (some ⟨_b11, 0, none⟩))), (31, (.slice _A_x _ps_x.length _C_x)), (32, (.int .i64 ((_ps_x.length : Nat) : Int))), (33, (.int .i64 ((i : Nat) : Int)))]) (fun ⟨i, ps, sv⟩ wx => Ch [] w wx ∧ _w_3.heap.size ≤ wx.heap.size ∧ (i ≤ x.kids.length) ∧ At wx LT_x w.heap.size p_x ([.int .i64 x.tok.kind, .int .i64 x.tok.letter, .int .i64 x.tok.low, .int .i64 x.tok.high, (.slice _A_x _ps_x.length _C_x)]) ∧ Ol acs 59 1 wx sv ps ∧ Lo _w_3.heap.size sv ∧ KdN wx w.heap.size _b11 sv ps ((x.kids.take i).map revT) ∧ Blk wx _b11 68 [(.int .i64 x.tok.kind), (.int .i64 x.tok.letter), (.int .i64 x.tok.low), (.int .i64 x.tok.high), sv] ∧ (_b11 ∉ bl sv)) (fun ⟨i, ps, sv⟩ => x.kids.length - i) (0, ([] : List Addr), (.slice none 0 0)) (Sub.cons rfl (Sub.cons rfl (Sub.cons rfl (Sub.cons rfl (Sub.cons rfl (Sub.cons rfl (Sub.nil _))))))) ⟨E, (Nat.le_refl _), (by omega), _f_6, _oi_82, (Lo.nil _), (by simpa using KdN.nil _ _ _ _), _m11, (fun hm => by cases hm)⟩ ?_
    rintro ⟨i, ps, sv⟩ _wr_83 ⟨E, _zz0, hi, _F0_0, o0_3_4, lo0_3_4, kds, _m0_3, _nb0_3_4⟩
    have _E0h := E
    have _E0hz := _E0h.size
    obtain ⟨Asv, Csv, esv⟩ := o0_3_4.val
    subst esv
    have lsv := o0_3_4.len
    have hisv := o0_3_4.lt
    refine W_seq fun _K_84 _hK_84 => ?_
    refine W_region ?_
    refine WL_step rfl rfl (r_lss rfl rfl) ?_
    refine WL_nil ?_
    refine thn_nrm (_hK_84 _ _ ?_)
    clear _hK_84
    refine W_seq fun _K_85 _hK_85 => ?_
    refine W_cond rfl (fun _h34 => ?_) (fun _h34 => ?_)
    · have _kb_86 := _h34
      have _h34 := bt_d _h34
      refine W_skip ?_
      refine thn_nrm (_hK_85 _ _ ?_)
      clear _hK_85
      refine W_seq fun _K_87 _hK_87 => ?_
      refine W_block ?_
      refine W_seq fun _K_88 _hK_88 => ?_
      refine W_region ?_
      refine WL_s rfl rfl ?_
      have _f_89 := (_hk_x.ch0 _E0h)
      refine (s_index _f_89 acs_len el66 sz59 rfl rfl rfl (by omega) fun _p35 _y35 _hy35 _a35 => ?_)
      have _f_90 := (_kd_x.ch0 _E0h)
      obtain ⟨_t35, ht35, _tr35⟩ := _f_90.get _hy35
      obtain ⟨_A_35, _C_35, _ps_35, _hc_35, _hk_35, _kd_35⟩ := _tr35.open
      have _kl_35 := _kd_35.1
      replace _a35 : At _wr_83 LT_x w.heap.size _p35 ([(.pointer (some _y35))]) := _a35
      refine WL_step rfl rfl (r_loadAt0 _a35 agg59 rfl rfl) ?_
      refine WL_step rfl rfl (r_assign rfl) ?_
      refine WL_nil ?_
      refine thn_nrm (_hK_88 _ _ ?_)
      clear _hK_88
      refine W_drawC ((bl (.slice Asv (ps).length Csv)) ++ [_b11]) 12 mixed rfl fun _w_91 _cw_91 => ?_
      have _cw_91z := _cw_91.size
      have E := E.trans _cw_91
      refine DR_s 0 rfl (by kernel_rfl) rfl rfl (t_v (fun _ => (r_move rfl)) ?_)
      refine DR_s 1 rfl (by kernel_rfl) rfl rfl (t_v (fun _ => (r_move rfl)) ?_)
      refine DR_s 2 rfl (by kernel_rfl) rfl rfl (t_v (fun _ => (r_nilCheck rfl)) ?_)
      refine DR_s 3 rfl (by kernel_rfl) rfl rfl (t_v (fun _ => (r_fieldAddr fa68_1 rfl)) ?_)
      refine DR_s 5 rfl (by kernel_rfl) rfl rfl (t_v (fun _ => (r_move rfl)) ?_)
      refine DR_two 4 6 (by kernel_rfl) ?_ ?_
      · refine DO_s rfl rfl rfl ?_
        have _f_92 := (_m0_3.ch0 _cw_91)
        refine s_v (r_loadAt _f_92.at_ agg66 rfl rfl) ?_
        refine ⟨(Ch.refl _ _), ?_⟩
        refine DR_one 6 (by kernel_rfl) ?_
        refine DO_s rfl rfl rfl ?_
        have _f_93 := (_tr35.ch0 _cw_91)
        refine Step.call (r_call (xs := [.tmp 42]) fk61 rfl) (ih _f_93 (hok.kid ht35) (by have := Tr.kid_sz ht35; omega)) fun _v43 _w_94 _q43 => ?_
        obtain ⟨_p43, rfl, _tr43, _cw_94⟩ := _q43
        have _cw_94z := _cw_94.size
        have E := E.trans _cw_94
        replace _tr43 : TrAt _w_94 _w_91.heap.size _w_94.heap.size _p43 (revT _t35) := _tr43
        obtain ⟨_A_43, _C_43, _ps_43, _hc_43, _hk_43, _kd_43⟩ := _tr43.open
        have _kl_43 := _kd_43.1
        have _S_95 : Ch ((bl (.slice Asv (ps).length Csv)) ++ [_b11]) _w_91 _w_94 := ((Ch.refl _ _).trans _cw_94.of_nil)
        refine ⟨_S_95, ?_⟩
        refine DR_one 7 (by kernel_rfl) ?_
        refine DO_s rfl rfl rfl ?_
        refine s_buildSliceP (parts := [(0, .tmp 43)]) [(_p43 : Addr)] el66 sz59 zr59 rfl rfl (by decide) (by decide) rfl fun _v44 _w_96 _q44 _lo44 _cw_96 => ?_
        have _cw_96z := _cw_96.size
        have E := E.trans _cw_96
        obtain ⟨_Av44, _Cv44, _ev44⟩ := _q44.val
        subst _ev44
        have _lv44 := _q44.len
        have _hiv44 := _q44.lt
        have _S_97 : Ch ((bl (.slice Asv (ps).length Csv)) ++ [_b11]) _w_91 _w_96 := (_S_95.trans _cw_96.of_nil)
        refine ⟨_S_97, ?_⟩
        refine DR_one 8 (by kernel_rfl) ?_
        refine DO_s rfl rfl rfl ?_
        have _f_99 := (((o0_3_4.ch0 _cw_91).ch0 _cw_94).ch0 _cw_96)
        refine s_append (cs := acs) el66 sz59 by59 zr59 rfl (by decide) acs_one _f_99 _q44.ls rfl rfl (by have _h5 := kds.1; simp only [List.length_map, List.length_take] at _h5; simp only [List.length_singleton]; omega) (by have _h5 := kds.1; simp only [List.length_map, List.length_take] at _h5; simp only [List.length_singleton]; omega) lo0_3_4 (by omega) fun _v45 _w_98 _q45 _lo45 _ap45 _cw_98 => ?_
        have _cw_98z := _cw_98.size
        have E := E.step _cw_98 (fun i hi => .inl (by have _h1 := lo0_3_4 _ hi; omega))
        obtain ⟨_Av45, _Cv45, _ev45⟩ := _q45.val
        subst _ev45
        have _lv45 := _q45.len
        have _hiv45 := _q45.lt
        have _S_100 : Ch ((bl (.slice Asv (ps).length Csv)) ++ [_b11]) _w_91 _w_98 := (_S_97.step _cw_98 (fun i hm => by exact .inr (List.mem_append_left _ hm)))
        refine ⟨_S_100, ?_⟩
        refine DR_s 9 rfl (by kernel_rfl) rfl rfl (t_v (fun _ => (r_nilCheck rfl)) ?_)
        refine DR_s 10 rfl (by kernel_rfl) rfl rfl (t_v (fun _ => (r_fieldAddr fa68_1 rfl)) ?_)
        refine DR_one 11 (by kernel_rfl) ?_
        refine DO_s rfl rfl rfl ?_
        have _f_101 := (((_f_92.ch0 _cw_94).ch0 _cw_96).ch _cw_98 (fun hm => by exact _nb0_3_4 (by first | exact hm | exact _h0 ▸ hm)))
        refine s_store1 (off := 4) _f_101 sz66 rfl rfl rfl rfl fun _w_102 _m_103 _cw_102 => ?_
        have _cw_102z := _cw_102.size
        have E := E.step _cw_102 (fun i hi => .inl (by have _h1 := List.mem_singleton.1 hi; omega))
        replace _m_103 : Blk _w_102 _b11 68 [(.int .i64 x.tok.kind), (.int .i64 x.tok.letter), (.int .i64 x.tok.low), (.int .i64 x.tok.high), (.slice _Av45 ((ps ++ [(_p43 : Addr)])).length _Cv45)] := _m_103
        have _S_104 : Ch ((bl (.slice Asv (ps).length Csv)) ++ [_b11]) _w_91 _w_102 := (_S_100.step _cw_102 (fun i hm => by have _h0 := List.mem_singleton.1 hm; exact .inr (by rw [_h0]; exact (List.mem_append_right _ (List.mem_singleton.2 rfl)))))
        refine ⟨_S_104, ?_⟩
        refine DR_done (by kernel_rfl) ?_
        refine inB_nrm ?_
        refine thn_nrm (_hK_87 _ _ ?_)
        clear _hK_87
        refine W_region ?_
        refine WL_step rfl rfl (r_add (by omega) rfl rfl) ?_
        refine WL_step rfl rfl (r_move rfl) ?_
        refine WL_nil ?_
        have _f_105 := (_tr43.ch0 _cw_96)
        have k9 := (KdN.grow kds (by omega) hisv (by omega) ((((Ch.refl [] _wr_83).trans _cw_91).trans _cw_94).trans _cw_96) _f_105 (by omega) (by omega) _cw_98 _ap45).bo _cw_102
        have _f_107 := (_q45.ch _cw_102 (fun g hg hm => by have _h0 := List.mem_singleton.1 hm; rcases _ap45 with ea | ea; (rw [ea] at hg; exact _nb0_3_4 (by first | exact hg | exact _h0 ▸ hg)); (rw [ea] at hg; have _z1 := List.mem_singleton.1 hg; omega)))
        have _on_106 : Ol acs 59 1 _w_102 (.slice _Av45 ((ps ++ [(_p43 : Addr)])).length _Cv45) ((ps ++ [(_p43 : Addr)])) := by
          have hx := _f_107
          exact hx
        have _f_108 := (((((_F0_0.ch0 _cw_91).ch0 _cw_94).ch0 _cw_96).ch _cw_98 (fun i hi => by have _h1 := lo0_3_4 _ hi; omega)).ch _cw_102 (fun i hi => by have _h1 := List.mem_singleton.1 hi; omega))
        exact thn_nrm (Exists.intro ((i + 1), (ps ++ [(_p43 : Addr)]), (.slice _Av45 ((ps ++ [(_p43 : Addr)])).length _Cv45)) ⟨⟨E, (by omega), (by omega), _f_108, _on_106, (Lo.down _lo45 (by omega)), (by rw [take_snoc ht35, List.map_append]; exact k9), _m_103, (fun hm => by rcases _ap45 with ea | ea; (rw [ea] at hm; exact _nb0_3_4 (by first | exact hm | exact _h0 ▸ hm)); (rw [ea] at hm; have _z1 := List.mem_singleton.1 hm; omega))⟩, Sub.cons rfl (Sub.cons rfl (Sub.cons rfl (Sub.cons rfl (Sub.cons rfl (Sub.cons rfl (Sub.nil _)))))), (by first | omega | (dsimp only; omega))⟩)
      · refine DO_s rfl rfl rfl ?_
        have _f_109 := (_tr35.ch0 _cw_91)
        refine Step.call (r_call (xs := [.tmp 42]) fk61 rfl) (ih _f_109 (hok.kid ht35) (by have := Tr.kid_sz ht35; omega)) fun _v43 _w_110 _q43 => ?_
        obtain ⟨_p43, rfl, _tr43, _cw_110⟩ := _q43
        have _cw_110z := _cw_110.size
        have E := E.trans _cw_110
        replace _tr43 : TrAt _w_110 _w_91.heap.size _w_110.heap.size _p43 (revT _t35) := _tr43
        obtain ⟨_A_43, _C_43, _ps_43, _hc_43, _hk_43, _kd_43⟩ := _tr43.open
        have _kl_43 := _kd_43.1
        have _S_111 : Ch ((bl (.slice Asv (ps).length Csv)) ++ [_b11]) _w_91 _w_110 := ((Ch.refl _ _).trans _cw_110.of_nil)
        refine ⟨_S_111, ?_⟩
        refine DR_two 4 7 (by kernel_rfl) ?_ ?_
        · refine DO_s rfl rfl rfl ?_
          have _f_112 := ((_m0_3.ch0 _cw_91).ch0 _cw_110)
          refine s_v (r_loadAt _f_112.at_ agg66 rfl rfl) ?_
          refine ⟨_S_111, ?_⟩
          refine DR_one 7 (by kernel_rfl) ?_
          refine DO_s rfl rfl rfl ?_
          refine s_buildSliceP (parts := [(0, .tmp 43)]) [(_p43 : Addr)] el66 sz59 zr59 rfl rfl (by decide) (by decide) rfl fun _v44 _w_113 _q44 _lo44 _cw_113 => ?_
          have _cw_113z := _cw_113.size
          have E := E.trans _cw_113
          obtain ⟨_Av44, _Cv44, _ev44⟩ := _q44.val
          subst _ev44
          have _lv44 := _q44.len
          have _hiv44 := _q44.lt
          have _S_114 : Ch ((bl (.slice Asv (ps).length Csv)) ++ [_b11]) _w_91 _w_113 := (_S_111.trans _cw_113.of_nil)
          refine ⟨_S_114, ?_⟩
          refine DR_one 8 (by kernel_rfl) ?_
          refine DO_s rfl rfl rfl ?_
          have _f_116 := (((o0_3_4.ch0 _cw_91).ch0 _cw_110).ch0 _cw_113)
          refine s_append (cs := acs) el66 sz59 by59 zr59 rfl (by decide) acs_one _f_116 _q44.ls rfl rfl (by have _h5 := kds.1; simp only [List.length_map, List.length_take] at _h5; simp only [List.length_singleton]; omega) (by have _h5 := kds.1; simp only [List.length_map, List.length_take] at _h5; simp only [List.length_singleton]; omega) lo0_3_4 (by omega) fun _v45 _w_115 _q45 _lo45 _ap45 _cw_115 => ?_
          have _cw_115z := _cw_115.size
          have E := E.step _cw_115 (fun i hi => .inl (by have _h1 := lo0_3_4 _ hi; omega))
          obtain ⟨_Av45, _Cv45, _ev45⟩ := _q45.val
          subst _ev45
          have _lv45 := _q45.len
          have _hiv45 := _q45.lt
          have _S_117 : Ch ((bl (.slice Asv (ps).length Csv)) ++ [_b11]) _w_91 _w_115 := (_S_114.step _cw_115 (fun i hm => by exact .inr (List.mem_append_left _ hm)))
          refine ⟨_S_117, ?_⟩
          refine DR_s 9 rfl (by kernel_rfl) rfl rfl (t_v (fun _ => (r_nilCheck rfl)) ?_)
          refine DR_s 10 rfl (by kernel_rfl) rfl rfl (t_v (fun _ => (r_fieldAddr fa68_1 rfl)) ?_)
          refine DR_one 11 (by kernel_rfl) ?_
          refine DO_s rfl rfl rfl ?_
          have _f_118 := ((_f_112.ch0 _cw_113).ch _cw_115 (fun hm => by exact _nb0_3_4 (by first | exact hm | exact _h0 ▸ hm)))
          refine s_store1 (off := 4) _f_118 sz66 rfl rfl rfl rfl fun _w_119 _m_120 _cw_119 => ?_
          have _cw_119z := _cw_119.size
          have E := E.step _cw_119 (fun i hi => .inl (by have _h1 := List.mem_singleton.1 hi; omega))
          replace _m_120 : Blk _w_119 _b11 68 [(.int .i64 x.tok.kind), (.int .i64 x.tok.letter), (.int .i64 x.tok.low), (.int .i64 x.tok.high), (.slice _Av45 ((ps ++ [(_p43 : Addr)])).length _Cv45)] := _m_120
          have _S_121 : Ch ((bl (.slice Asv (ps).length Csv)) ++ [_b11]) _w_91 _w_119 := (_S_117.step _cw_119 (fun i hm => by have _h0 := List.mem_singleton.1 hm; exact .inr (by rw [_h0]; exact (List.mem_append_right _ (List.mem_singleton.2 rfl)))))
          refine ⟨_S_121, ?_⟩
          refine DR_done (by kernel_rfl) ?_
          refine inB_nrm ?_
          refine thn_nrm (_hK_87 _ _ ?_)
          clear _hK_87
          refine W_region ?_
          refine WL_step rfl rfl (r_add (by omega) rfl rfl) ?_
          refine WL_step rfl rfl (r_move rfl) ?_
          refine WL_nil ?_
          have _f_122 := (_tr43.ch0 _cw_113)
          have k9 := (KdN.grow kds (by omega) hisv (by omega) ((((Ch.refl [] _wr_83).trans _cw_91).trans _cw_110).trans _cw_113) _f_122 (by omega) (by omega) _cw_115 _ap45).bo _cw_119
          have _f_124 := (_q45.ch _cw_119 (fun g hg hm => by have _h0 := List.mem_singleton.1 hm; rcases _ap45 with ea | ea; (rw [ea] at hg; exact _nb0_3_4 (by first | exact hg | exact _h0 ▸ hg)); (rw [ea] at hg; have _z1 := List.mem_singleton.1 hg; omega)))
          have _on_123 : Ol acs 59 1 _w_119 (.slice _Av45 ((ps ++ [(_p43 : Addr)])).length _Cv45) ((ps ++ [(_p43 : Addr)])) := by
            have hx := _f_124
            exact hx
          have _f_125 := (((((_F0_0.ch0 _cw_91).ch0 _cw_110).ch0 _cw_113).ch _cw_115 (fun i hi => by have _h1 := lo0_3_4 _ hi; omega)).ch _cw_119 (fun i hi => by have _h1 := List.mem_singleton.1 hi; omega))
          exact thn_nrm (Exists.intro ((i + 1), (ps ++ [(_p43 : Addr)]), (.slice _Av45 ((ps ++ [(_p43 : Addr)])).length _Cv45)) ⟨⟨E, (by omega), (by omega), _f_125, _on_123, (Lo.down _lo45 (by omega)), (by rw [take_snoc ht35, List.map_append]; exact k9), _m_120, (fun hm => by rcases _ap45 with ea | ea; (rw [ea] at hm; exact _nb0_3_4 (by first | exact hm | exact _h0 ▸ hm)); (rw [ea] at hm; have _z1 := List.mem_singleton.1 hm; omega))⟩, Sub.cons rfl (Sub.cons rfl (Sub.cons rfl (Sub.cons rfl (Sub.cons rfl (Sub.cons rfl (Sub.nil _)))))), (by first | omega | (dsimp only; omega))⟩)
        · refine DO_s rfl rfl rfl ?_
          refine s_buildSliceP (parts := [(0, .tmp 43)]) [(_p43 : Addr)] el66 sz59 zr59 rfl rfl (by decide) (by decide) rfl fun _v44 _w_126 _q44 _lo44 _cw_126 => ?_
          have _cw_126z := _cw_126.size
          have E := E.trans _cw_126
          obtain ⟨_Av44, _Cv44, _ev44⟩ := _q44.val
          subst _ev44
          have _lv44 := _q44.len
          have _hiv44 := _q44.lt
          have _S_127 : Ch ((bl (.slice Asv (ps).length Csv)) ++ [_b11]) _w_91 _w_126 := (_S_111.trans _cw_126.of_nil)
          refine ⟨_S_127, ?_⟩
          refine DR_one 4 (by kernel_rfl) ?_
          refine DO_s rfl rfl rfl ?_
          have _f_128 := (((_m0_3.ch0 _cw_91).ch0 _cw_110).ch0 _cw_126)
          refine s_v (r_loadAt _f_128.at_ agg66 rfl rfl) ?_
          refine ⟨_S_127, ?_⟩
          refine DR_one 8 (by kernel_rfl) ?_
          refine DO_s rfl rfl rfl ?_
          have _f_130 := (((o0_3_4.ch0 _cw_91).ch0 _cw_110).ch0 _cw_126)
          refine s_append (cs := acs) el66 sz59 by59 zr59 rfl (by decide) acs_one _f_130 _q44.ls rfl rfl (by have _h5 := kds.1; simp only [List.length_map, List.length_take] at _h5; simp only [List.length_singleton]; omega) (by have _h5 := kds.1; simp only [List.length_map, List.length_take] at _h5; simp only [List.length_singleton]; omega) lo0_3_4 (by omega) fun _v45 _w_129 _q45 _lo45 _ap45 _cw_129 => ?_
          have _cw_129z := _cw_129.size
          have E := E.step _cw_129 (fun i hi => .inl (by have _h1 := lo0_3_4 _ hi; omega))
          obtain ⟨_Av45, _Cv45, _ev45⟩ := _q45.val
          subst _ev45
          have _lv45 := _q45.len
          have _hiv45 := _q45.lt
          have _S_131 : Ch ((bl (.slice Asv (ps).length Csv)) ++ [_b11]) _w_91 _w_129 := (_S_127.step _cw_129 (fun i hm => by exact .inr (List.mem_append_left _ hm)))
          refine ⟨_S_131, ?_⟩
          refine DR_s 9 rfl (by kernel_rfl) rfl rfl (t_v (fun _ => (r_nilCheck rfl)) ?_)
          refine DR_s 10 rfl (by kernel_rfl) rfl rfl (t_v (fun _ => (r_fieldAddr fa68_1 rfl)) ?_)
          refine DR_one 11 (by kernel_rfl) ?_
          refine DO_s rfl rfl rfl ?_
          have _f_132 := (_f_128.ch _cw_129 (fun hm => by exact _nb0_3_4 (by first | exact hm | exact _h0 ▸ hm)))
          refine s_store1 (off := 4) _f_132 sz66 rfl rfl rfl rfl fun _w_133 _m_134 _cw_133 => ?_
          have _cw_133z := _cw_133.size
          have E := E.step _cw_133 (fun i hi => .inl (by have _h1 := List.mem_singleton.1 hi; omega))
          replace _m_134 : Blk _w_133 _b11 68 [(.int .i64 x.tok.kind), (.int .i64 x.tok.letter), (.int .i64 x.tok.low), (.int .i64 x.tok.high), (.slice _Av45 ((ps ++ [(_p43 : Addr)])).length _Cv45)] := _m_134
          have _S_135 : Ch ((bl (.slice Asv (ps).length Csv)) ++ [_b11]) _w_91 _w_133 := (_S_131.step _cw_133 (fun i hm => by have _h0 := List.mem_singleton.1 hm; exact .inr (by rw [_h0]; exact (List.mem_append_right _ (List.mem_singleton.2 rfl)))))
          refine ⟨_S_135, ?_⟩
          refine DR_done (by kernel_rfl) ?_
          refine inB_nrm ?_
          refine thn_nrm (_hK_87 _ _ ?_)
          clear _hK_87
          refine W_region ?_
          refine WL_step rfl rfl (r_add (by omega) rfl rfl) ?_
          refine WL_step rfl rfl (r_move rfl) ?_
          refine WL_nil ?_
          have _f_136 := (_tr43.ch0 _cw_126)
          have k9 := (KdN.grow kds (by omega) hisv (by omega) ((((Ch.refl [] _wr_83).trans _cw_91).trans _cw_110).trans _cw_126) _f_136 (by omega) (by omega) _cw_129 _ap45).bo _cw_133
          have _f_138 := (_q45.ch _cw_133 (fun g hg hm => by have _h0 := List.mem_singleton.1 hm; rcases _ap45 with ea | ea; (rw [ea] at hg; exact _nb0_3_4 (by first | exact hg | exact _h0 ▸ hg)); (rw [ea] at hg; have _z1 := List.mem_singleton.1 hg; omega)))
          have _on_137 : Ol acs 59 1 _w_133 (.slice _Av45 ((ps ++ [(_p43 : Addr)])).length _Cv45) ((ps ++ [(_p43 : Addr)])) := by
            have hx := _f_138
            exact hx
          have _f_139 := (((((_F0_0.ch0 _cw_91).ch0 _cw_110).ch0 _cw_126).ch _cw_129 (fun i hi => by have _h1 := lo0_3_4 _ hi; omega)).ch _cw_133 (fun i hi => by have _h1 := List.mem_singleton.1 hi; omega))
          exact thn_nrm (Exists.intro ((i + 1), (ps ++ [(_p43 : Addr)]), (.slice _Av45 ((ps ++ [(_p43 : Addr)])).length _Cv45)) ⟨⟨E, (by omega), (by omega), _f_139, _on_137, (Lo.down _lo45 (by omega)), (by rw [take_snoc ht35, List.map_append]; exact k9), _m_134, (fun hm => by rcases _ap45 with ea | ea; (rw [ea] at hm; exact _nb0_3_4 (by first | exact hm | exact _h0 ▸ hm)); (rw [ea] at hm; have _z1 := List.mem_singleton.1 hm; omega))⟩, Sub.cons rfl (Sub.cons rfl (Sub.cons rfl (Sub.cons rfl (Sub.cons rfl (Sub.cons rfl (Sub.nil _)))))), (by first | omega | (dsimp only; omega))⟩)
    · have _kb_86 := _h34
      have _h34 := bf_d _h34
      refine W_exit (thn_exit (thn_exit (inB_hit ?_)))
      refine thn_nrm (_hK_80 _ _ ?_)
      clear _hK_80
      refine W_seq fun _K_140 _hK_140 => ?_
      refine W_seq fun _K_141 _hK_141 => ?_
      refine W_region ?_
      refine WL_step rfl rfl (r_move rfl) ?_
      refine WL_step rfl rfl (r_nilCheck rfl) ?_
      refine WL_step rfl rfl (r_fieldAddr fa68_0 rfl) ?_
      refine WL_step rfl rfl (r_fieldAddrN (n := 0) fa57_0 rfl rfl) ?_
      refine WL_step rfl rfl (r_loadAt _F0_0 agg3 rfl rfl) ?_
      refine WL_step rfl rfl (r_eql rfl rfl) ?_
      refine WL_nil ?_
      refine thn_nrm (_hK_141 _ _ ?_)
      clear _hK_141
      refine W_cond rfl (fun _h54 => ?_) (fun _h54 => ?_)
      · have _kb_142 := _h54
        have _h54 := bt_d _h54
        refine W_region ?_
        refine WL_step rfl rfl (r_move rfl) ?_
        refine WL_step rfl rfl (r_nilCheck rfl) ?_
        refine WL_step rfl rfl (r_fieldAddr fa68_1 rfl) ?_
        refine WL_step rfl rfl (r_loadAt _m0_3.at_ agg66 rfl rfl) ?_
        refine WL_s rfl rfl ?_
        refine Step.call (r_call (xs := [.tmp 58]) fk87 rfl) (c_slices_Reverse_impl_tree_impl_tree o0_3_4 ) fun _v59 _w_143 _q59 => ?_
        obtain ⟨rfl, _q59, _cw_143⟩ := _q59
        have _cw_143z := _cw_143.size
        have E := E.step _cw_143 (fun i hi => .inl (by have _h1 := lo0_3_4 _ hi; omega))
        refine WL_nil ?_
        refine thn_nrm (_hK_140 _ _ ?_)
        clear _hK_140
        refine W_seq fun _K_144 _hK_144 => ?_
        refine W_region ?_
        refine WL_step rfl rfl (r_move rfl) ?_
        refine WL_step rfl rfl (r_assign rfl) ?_
        refine WL_nil ?_
        refine thn_nrm (_hK_144 _ _ ?_)
        clear _hK_144
        refine W_ret ?_
        clear _hK_85
        have _f_145 := (_m0_3.ch _cw_143 (fun hm => by exact _nb0_3_4 (by first | exact hm | exact _h0 ▸ hm)))
        exact ret_intro [_] ⟨rfl, trivial⟩ ⟨_, rfl, (rev_done (k := ⟨x.tok.kind, x.tok.letter, x.tok.low, x.tok.high⟩) (KdF.rev (KdN.row kds _cw_143)) _f_145 (by omega) _q59 (Lo.down lo0_3_4 (by omega)) (by omega) hok (by unfold revK; first | (rw [if_pos (by omega)]; done) | (rw [if_neg (by omega)]; done)) (by rw [List.take_of_length_le (by omega)]; first | (rw [if_pos (by omega)]; done) | (rw [if_neg (by omega)]; done))), E⟩
      · have _kb_142 := _h54
        have _h54 := bf_d _h54
        refine W_skip ?_
        refine thn_nrm (_hK_140 _ _ ?_)
        clear _hK_140
        refine W_seq fun _K_146 _hK_146 => ?_
        refine W_region ?_
        refine WL_step rfl rfl (r_move rfl) ?_
        refine WL_step rfl rfl (r_assign rfl) ?_
        refine WL_nil ?_
        refine thn_nrm (_hK_146 _ _ ?_)
        clear _hK_146
        refine W_ret ?_
        clear _hK_85
        exact ret_intro [_] ⟨rfl, trivial⟩ ⟨_, rfl, (rev_done (k := ⟨x.tok.kind, x.tok.letter, x.tok.low, x.tok.high⟩) kds _m0_3 (by omega) o0_3_4 (Lo.down lo0_3_4 (by omega)) (by omega) hok (by unfold revK; first | (rw [if_pos (by omega)]; done) | (rw [if_neg (by omega)]; done)) (by rw [List.take_of_length_le (by omega)]; first | (rw [if_pos (by omega)]; done) | (rw [if_neg (by omega)]; done))), E⟩
theorem c_impl_tree_reverse {w : World} {LT_x _B_x : Nat} {p_x : Addr} {x : Tr} (_h_x : TrAt w LT_x _B_x p_x x) (hok : Okd x) :
    Ctr Try.prog 61 #[(.pointer (some p_x))] w (fun v w' => ∃ p, v = .pointer (some p) ∧ TrAt w' w.heap.size w'.heap.size p (revT x) ∧ Ch [] w w') := c_impl_tree_reverse_n _ _h_x hok (Nat.lt_succ_self _)

/-- impl.ReverseExpr -/
theorem c_impl_ReverseExpr {w : World} {LL_e _B_e : Nat} {_v_e : Value} {e : List Token} (_h_e : Ls Token.cs 4 w LL_e _B_e _v_e e) (hb : e.length ≤ 1048576) :
    Ctr Try.prog 28 #[(.agg #[_v_e])] w (fun v w' => ∃ (u0x0 : Value), v = .tuple #[.agg #[u0x0], .bool ((revE e).2)] ∧ Ol Token.cs 57 4 w' u0x0 ((revE e).1) ∧ Lo w.heap.size u0x0 ∧ Ch [] w w') := by
  obtain ⟨_A_e, _C_e, _e1_e⟩ := _h_e.val
  subst _e1_e
  have _l_e := _h_e.len
  have _h_e := _h_e.here (by decide)
  have E := Ch.refl [] w
  refine Ctr_of_W (N := 13) (vs0 := [(.agg #[(.slice _A_e e.length _C_e)])]) Try.func28 rfl rfl rfl ?_
  refine W_seq fun _K_1 _hK_1 => ?_
  refine W_region ?_
  refine WL_s rfl rfl ?_
  refine s_box rfl fun _b1 _w_2 _m1 _cw_2 _e1 => ?_
  have _cw_2z := _cw_2.size
  have E := E.trans _cw_2
  have _z1 := _m1.lt
  replace _m1 : Blk _w_2 _b1 29 [(.slice _A_e e.length _C_e)] := _m1
  refine WL_s rfl rfl ?_
  refine s_alloc zr29 fun _b2 _w_3 _m2 _cw_3 _e2 => ?_
  have _cw_3z := _cw_3.size
  have E := E.trans _cw_3
  have _z2 := _m2.lt
  replace _m2 : Blk _w_3 _b2 29 [(.slice none 0 0)] := _m2
  refine WL_step rfl rfl (r_assign rfl) ?_
  refine WL_nil ?_
  refine thn_nrm (_hK_1 _ _ ?_)
  clear _hK_1
  refine W_seq fun _K_4 _hK_4 => ?_
  refine W_region ?_
  have _f_5 := (_m1.ch0 _cw_3)
  refine WL_step rfl rfl (r_loadAtA0 _f_5.at_ agg29 sz29 rfl) ?_
  refine WL_s rfl rfl ?_
  have _f_6 := ((_h_e.ch0 _cw_2).ch0 _cw_3)
  refine Step.call (r_call (xs := [.tmp 5]) fk51 rfl) (c_impl_treeOf _f_6 (by omega)) fun _v6 _w_7 _q6 => ?_
  obtain ⟨_q6, _cw_7⟩ := _q6
  have _cw_7z := _cw_7.size
  have E := E.trans _cw_7
  rcases _q6 with ⟨_e6, rfl⟩ | ⟨tt6, _p6, _e6, rfl, _tr6⟩
  · first | have _z6 := treeL_sz _e6 | skip
    first | have r6 := revT_sz tt6 | skip
    refine WL_step rfl rfl (r_assign rfl) ?_
    refine WL_nil ?_
    refine thn_nrm (_hK_4 _ _ ?_)
    clear _hK_4
    refine W_seq fun _K_8 _hK_8 => ?_
    refine W_seq fun _K_9 _hK_9 => ?_
    refine W_region ?_
    refine WL_step rfl rfl (r_move rfl) ?_
    refine WL_step rfl rfl (r_eqPN ptr59 rfl rfl) ?_
    refine WL_nil ?_
    refine thn_nrm (_hK_9 _ _ ?_)
    clear _hK_9
    refine W_condT rfl ?_
    refine W_seq fun _K_10 _hK_10 => ?_
    refine W_region ?_
    refine WL_step rfl rfl (r_build (parts := []) (cells := [(.slice none 0 0)]) zr29 pl29 rfl rfl) ?_
    refine WL_s rfl rfl ?_
    have _f_11 := (_m2.ch0 _cw_7)
    refine s_storeA (off := 0) 1 _f_11 sz29 rfl (us := [(.slice none 0 0)]) rfl rfl rfl rfl fun _w_12 _m_13 _cw_12 => ?_
    have _cw_12z := _cw_12.size
    have E := E.step _cw_12 (fun i hi => .inl (by have _h1 := List.mem_singleton.1 hi; omega))
    replace _m_13 : Blk _w_12 _b2 29 [(.slice none 0 0)] := _m_13
    refine WL_step rfl rfl (r_assign rfl) ?_
    refine WL_nil ?_
    refine thn_nrm (_hK_10 _ _ ?_)
    clear _hK_10
    refine W_ret (thn_ret ?_)
    clear _hK_8
    have _o_14 : Ol Token.cs 57 4 _w_12 (.slice none 0 0) ((revE e).1) := by
      have hx := (Ol.nil (cs := Token.cs) (e := 57) (k := 4) _w_12)
      first | (rw [revE_n _e6]; exact hx) | (rw [revE_y _e6]; exact hx)
    exact ret_intro [_, _] (resOf_loadA _m_13 rfl agg29 sz29 ⟨rfl, trivial⟩) ⟨(.slice none 0 0), (congrArg (fun zq => (Value.tuple #[.agg #[(.slice none 0 0)], .bool zq])) (by first | (rw [revE_n _e6]; done) | (rw [revE_y _e6]; done))), _o_14, (Lo.nil _), E⟩
  · replace _tr6 : TrAt _w_7 _w_3.heap.size _w_7.heap.size _p6 tt6 := _tr6
    obtain ⟨_A_6, _C_6, _ps_6, _hc_6, _hk_6, _kd_6⟩ := _tr6.open
    have _kl_6 := _kd_6.1
    first | have _z6 := treeL_sz _e6 | skip
    first | have r6 := revT_sz tt6 | skip
    refine WL_step rfl rfl (r_assign rfl) ?_
    refine WL_nil ?_
    refine thn_nrm (_hK_4 _ _ ?_)
    clear _hK_4
    refine W_seq fun _K_15 _hK_15 => ?_
    refine W_seq fun _K_16 _hK_16 => ?_
    refine W_region ?_
    refine WL_step rfl rfl (r_move rfl) ?_
    refine WL_step rfl rfl (r_eqPN ptr59 rfl rfl) ?_
    refine WL_nil ?_
    refine thn_nrm (_hK_16 _ _ ?_)
    clear _hK_16
    refine W_condF rfl ?_
    refine W_skip ?_
    refine thn_nrm (_hK_15 _ _ ?_)
    clear _hK_15
    refine W_seq fun _K_17 _hK_17 => ?_
    refine W_region ?_
    refine WL_step rfl rfl (r_move rfl) ?_
    refine WL_s rfl rfl ?_
    refine Step.call (r_call (xs := [.tmp 10]) fk61 rfl) (c_impl_tree_reverse _tr6 (treeL_ok _e6).1) fun _v11 _w_18 _q11 => ?_
    obtain ⟨_p11, rfl, _tr11, _cw_18⟩ := _q11
    have _cw_18z := _cw_18.size
    have E := E.trans _cw_18
    replace _tr11 : TrAt _w_18 _w_7.heap.size _w_18.heap.size _p11 (revT tt6) := _tr11
    obtain ⟨_A_11, _C_11, _ps_11, _hc_11, _hk_11, _kd_11⟩ := _tr11.open
    have _kl_11 := _kd_11.1
    refine WL_s rfl rfl ?_
    refine Step.call (r_call (xs := [.tmp 11]) fk57 rfl) (c_impl_tree_expr _tr11 (by omega)) fun _v12 _w_19 _q12 => ?_
    obtain ⟨_u12, rfl, _q12, _lo12, _cw_19⟩ := _q12
    have _cw_19z := _cw_19.size
    have E := E.trans _cw_19
    obtain ⟨_Au12, _Cu12, _eu12⟩ := _q12.val
    subst _eu12
    have _lu12 := _q12.len
    have _hiu12 := _q12.lt
    refine WL_s rfl rfl ?_
    have _f_20 := (((_m2.ch0 _cw_7).ch0 _cw_18).ch0 _cw_19)
    refine s_storeA (off := 0) 1 _f_20 sz29 rfl (us := [(.slice _Au12 ((revT tt6).flat).length _Cu12)]) rfl rfl rfl rfl fun _w_21 _m_22 _cw_21 => ?_
    have _cw_21z := _cw_21.size
    have E := E.step _cw_21 (fun i hi => .inl (by have _h1 := List.mem_singleton.1 hi; omega))
    replace _m_22 : Blk _w_21 _b2 29 [(.slice _Au12 ((revT tt6).flat).length _Cu12)] := _m_22
    refine WL_step rfl rfl (r_assign rfl) ?_
    refine WL_nil ?_
    refine thn_nrm (_hK_17 _ _ ?_)
    clear _hK_17
    refine W_ret ?_
    have _f_23 := (_q12.ch _cw_21 (fun g hg hm => by have _h0 := List.mem_singleton.1 hm; have _h2 := _lo12 _ hg; have _h3 := _hiu12 _ hg; omega))
    have _o_24 : Ol Token.cs 57 4 _w_21 (.slice _Au12 ((revT tt6).flat).length _Cu12) ((revE e).1) := by
      have hx := _f_23
      first | (rw [revE_n _e6]; exact hx) | (rw [revE_y _e6]; exact hx)
    exact ret_intro [_, _] (resOf_loadA _m_22 rfl agg29 sz29 ⟨rfl, trivial⟩) ⟨(.slice _Au12 ((revT tt6).flat).length _Cu12), (congrArg (fun zq => (Value.tuple #[.agg #[(.slice _Au12 ((revT tt6).flat).length _Cu12)], .bool zq])) (by first | (rw [revE_n _e6]; done) | (rw [revE_y _e6]; done))), _o_24, (Lo.down _lo12 (by omega)), E⟩

/-- spec.IsMove -/
theorem c_spec_IsMove {w : World} (n : Int) :
    Ctr Try.prog 110 #[(.int .i64 n)] w (fun v w' => v = .bool (decide (0 ≤ n ∧ n ≤ 5)) ∧ Ch [] w w') := by
  have E := Ch.refl [] w
  refine Ctr_of_W (N := 5) (vs0 := [(.int .i64 n)]) Try.func110 rfl rfl rfl ?_
  refine W_seq fun _K_1 _hK_1 => ?_
  refine W_region ?_
  refine WL_step rfl rfl (r_assign rfl) ?_
  refine WL_nil ?_
  refine thn_nrm (_hK_1 _ _ ?_)
  clear _hK_1
  refine W_seq fun _K_2 _hK_2 => ?_
  refine W_region ?_
  refine WL_step rfl rfl (r_move rfl) ?_
  refine WL_s rfl rfl ?_
  refine Step.call (r_call (xs := [.tmp 3, .const (Go.Value.int Go.IntKind.i64 0), .const (Go.Value.int Go.IntKind.i64 5)]) fk79 rfl) (c_spec_l1In _ _ _ ) fun _v4 _w_3 _q4 => ?_
  obtain ⟨rfl, _cw_3⟩ := _q4
  have _cw_3z := _cw_3.size
  have E := E.trans _cw_3
  refine WL_step rfl rfl (r_assign rfl) ?_
  refine WL_nil ?_
  refine thn_nrm (_hK_2 _ _ ?_)
  clear _hK_2
  refine W_ret ?_
  exact ret_intro [_] ⟨rfl, trivial⟩ ⟨congrArg Value.bool rfl, E⟩

/-- spec.InverseLetter -/
theorem c_spec_InverseLetter {w : World} (n : Int) :
    Ctr Try.prog 85 #[(.int .i64 n)] w (fun v w' => v = .int .i64 (invL n) ∧ Ch [] w w') := by
  have E := Ch.refl [] w
  refine Ctr_of_W (N := 9) (vs0 := [(.int .i64 n)]) Try.func85 rfl rfl rfl ?_
  refine W_seq fun _K_1 _hK_1 => ?_
  refine W_region ?_
  refine WL_step rfl rfl (r_assign rfl) ?_
  refine WL_nil ?_
  refine thn_nrm (_hK_1 _ _ ?_)
  clear _hK_1
  refine W_seq fun _K_2 _hK_2 => ?_
  refine W_seq fun _K_3 _hK_3 => ?_
  refine W_region ?_
  refine WL_step rfl rfl (r_move rfl) ?_
  refine WL_s rfl rfl ?_
  refine Step.call (r_call (xs := [.tmp 3]) fk110 rfl) (c_spec_IsMove _ ) fun _v4 _w_4 _q4 => ?_
  obtain ⟨rfl, _cw_4⟩ := _q4
  have _cw_4z := _cw_4.size
  have E := E.trans _cw_4
  refine WL_step rfl rfl (r_not rfl) ?_
  refine WL_nil ?_
  refine thn_nrm (_hK_3 _ _ ?_)
  clear _hK_3
  refine W_cond rfl (fun _h5 => ?_) (fun _h5 => ?_)
  · have _kb_5 := _h5
    have _h5 := bf_d (bt_n _h5)
    refine W_seq fun _K_6 _hK_6 => ?_
    refine W_region ?_
    refine WL_step rfl rfl (r_move rfl) ?_
    refine WL_step rfl rfl (r_assign rfl) ?_
    refine WL_nil ?_
    refine thn_nrm (_hK_6 _ _ ?_)
    clear _hK_6
    refine W_ret (thn_ret ?_)
    clear _hK_2
    exact ret_intro [_] ⟨rfl, trivial⟩ ⟨congrArg (Value.int .i64) (by unfold invL; first | rw [if_pos (by omega)] | rw [if_neg (by omega)]), E⟩
  · have _kb_5 := _h5
    have _h5 := bt_d (bf_n _h5)
    refine W_skip ?_
    refine thn_nrm (_hK_2 _ _ ?_)
    clear _hK_2
    refine W_seq fun _K_7 _hK_7 => ?_
    refine W_region ?_
    refine WL_step rfl rfl (r_move rfl) ?_
    refine WL_step rfl rfl (r_xor rfl rfl) ?_
    refine WL_step rfl rfl (r_assign rfl) ?_
    refine WL_nil ?_
    refine thn_nrm (_hK_7 _ _ ?_)
    clear _hK_7
    refine W_ret ?_
    exact ret_intro [_] ⟨rfl, trivial⟩ ⟨congrArg (Value.int .i64) (by unfold invL; first | rw [if_pos (by omega)] | rw [if_neg (by omega)]), E⟩

/-- spec.l8Reverse -/
theorem c_spec_l8Reverse_n : ∀ (n : Nat) {w : World} {LL_l _B_l : Nat} {_v_l : Value} {l : List Token} (_h_l : Ls Token.cs 4 w LL_l _B_l _v_l l) (t : Tr) (hok : Okd t) (hl : l = t.flat) (hb : l.length ≤ 4194304) (hsz : l.length < n),
    Ctr Try.prog 60 #[_v_l] w (fun v w' => Ol Token.cs 57 4 w' v ((revT t).flat) ∧ Lo w.heap.size v ∧ Ch [] w w') := by
  intro n
  induction n with
  | zero => intros; omega
  | succ n ih =>
  intro w LL_l _B_l _v_l l _h_l t hok hl hb hsz
  obtain ⟨_A_l, _C_l, _e1_l⟩ := _h_l.val
  subst _e1_l
  have _l_l := _h_l.len
  have _h_l := _h_l.here (by decide)
  have E := Ch.refl [] w
  have hn1 := t.flat_pos; rw [← hl] at hn1; have k2 := t.kids_le
  refine Ctr_of_W (N := 68) (vs0 := [(.slice _A_l l.length _C_l)]) Try.func60 rfl rfl rfl ?_
  refine W_seq fun _K_1 _hK_1 => ?_
  refine W_region ?_
  refine WL_step rfl rfl (r_assign rfl) ?_
  refine WL_nil ?_
  refine thn_nrm (_hK_1 _ _ ?_)
  clear _hK_1
  refine W_seq fun _K_2 _hK_2 => ?_
  refine W_region ?_
  refine WL_step rfl rfl (r_move rfl) ?_
  refine WL_step rfl rfl (r_len (by rw [el27]; rfl) rfl) ?_
  refine WL_step rfl rfl (r_sub (by omega) rfl rfl) ?_
  refine WL_step rfl rfl (r_assign rfl) ?_
  refine WL_nil ?_
  refine thn_nrm (_hK_2 _ _ ?_)
  clear _hK_2
  refine W_seq fun _K_3 _hK_3 => ?_
  refine W_region ?_
  refine WL_step rfl rfl (r_move rfl) ?_
  refine WL_step rfl rfl (r_move rfl) ?_
  refine WL_s rfl rfl ?_
  refine (s_index (j := (((l.length : Nat) : Int) - 1).toNat) _h_l Token.len el27 sz57 rfl rfl (by omega) (by omega) fun _p11 _y11 _hy11 _a11 => ?_)
  have _ht := last_tok hl (by omega) _hy11
  have htk := congrArg Token.kind _ht
  have htl := congrArg Token.low _ht
  have hth := congrArg Token.high _ht
  refine WL_step rfl rfl (r_loadAtA0 _a11 agg57 sz57 rfl) ?_
  refine WL_s rfl rfl ?_
  refine s_alloc zr57 fun _b4 _w_4 _m4 _cw_4 _e4 => ?_
  have _cw_4z := _cw_4.size
  have E := E.trans _cw_4
  have _z4 := _m4.lt
  replace _m4 : Blk _w_4 _b4 57 [(.int .i64 0), (.int .i64 0), (.int .i64 0), (.int .i64 0)] := _m4
  refine WL_s rfl rfl ?_
  refine s_storeA (off := 0) 4 _m4 sz57 rfl (us := [(.int .i64 _y11.kind), (.int .i64 _y11.letter), (.int .i64 _y11.low), (.int .i64 _y11.high)]) rfl rfl rfl rfl fun _w_5 _m_6 _cw_5 => ?_
  have _cw_5z := _cw_5.size
  have E := E.step _cw_5 (fun i hi => .inl (by have _h1 := List.mem_singleton.1 hi; omega))
  replace _m_6 : Blk _w_5 _b4 57 [(.int .i64 _y11.kind), (.int .i64 _y11.letter), (.int .i64 _y11.low), (.int .i64 _y11.high)] := _m_6
  refine WL_nil ?_
  refine thn_nrm (_hK_3 _ _ ?_)
  clear _hK_3
  refine W_seq fun _K_7 _hK_7 => ?_
  refine W_seq fun _K_8 _hK_8 => ?_
  refine W_region ?_
  refine WL_step rfl rfl (r_loadAtA0 _m_6.at_ agg57 sz57 rfl) ?_
  refine WL_s rfl rfl ?_
  refine Step.call (r_call (xs := [.tmp 13]) fk49 rfl) (c_spec_l8Arity _y11 ) fun _v14 _w_9 _q14 => ?_
  obtain ⟨rfl, _cw_9⟩ := _q14
  have _cw_9z := _cw_9.size
  have E := E.trans _cw_9
  have _a14 : arT _y11 = t.kids.length := by rw [_ht]; exact hok.ar
  refine WL_nil ?_
  refine thn_nrm (_hK_8 _ _ ?_)
  clear _hK_8
  refine W_block ?_
  refine W_seq fun _K_10 _hK_10 => ?_
  refine W_region ?_
  refine WL_step rfl rfl (r_eql rfl rfl) ?_
  refine WL_step rfl rfl (r_assign rfl) ?_
  refine WL_nil ?_
  refine thn_nrm (_hK_10 _ _ ?_)
  clear _hK_10
  refine W_cond rfl (fun _h15 => ?_) (fun _h15 => ?_)
  · have _kb_11 := _h15
    have _h15 := bt_d _h15
    obtain ⟨ta, et, oa, hla, hn2⟩ := hok.k1 (by omega) _ht hl
    have _hk0 : t.kids[0]? = some ta := by rw [et]; rfl
    have ga := ta.flat_len
    have fa := (revT ta).flat_len
    have ra := revT_sz ta
    have ga := ta.flat_len
    refine W_seq fun _K_12 _hK_12 => ?_
    have _J_14 : ∀ (lj : KL) (_wj_13 : World) (ju2 : Value), Go.KLib.Sub [(0, (.slice _A_l l.length _C_l)), (2, ju2), (3, (.int .i64 (((l.length : Nat) : Int) - 1))), (4, (.pointer (some ⟨_b4, 0, none⟩))), (14, (.int .i64 (arT _y11)))] lj → Ch [] _w_9 _wj_13 → Ol Token.cs 57 4 _wj_13 ju2 ((revT ta).flat ++ [_y11]) → Lo _w_9.heap.size ju2 → _K_12 lj _wj_13 := by
      intro lj _wj_13 ju2 _jsub _cjK_12 _qju2 _loju2
      refine _hK_12 _ _ (W_sub _jsub ?_)
      clear _hK_12
      have _cjK_12z := _cjK_12.size
      have E := E.trans _cjK_12
      obtain ⟨_Aju2, _Cju2, _eju2⟩ := _qju2.val
      subst _eju2
      have _lju2 := _qju2.len
      have _hiju2 := _qju2.lt
      refine W_ret (inB_ret (thn_ret ?_))
      clear _hK_7
      have _o_15 : Ol Token.cs 57 4 _wj_13 (.slice _Aju2 (((revT ta).flat ++ [_y11])).length _Cju2) ((revT t).flat) := by
        have hx := _qju2
        exact hx.eq (by rw [et]; first | exact (revT_l1 _ _).symm | exact (revT_l2a (by omega)).symm | exact (revT_l2b (by omega)).symm | exact revT_0y (by omega) | exact revT_0n (by omega))
      exact ret_intro [_] ⟨rfl, trivial⟩ ⟨_o_15, Lo.down _loju2 (by omega), E⟩
    clear _hK_12
    refine W_drawC [] 8 mixed rfl fun _w_16 _cw_16 => ?_
    have _cw_16z := _cw_16.size
    have E := E.trans _cw_16
    refine DR_s 0 rfl (by kernel_rfl) rfl rfl (t_v (fun _ => (r_move rfl)) ?_)
    refine DR_s 1 rfl (by kernel_rfl) rfl rfl (t_v (fun _ => (r_move rfl)) ?_)
    have _f_17 := ((((_h_l.ch0 _cw_4).ch _cw_5 (fun i hi => by have _h1 := List.mem_singleton.1 hi; omega)).ch0 _cw_9).ch0 _cw_16)
    refine DR_s 2 rfl (by kernel_rfl) rfl rfl (t_cut (ys := (l.take ((((l.length : Nat) : Int) - 1).toNat))) 0 ((((l.length : Nat) : Int) - 1).toNat) _f_17 Token.len el27 sz57 rfl rfl ⟨_, _, rfl, by omega⟩ (by omega) (by omega) rfl fun _v19 _q19 _bb19 _ln19 => ?_)
    obtain ⟨_A19, _C19, _e19⟩ := _q19.val
    subst _e19
    have _l19 := _q19.len
    have _f_18 := ((_m_6.ch0 _cw_9).ch0 _cw_16)
    refine DR_s 4 rfl (by kernel_rfl) rfl rfl (t_loadAtA0 _f_18.at_ (fun i hi => absurd hi List.not_mem_nil) agg57 sz57 rfl ?_)
    refine DR_two 3 5 (by kernel_rfl) ?_ ?_
    · refine DO_s rfl rfl rfl ?_
      refine Step.call (r_call (xs := [.tmp 19]) fk60 rfl) (ih _q19 ta oa (cut_1 hla (by omega)) (by simp only [List.length_take, List.length_drop]; omega) (by simp only [List.length_take, List.length_drop]; omega)) fun _v20 _w_19 _q20 => ?_
      obtain ⟨_q20, _lo20, _cw_19⟩ := _q20
      have _cw_19z := _cw_19.size
      have E := E.trans _cw_19
      obtain ⟨_Av20, _Cv20, _ev20⟩ := _q20.val
      subst _ev20
      have _lv20 := _q20.len
      have _hiv20 := _q20.lt
      have _S_20 : Ch [] _w_16 _w_19 := ((Ch.refl _ _).trans _cw_19)
      refine ⟨_S_20, ?_⟩
      refine DR_one 5 (by kernel_rfl) ?_
      refine DO_s rfl rfl rfl ?_
      refine s_buildSlice (cs := Token.cs) (parts := [(0, .tmp 21)]) (⟨0, 0, 0, 0⟩ : Token) [_y11] el27 sz57 zr57 Token.len (by decide) rfl rfl rfl (by decide) (by decide) rfl fun _v22 _w_21 _q22 _lo22 _cw_21 => ?_
      have _cw_21z := _cw_21.size
      have E := E.trans _cw_21
      obtain ⟨_Av22, _Cv22, _ev22⟩ := _q22.val
      subst _ev22
      have _lv22 := _q22.len
      have _hiv22 := _q22.lt
      have _S_22 : Ch [] _w_16 _w_21 := (_S_20.trans _cw_21)
      refine ⟨_S_22, ?_⟩
      refine DR_one 6 (by kernel_rfl) ?_
      refine DO_s rfl rfl rfl ?_
      have _f_24 := (_q20.ch0 _cw_21)
      refine s_append (cs := Token.cs) el27 sz57 by57 zr57 rfl (by decide) Token.one _f_24 _q22.ls rfl rfl (by first | omega | (simp only [List.length_append, List.length_nil, List.length_cons, List.length_replicate, List.length_set, List.length_reverse, List.length_map] at *; omega) | (simp at *; omega)) (by first | omega | (simp only [List.length_append, List.length_nil, List.length_cons, List.length_replicate, List.length_set, List.length_reverse, List.length_map] at *; omega) | (simp at *; omega)) _lo20 (by omega) fun _v23 _w_23 _q23 _lo23 _ap23 _cw_23 => ?_
      have _cw_23z := _cw_23.size
      have E := E.step _cw_23 (fun i hi => .inl (by have _h1 := _lo20 _ hi; omega))
      obtain ⟨_Av23, _Cv23, _ev23⟩ := _q23.val
      subst _ev23
      have _lv23 := _q23.len
      have _hiv23 := _q23.lt
      have _S_25 : Ch [] _w_16 _w_23 := (_S_22.step _cw_23 (fun i hm => by left; have _h1 := _lo20 _ hm; have _h2 := _hiv20 _ hm; omega))
      refine ⟨_S_25, ?_⟩
      refine DR_s 7 rfl (by kernel_rfl) rfl rfl (t_v (fun _ => (r_assign rfl)) ?_)
      refine DR_done (by kernel_rfl) ?_
      refine thn_nrm ?_
      exact _J_14 _ _ (.slice _Av23 (((revT ta).flat ++ [_y11])).length _Cv23) (Sub.cons rfl (Sub.cons rfl (Sub.cons rfl (Sub.cons rfl (Sub.cons rfl (Sub.nil _)))))) (((((Ch.refl [] _w_9).trans _cw_16).trans _cw_19).trans _cw_21).step _cw_23 (fun i hi => .inl (by have _h1 := _lo20 _ hi; omega))) _q23 (Lo.down _lo23 (by omega))
    · refine DO_s rfl rfl rfl ?_
      refine s_buildSlice (cs := Token.cs) (parts := [(0, .tmp 21)]) (⟨0, 0, 0, 0⟩ : Token) [_y11] el27 sz57 zr57 Token.len (by decide) rfl rfl rfl (by decide) (by decide) rfl fun _v22 _w_26 _q22 _lo22 _cw_26 => ?_
      have _cw_26z := _cw_26.size
      have E := E.trans _cw_26
      obtain ⟨_Av22, _Cv22, _ev22⟩ := _q22.val
      subst _ev22
      have _lv22 := _q22.len
      have _hiv22 := _q22.lt
      have _S_27 : Ch [] _w_16 _w_26 := ((Ch.refl _ _).trans _cw_26)
      refine ⟨_S_27, ?_⟩
      refine DR_one 3 (by kernel_rfl) ?_
      refine DO_s rfl rfl rfl ?_
      have _f_28 := (_q19.ch0 _cw_26)
      refine Step.call (r_call (xs := [.tmp 19]) fk60 rfl) (ih _f_28 ta oa (cut_1 hla (by omega)) (by simp only [List.length_take, List.length_drop]; omega) (by simp only [List.length_take, List.length_drop]; omega)) fun _v20 _w_29 _q20 => ?_
      obtain ⟨_q20, _lo20, _cw_29⟩ := _q20
      have _cw_29z := _cw_29.size
      have E := E.trans _cw_29
      obtain ⟨_Av20, _Cv20, _ev20⟩ := _q20.val
      subst _ev20
      have _lv20 := _q20.len
      have _hiv20 := _q20.lt
      have _S_30 : Ch [] _w_16 _w_29 := (_S_27.trans _cw_29)
      refine ⟨_S_30, ?_⟩
      refine DR_one 6 (by kernel_rfl) ?_
      refine DO_s rfl rfl rfl ?_
      have _f_32 := (_q22.ch0 _cw_29)
      refine s_append (cs := Token.cs) el27 sz57 by57 zr57 rfl (by decide) Token.one _q20 _f_32.ls rfl rfl (by first | omega | (simp only [List.length_append, List.length_nil, List.length_cons, List.length_replicate, List.length_set, List.length_reverse, List.length_map] at *; omega) | (simp at *; omega)) (by first | omega | (simp only [List.length_append, List.length_nil, List.length_cons, List.length_replicate, List.length_set, List.length_reverse, List.length_map] at *; omega) | (simp at *; omega)) _lo20 (by omega) fun _v23 _w_31 _q23 _lo23 _ap23 _cw_31 => ?_
      have _cw_31z := _cw_31.size
      have E := E.step _cw_31 (fun i hi => .inl (by have _h1 := _lo20 _ hi; omega))
      obtain ⟨_Av23, _Cv23, _ev23⟩ := _q23.val
      subst _ev23
      have _lv23 := _q23.len
      have _hiv23 := _q23.lt
      have _S_33 : Ch [] _w_16 _w_31 := (_S_30.step _cw_31 (fun i hm => by left; have _h1 := _lo20 _ hm; have _h2 := _hiv20 _ hm; omega))
      refine ⟨_S_33, ?_⟩
      refine DR_s 7 rfl (by kernel_rfl) rfl rfl (t_v (fun _ => (r_assign rfl)) ?_)
      refine DR_done (by kernel_rfl) ?_
      refine thn_nrm ?_
      exact _J_14 _ _ (.slice _Av23 (((revT ta).flat ++ [_y11])).length _Cv23) (Sub.cons rfl (Sub.cons rfl (Sub.cons rfl (Sub.cons rfl (Sub.cons rfl (Sub.nil _)))))) (((((Ch.refl [] _w_9).trans _cw_16).trans _cw_26).trans _cw_29).step _cw_31 (fun i hi => .inl (by have _h1 := _lo20 _ hi; omega))) _q23 (Lo.down _lo23 (by omega))
  · have _kb_11 := _h15
    have _h15 := bf_d _h15
    refine W_seq fun _K_34 _hK_34 => ?_
    refine W_region ?_
    refine WL_step rfl rfl (r_eql rfl rfl) ?_
    refine WL_step rfl rfl (r_assign rfl) ?_
    refine WL_nil ?_
    refine thn_nrm (_hK_34 _ _ ?_)
    clear _hK_34
    refine W_cond rfl (fun _h24 => ?_) (fun _h24 => ?_)
    · have _kb_35 := _h24
      have _h24 := bt_d _h24
      obtain ⟨ta, tb, et, oa, ob, hla, hn2⟩ := hok.k2 (by omega) _ht hl
      have _hk0 : t.kids[0]? = some ta := by rw [et]; rfl
      have _hk1 : t.kids[1]? = some tb := by rw [et]; rfl
      have ga := ta.flat_len
      have gb := tb.flat_len
      have fa := (revT ta).flat_len
      have ra := revT_sz ta
      have ga := ta.flat_len
      have fb := (revT tb).flat_len
      have rb := revT_sz tb
      have gb := tb.flat_len
      refine W_seq fun _K_36 _hK_36 => ?_
      refine W_region ?_
      refine WL_step rfl rfl (r_move rfl) ?_
      refine WL_step rfl rfl (r_move rfl) ?_
      refine WL_s rfl rfl ?_
      have _f_37 := (((_h_l.ch0 _cw_4).ch _cw_5 (fun i hi => by have _h1 := List.mem_singleton.1 hi; omega)).ch0 _cw_9)
      refine (s_cut (ys := (l.take ((((l.length : Nat) : Int) - 1).toNat))) 0 ((((l.length : Nat) : Int) - 1).toNat) _f_37 Token.len el27 sz57 rfl rfl ⟨_, _, rfl, by omega⟩ (by omega) (by omega) rfl fun _v28 _q28 _bb28 _ln28 => ?_)
      obtain ⟨_A28, _C28, _e28⟩ := _q28.val
      subst _e28
      have _l28 := _q28.len
      refine WL_s rfl rfl ?_
      refine Step.call (r_call (xs := [.tmp 28]) fk56 rfl) (c_spec_l8Start _q28 ta.flat tb ob (cut_ab hla (by omega))) fun _v29 _w_38 _q29 => ?_
      obtain ⟨rfl, _cw_38⟩ := _q29
      have _cw_38z := _cw_38.size
      have E := E.trans _cw_38
      refine WL_step rfl rfl (r_assign rfl) ?_
      refine WL_nil ?_
      refine thn_nrm (_hK_36 _ _ ?_)
      clear _hK_36
      refine W_seq fun _K_39 _hK_39 => ?_
      refine W_seq fun _K_40 _hK_40 => ?_
      refine W_region ?_
      refine WL_step rfl rfl (r_fieldAddr fa57_0 rfl) ?_
      have _f_41 := ((_m_6.ch0 _cw_9).ch0 _cw_38)
      refine WL_step rfl rfl (r_loadAt _f_41.at_ agg3 rfl rfl) ?_
      refine WL_step rfl rfl (r_eql rfl rfl) ?_
      refine WL_nil ?_
      refine thn_nrm (_hK_40 _ _ ?_)
      clear _hK_40
      refine W_cond rfl (fun _h32 => ?_) (fun _h32 => ?_)
      · have _kb_42 := _h32
        have _h32 := bt_d _h32
        refine W_seq fun _K_43 _hK_43 => ?_
        have _J_45 : ∀ (lj : KL) (_wj_44 : World) (ju2 : Value), Go.KLib.Sub [(0, (.slice _A_l l.length _C_l)), (2, ju2), (3, (.int .i64 (((l.length : Nat) : Int) - 1))), (4, (.pointer (some ⟨_b4, 0, none⟩))), (5, (.int .i64 ((ta.flat.length : Nat) : Int)))] lj → Ch [] _w_38 _wj_44 → Ol Token.cs 57 4 _wj_44 ju2 (((revT tb).flat ++ (revT ta).flat) ++ [_y11]) → Lo _w_38.heap.size ju2 → _K_43 lj _wj_44 := by
          intro lj _wj_44 ju2 _jsub _cjK_43 _qju2 _loju2
          refine _hK_43 _ _ (W_sub _jsub ?_)
          clear _hK_43
          have _cjK_43z := _cjK_43.size
          have E := E.trans _cjK_43
          obtain ⟨_Aju2, _Cju2, _eju2⟩ := _qju2.val
          subst _eju2
          have _lju2 := _qju2.len
          have _hiju2 := _qju2.lt
          refine W_ret (thn_ret (inB_ret (thn_ret ?_)))
          clear _hK_7 _hK_39
          have _o_46 : Ol Token.cs 57 4 _wj_44 (.slice _Aju2 ((((revT tb).flat ++ (revT ta).flat) ++ [_y11])).length _Cju2) ((revT t).flat) := by
            have hx := _qju2
            exact hx.eq (by rw [et]; first | exact (revT_l1 _ _).symm | exact (revT_l2a (by omega)).symm | exact (revT_l2b (by omega)).symm | exact revT_0y (by omega) | exact revT_0n (by omega))
          exact ret_intro [_] ⟨rfl, trivial⟩ ⟨_o_46, Lo.down _loju2 (by omega), E⟩
        clear _hK_43
        refine W_drawC [] 14 mixed rfl fun _w_47 _cw_47 => ?_
        have _cw_47z := _cw_47.size
        have E := E.trans _cw_47
        refine DR_s 0 rfl (by kernel_rfl) rfl rfl (t_v (fun _ => (r_move rfl)) ?_)
        refine DR_s 1 rfl (by kernel_rfl) rfl rfl (t_v (fun _ => (r_move rfl)) ?_)
        refine DR_s 2 rfl (by kernel_rfl) rfl rfl (t_v (fun _ => (r_move rfl)) ?_)
        have _f_48 := ((_f_37.ch0 _cw_38).ch0 _cw_47)
        refine DR_s 3 rfl (by kernel_rfl) rfl rfl (t_cut (ys := ((l.drop ta.flat.length).take ((((l.length : Nat) : Int) - 1).toNat - ta.flat.length))) ta.flat.length ((((l.length : Nat) : Int) - 1).toNat) _f_48 Token.len el27 sz57 rfl ⟨_, _, rfl, by omega⟩ ⟨_, _, rfl, by omega⟩ (by omega) (by omega) rfl fun _v36 _q36 _bb36 _ln36 => ?_)
        obtain ⟨_A36, _C36, _e36⟩ := _q36.val
        subst _e36
        have _l36 := _q36.len
        refine DR_s 5 rfl (by kernel_rfl) rfl rfl (t_v (fun _ => (r_move rfl)) ?_)
        refine DR_s 6 rfl (by kernel_rfl) rfl rfl (t_v (fun _ => (r_move rfl)) ?_)
        refine DR_s 7 rfl (by kernel_rfl) rfl rfl (t_cut (ys := (l.take ta.flat.length)) 0 ta.flat.length _f_48 Token.len el27 sz57 rfl rfl ⟨_, _, rfl, by omega⟩ (by omega) (by omega) rfl fun _v40 _q40 _bb40 _ln40 => ?_)
        obtain ⟨_A40, _C40, _e40⟩ := _q40.val
        subst _e40
        have _l40 := _q40.len
        have _f_49 := (_f_41.ch0 _cw_47)
        refine DR_s 10 rfl (by kernel_rfl) rfl rfl (t_loadAtA0 _f_49.at_ (fun i hi => absurd hi List.not_mem_nil) agg57 sz57 rfl ?_)
        refine DR_two 4 11 (by kernel_rfl) ?_ ?_
        · refine DO_s rfl rfl rfl ?_
          refine Step.call (r_call (xs := [.tmp 36]) fk60 rfl) (ih _q36 tb ob (cut_b hla (by omega) (by omega)) (by simp only [List.length_take, List.length_drop]; omega) (by simp only [List.length_take, List.length_drop]; omega)) fun _v37 _w_50 _q37 => ?_
          obtain ⟨_q37, _lo37, _cw_50⟩ := _q37
          have _cw_50z := _cw_50.size
          have E := E.trans _cw_50
          obtain ⟨_Av37, _Cv37, _ev37⟩ := _q37.val
          subst _ev37
          have _lv37 := _q37.len
          have _hiv37 := _q37.lt
          have _S_51 : Ch [] _w_47 _w_50 := ((Ch.refl _ _).trans _cw_50)
          refine ⟨_S_51, ?_⟩
          refine DR_two 8 11 (by kernel_rfl) ?_ ?_
          · refine DO_s rfl rfl rfl ?_
            have _f_52 := (_q40.ch0 _cw_50)
            refine Step.call (r_call (xs := [.tmp 40]) fk60 rfl) (ih _f_52 ta oa (cut_a hla (by omega)) (by simp only [List.length_take, List.length_drop]; omega) (by simp only [List.length_take, List.length_drop]; omega)) fun _v41 _w_53 _q41 => ?_
            obtain ⟨_q41, _lo41, _cw_53⟩ := _q41
            have _cw_53z := _cw_53.size
            have E := E.trans _cw_53
            obtain ⟨_Av41, _Cv41, _ev41⟩ := _q41.val
            subst _ev41
            have _lv41 := _q41.len
            have _hiv41 := _q41.lt
            have _S_54 : Ch [] _w_47 _w_53 := (_S_51.trans _cw_53)
            refine ⟨_S_54, ?_⟩
            refine DR_two 9 11 (by kernel_rfl) ?_ ?_
            · refine DO_s rfl rfl rfl ?_
              have _f_56 := (_q37.ch0 _cw_53)
              refine s_append (cs := Token.cs) el27 sz57 by57 zr57 rfl (by decide) Token.one _f_56 _q41.ls rfl rfl (by first | omega | (simp only [List.length_append, List.length_nil, List.length_cons, List.length_replicate, List.length_set, List.length_reverse, List.length_map] at *; omega) | (simp at *; omega)) (by first | omega | (simp only [List.length_append, List.length_nil, List.length_cons, List.length_replicate, List.length_set, List.length_reverse, List.length_map] at *; omega) | (simp at *; omega)) _lo37 (by omega) fun _v42 _w_55 _q42 _lo42 _ap42 _cw_55 => ?_
              have _cw_55z := _cw_55.size
              have E := E.step _cw_55 (fun i hi => .inl (by have _h1 := _lo37 _ hi; omega))
              obtain ⟨_Av42, _Cv42, _ev42⟩ := _q42.val
              subst _ev42
              have _lv42 := _q42.len
              have _hiv42 := _q42.lt
              have _S_57 : Ch [] _w_47 _w_55 := (_S_54.step _cw_55 (fun i hm => by left; have _h1 := _lo37 _ hm; have _h2 := _hiv37 _ hm; omega))
              refine ⟨_S_57, ?_⟩
              refine DR_one 11 (by kernel_rfl) ?_
              refine DO_s rfl rfl rfl ?_
              refine s_buildSlice (cs := Token.cs) (parts := [(0, .tmp 43)]) (⟨0, 0, 0, 0⟩ : Token) [_y11] el27 sz57 zr57 Token.len (by decide) rfl rfl rfl (by decide) (by decide) rfl fun _v44 _w_58 _q44 _lo44 _cw_58 => ?_
              have _cw_58z := _cw_58.size
              have E := E.trans _cw_58
              obtain ⟨_Av44, _Cv44, _ev44⟩ := _q44.val
              subst _ev44
              have _lv44 := _q44.len
              have _hiv44 := _q44.lt
              have _S_59 : Ch [] _w_47 _w_58 := (_S_57.trans _cw_58)
              refine ⟨_S_59, ?_⟩
              refine DR_one 12 (by kernel_rfl) ?_
              refine DO_s rfl rfl rfl ?_
              have _f_61 := (_q42.ch0 _cw_58)
              refine s_append (cs := Token.cs) el27 sz57 by57 zr57 rfl (by decide) Token.one _f_61 _q44.ls rfl rfl (by first | omega | (simp only [List.length_append, List.length_nil, List.length_cons, List.length_replicate, List.length_set, List.length_reverse, List.length_map] at *; omega) | (simp at *; omega)) (by first | omega | (simp only [List.length_append, List.length_nil, List.length_cons, List.length_replicate, List.length_set, List.length_reverse, List.length_map] at *; omega) | (simp at *; omega)) _lo42 (by omega) fun _v45 _w_60 _q45 _lo45 _ap45 _cw_60 => ?_
              have _cw_60z := _cw_60.size
              have E := E.step _cw_60 (fun i hi => .inl (by have _h1 := _lo42 _ hi; omega))
              obtain ⟨_Av45, _Cv45, _ev45⟩ := _q45.val
              subst _ev45
              have _lv45 := _q45.len
              have _hiv45 := _q45.lt
              have _S_62 : Ch [] _w_47 _w_60 := (_S_59.step _cw_60 (fun i hm => by rcases _ap42 with ea | ea; (rw [ea] at hm; left; have _h1 := _lo37 _ hm; have _h2 := _hiv37 _ hm; omega); (rw [ea] at hm; have _z1 := List.mem_singleton.1 hm; left; omega)))
              refine ⟨_S_62, ?_⟩
              refine DR_s 13 rfl (by kernel_rfl) rfl rfl (t_v (fun _ => (r_assign rfl)) ?_)
              refine DR_done (by kernel_rfl) ?_
              refine thn_nrm ?_
              exact _J_45 _ _ (.slice _Av45 ((((revT tb).flat ++ (revT ta).flat) ++ [_y11])).length _Cv45) (Sub.cons rfl (Sub.cons rfl (Sub.cons rfl (Sub.cons rfl (Sub.cons rfl (Sub.nil _)))))) (((((((Ch.refl [] _w_38).trans _cw_47).trans _cw_50).trans _cw_53).step _cw_55 (fun i hi => .inl (by have _h1 := _lo37 _ hi; omega))).trans _cw_58).step _cw_60 (fun i hi => .inl (by have _h1 := _lo42 _ hi; omega))) _q45 (Lo.down _lo45 (by omega))
            · refine DO_s rfl rfl rfl ?_
              refine s_buildSlice (cs := Token.cs) (parts := [(0, .tmp 43)]) (⟨0, 0, 0, 0⟩ : Token) [_y11] el27 sz57 zr57 Token.len (by decide) rfl rfl rfl (by decide) (by decide) rfl fun _v44 _w_63 _q44 _lo44 _cw_63 => ?_
              have _cw_63z := _cw_63.size
              have E := E.trans _cw_63
              obtain ⟨_Av44, _Cv44, _ev44⟩ := _q44.val
              subst _ev44
              have _lv44 := _q44.len
              have _hiv44 := _q44.lt
              have _S_64 : Ch [] _w_47 _w_63 := (_S_54.trans _cw_63)
              refine ⟨_S_64, ?_⟩
              refine DR_one 9 (by kernel_rfl) ?_
              refine DO_s rfl rfl rfl ?_
              have _f_66 := ((_q37.ch0 _cw_53).ch0 _cw_63)
              have _f_67 := (_q41.ch0 _cw_63)
              refine s_append (cs := Token.cs) el27 sz57 by57 zr57 rfl (by decide) Token.one _f_66 _f_67.ls rfl rfl (by first | omega | (simp only [List.length_append, List.length_nil, List.length_cons, List.length_replicate, List.length_set, List.length_reverse, List.length_map] at *; omega) | (simp at *; omega)) (by first | omega | (simp only [List.length_append, List.length_nil, List.length_cons, List.length_replicate, List.length_set, List.length_reverse, List.length_map] at *; omega) | (simp at *; omega)) _lo37 (by omega) fun _v42 _w_65 _q42 _lo42 _ap42 _cw_65 => ?_
              have _cw_65z := _cw_65.size
              have E := E.step _cw_65 (fun i hi => .inl (by have _h1 := _lo37 _ hi; omega))
              obtain ⟨_Av42, _Cv42, _ev42⟩ := _q42.val
              subst _ev42
              have _lv42 := _q42.len
              have _hiv42 := _q42.lt
              have _S_68 : Ch [] _w_47 _w_65 := (_S_64.step _cw_65 (fun i hm => by left; have _h1 := _lo37 _ hm; have _h2 := _hiv37 _ hm; omega))
              refine ⟨_S_68, ?_⟩
              refine DR_one 12 (by kernel_rfl) ?_
              refine DO_s rfl rfl rfl ?_
              have _f_70 := (_q44.ch _cw_65 (fun g hg hm => by have _h1 := _lo37 _ hm; have _h2 := _hiv37 _ hm; have _h3 := _lo44 _ hg; have _h4 := _hiv44 _ hg; omega))
              refine s_append (cs := Token.cs) el27 sz57 by57 zr57 rfl (by decide) Token.one _q42 _f_70.ls rfl rfl (by first | omega | (simp only [List.length_append, List.length_nil, List.length_cons, List.length_replicate, List.length_set, List.length_reverse, List.length_map] at *; omega) | (simp at *; omega)) (by first | omega | (simp only [List.length_append, List.length_nil, List.length_cons, List.length_replicate, List.length_set, List.length_reverse, List.length_map] at *; omega) | (simp at *; omega)) _lo42 (by omega) fun _v45 _w_69 _q45 _lo45 _ap45 _cw_69 => ?_
              have _cw_69z := _cw_69.size
              have E := E.step _cw_69 (fun i hi => .inl (by have _h1 := _lo42 _ hi; omega))
              obtain ⟨_Av45, _Cv45, _ev45⟩ := _q45.val
              subst _ev45
              have _lv45 := _q45.len
              have _hiv45 := _q45.lt
              have _S_71 : Ch [] _w_47 _w_69 := (_S_68.step _cw_69 (fun i hm => by rcases _ap42 with ea | ea; (rw [ea] at hm; left; have _h1 := _lo37 _ hm; have _h2 := _hiv37 _ hm; omega); (rw [ea] at hm; have _z1 := List.mem_singleton.1 hm; left; omega)))
              refine ⟨_S_71, ?_⟩
              refine DR_s 13 rfl (by kernel_rfl) rfl rfl (t_v (fun _ => (r_assign rfl)) ?_)
              refine DR_done (by kernel_rfl) ?_
              refine thn_nrm ?_
              exact _J_45 _ _ (.slice _Av45 ((((revT tb).flat ++ (revT ta).flat) ++ [_y11])).length _Cv45) (Sub.cons rfl (Sub.cons rfl (Sub.cons rfl (Sub.cons rfl (Sub.cons rfl (Sub.nil _)))))) (((((((Ch.refl [] _w_38).trans _cw_47).trans _cw_50).trans _cw_53).trans _cw_63).step _cw_65 (fun i hi => .inl (by have _h1 := _lo37 _ hi; omega))).step _cw_69 (fun i hi => .inl (by have _h1 := _lo42 _ hi; omega))) _q45 (Lo.down _lo45 (by omega))
          · refine DO_s rfl rfl rfl ?_
            refine s_buildSlice (cs := Token.cs) (parts := [(0, .tmp 43)]) (⟨0, 0, 0, 0⟩ : Token) [_y11] el27 sz57 zr57 Token.len (by decide) rfl rfl rfl (by decide) (by decide) rfl fun _v44 _w_72 _q44 _lo44 _cw_72 => ?_
            have _cw_72z := _cw_72.size
            have E := E.trans _cw_72
            obtain ⟨_Av44, _Cv44, _ev44⟩ := _q44.val
            subst _ev44
            have _lv44 := _q44.len
            have _hiv44 := _q44.lt
            have _S_73 : Ch [] _w_47 _w_72 := (_S_51.trans _cw_72)
            refine ⟨_S_73, ?_⟩
            refine DR_one 8 (by kernel_rfl) ?_
            refine DO_s rfl rfl rfl ?_
            have _f_74 := ((_q40.ch0 _cw_50).ch0 _cw_72)
            refine Step.call (r_call (xs := [.tmp 40]) fk60 rfl) (ih _f_74 ta oa (cut_a hla (by omega)) (by simp only [List.length_take, List.length_drop]; omega) (by simp only [List.length_take, List.length_drop]; omega)) fun _v41 _w_75 _q41 => ?_
            obtain ⟨_q41, _lo41, _cw_75⟩ := _q41
            have _cw_75z := _cw_75.size
            have E := E.trans _cw_75
            obtain ⟨_Av41, _Cv41, _ev41⟩ := _q41.val
            subst _ev41
            have _lv41 := _q41.len
            have _hiv41 := _q41.lt
            have _S_76 : Ch [] _w_47 _w_75 := (_S_73.trans _cw_75)
            refine ⟨_S_76, ?_⟩
            refine DR_one 9 (by kernel_rfl) ?_
            refine DO_s rfl rfl rfl ?_
            have _f_78 := ((_q37.ch0 _cw_72).ch0 _cw_75)
            refine s_append (cs := Token.cs) el27 sz57 by57 zr57 rfl (by decide) Token.one _f_78 _q41.ls rfl rfl (by first | omega | (simp only [List.length_append, List.length_nil, List.length_cons, List.length_replicate, List.length_set, List.length_reverse, List.length_map] at *; omega) | (simp at *; omega)) (by first | omega | (simp only [List.length_append, List.length_nil, List.length_cons, List.length_replicate, List.length_set, List.length_reverse, List.length_map] at *; omega) | (simp at *; omega)) _lo37 (by omega) fun _v42 _w_77 _q42 _lo42 _ap42 _cw_77 => ?_
            have _cw_77z := _cw_77.size
            have E := E.step _cw_77 (fun i hi => .inl (by have _h1 := _lo37 _ hi; omega))
            obtain ⟨_Av42, _Cv42, _ev42⟩ := _q42.val
            subst _ev42
            have _lv42 := _q42.len
            have _hiv42 := _q42.lt
            have _S_79 : Ch [] _w_47 _w_77 := (_S_76.step _cw_77 (fun i hm => by left; have _h1 := _lo37 _ hm; have _h2 := _hiv37 _ hm; omega))
            refine ⟨_S_79, ?_⟩
            refine DR_one 12 (by kernel_rfl) ?_
            refine DO_s rfl rfl rfl ?_
            have _f_81 := ((_q44.ch0 _cw_75).ch _cw_77 (fun g hg hm => by have _h1 := _lo37 _ hm; have _h2 := _hiv37 _ hm; have _h3 := _lo44 _ hg; have _h4 := _hiv44 _ hg; omega))
            refine s_append (cs := Token.cs) el27 sz57 by57 zr57 rfl (by decide) Token.one _q42 _f_81.ls rfl rfl (by first | omega | (simp only [List.length_append, List.length_nil, List.length_cons, List.length_replicate, List.length_set, List.length_reverse, List.length_map] at *; omega) | (simp at *; omega)) (by first | omega | (simp only [List.length_append, List.length_nil, List.length_cons, List.length_replicate, List.length_set, List.length_reverse, List.length_map] at *; omega) | (simp at *; omega)) _lo42 (by omega) fun _v45 _w_80 _q45 _lo45 _ap45 _cw_80 => ?_
            have _cw_80z := _cw_80.size
            have E := E.step _cw_80 (fun i hi => .inl (by have _h1 := _lo42 _ hi; omega))
            obtain ⟨_Av45, _Cv45, _ev45⟩ := _q45.val
            subst _ev45
            have _lv45 := _q45.len
            have _hiv45 := _q45.lt
            have _S_82 : Ch [] _w_47 _w_80 := (_S_79.step _cw_80 (fun i hm => by rcases _ap42 with ea | ea; (rw [ea] at hm; left; have _h1 := _lo37 _ hm; have _h2 := _hiv37 _ hm; omega); (rw [ea] at hm; have _z1 := List.mem_singleton.1 hm; left; omega)))
            refine ⟨_S_82, ?_⟩
            refine DR_s 13 rfl (by kernel_rfl) rfl rfl (t_v (fun _ => (r_assign rfl)) ?_)
            refine DR_done (by kernel_rfl) ?_
            refine thn_nrm ?_
            exact _J_45 _ _ (.slice _Av45 ((((revT tb).flat ++ (revT ta).flat) ++ [_y11])).length _Cv45) (Sub.cons rfl (Sub.cons rfl (Sub.cons rfl (Sub.cons rfl (Sub.cons rfl (Sub.nil _)))))) (((((((Ch.refl [] _w_38).trans _cw_47).trans _cw_50).trans _cw_72).trans _cw_75).step _cw_77 (fun i hi => .inl (by have _h1 := _lo37 _ hi; omega))).step _cw_80 (fun i hi => .inl (by have _h1 := _lo42 _ hi; omega))) _q45 (Lo.down _lo45 (by omega))
        · refine DO_s rfl rfl rfl ?_
          refine s_buildSlice (cs := Token.cs) (parts := [(0, .tmp 43)]) (⟨0, 0, 0, 0⟩ : Token) [_y11] el27 sz57 zr57 Token.len (by decide) rfl rfl rfl (by decide) (by decide) rfl fun _v44 _w_83 _q44 _lo44 _cw_83 => ?_
          have _cw_83z := _cw_83.size
          have E := E.trans _cw_83
          obtain ⟨_Av44, _Cv44, _ev44⟩ := _q44.val
          subst _ev44
          have _lv44 := _q44.len
          have _hiv44 := _q44.lt
          have _S_84 : Ch [] _w_47 _w_83 := ((Ch.refl _ _).trans _cw_83)
          refine ⟨_S_84, ?_⟩
          refine DR_one 4 (by kernel_rfl) ?_
          refine DO_s rfl rfl rfl ?_
          have _f_85 := (_q36.ch0 _cw_83)
          refine Step.call (r_call (xs := [.tmp 36]) fk60 rfl) (ih _f_85 tb ob (cut_b hla (by omega) (by omega)) (by simp only [List.length_take, List.length_drop]; omega) (by simp only [List.length_take, List.length_drop]; omega)) fun _v37 _w_86 _q37 => ?_
          obtain ⟨_q37, _lo37, _cw_86⟩ := _q37
          have _cw_86z := _cw_86.size
          have E := E.trans _cw_86
          obtain ⟨_Av37, _Cv37, _ev37⟩ := _q37.val
          subst _ev37
          have _lv37 := _q37.len
          have _hiv37 := _q37.lt
          have _S_87 : Ch [] _w_47 _w_86 := (_S_84.trans _cw_86)
          refine ⟨_S_87, ?_⟩
          refine DR_one 8 (by kernel_rfl) ?_
          refine DO_s rfl rfl rfl ?_
          have _f_88 := ((_q40.ch0 _cw_83).ch0 _cw_86)
          refine Step.call (r_call (xs := [.tmp 40]) fk60 rfl) (ih _f_88 ta oa (cut_a hla (by omega)) (by simp only [List.length_take, List.length_drop]; omega) (by simp only [List.length_take, List.length_drop]; omega)) fun _v41 _w_89 _q41 => ?_
          obtain ⟨_q41, _lo41, _cw_89⟩ := _q41
          have _cw_89z := _cw_89.size
          have E := E.trans _cw_89
          obtain ⟨_Av41, _Cv41, _ev41⟩ := _q41.val
          subst _ev41
          have _lv41 := _q41.len
          have _hiv41 := _q41.lt
          have _S_90 : Ch [] _w_47 _w_89 := (_S_87.trans _cw_89)
          refine ⟨_S_90, ?_⟩
          refine DR_one 9 (by kernel_rfl) ?_
          refine DO_s rfl rfl rfl ?_
          have _f_92 := (_q37.ch0 _cw_89)
          refine s_append (cs := Token.cs) el27 sz57 by57 zr57 rfl (by decide) Token.one _f_92 _q41.ls rfl rfl (by first | omega | (simp only [List.length_append, List.length_nil, List.length_cons, List.length_replicate, List.length_set, List.length_reverse, List.length_map] at *; omega) | (simp at *; omega)) (by first | omega | (simp only [List.length_append, List.length_nil, List.length_cons, List.length_replicate, List.length_set, List.length_reverse, List.length_map] at *; omega) | (simp at *; omega)) _lo37 (by omega) fun _v42 _w_91 _q42 _lo42 _ap42 _cw_91 => ?_
          have _cw_91z := _cw_91.size
          have E := E.step _cw_91 (fun i hi => .inl (by have _h1 := _lo37 _ hi; omega))
          obtain ⟨_Av42, _Cv42, _ev42⟩ := _q42.val
          subst _ev42
          have _lv42 := _q42.len
          have _hiv42 := _q42.lt
          have _S_93 : Ch [] _w_47 _w_91 := (_S_90.step _cw_91 (fun i hm => by left; have _h1 := _lo37 _ hm; have _h2 := _hiv37 _ hm; omega))
          refine ⟨_S_93, ?_⟩
          refine DR_one 12 (by kernel_rfl) ?_
          refine DO_s rfl rfl rfl ?_
          have _f_95 := (((_q44.ch0 _cw_86).ch0 _cw_89).ch _cw_91 (fun g hg hm => by have _h1 := _lo37 _ hm; have _h2 := _hiv37 _ hm; have _h3 := _lo44 _ hg; have _h4 := _hiv44 _ hg; omega))
          refine s_append (cs := Token.cs) el27 sz57 by57 zr57 rfl (by decide) Token.one _q42 _f_95.ls rfl rfl (by first | omega | (simp only [List.length_append, List.length_nil, List.length_cons, List.length_replicate, List.length_set, List.length_reverse, List.length_map] at *; omega) | (simp at *; omega)) (by first | omega | (simp only [List.length_append, List.length_nil, List.length_cons, List.length_replicate, List.length_set, List.length_reverse, List.length_map] at *; omega) | (simp at *; omega)) _lo42 (by omega) fun _v45 _w_94 _q45 _lo45 _ap45 _cw_94 => ?_
          have _cw_94z := _cw_94.size
          have E := E.step _cw_94 (fun i hi => .inl (by have _h1 := _lo42 _ hi; omega))
          obtain ⟨_Av45, _Cv45, _ev45⟩ := _q45.val
          subst _ev45
          have _lv45 := _q45.len
          have _hiv45 := _q45.lt
          have _S_96 : Ch [] _w_47 _w_94 := (_S_93.step _cw_94 (fun i hm => by rcases _ap42 with ea | ea; (rw [ea] at hm; left; have _h1 := _lo37 _ hm; have _h2 := _hiv37 _ hm; omega); (rw [ea] at hm; have _z1 := List.mem_singleton.1 hm; left; omega)))
          refine ⟨_S_96, ?_⟩
          refine DR_s 13 rfl (by kernel_rfl) rfl rfl (t_v (fun _ => (r_assign rfl)) ?_)
          refine DR_done (by kernel_rfl) ?_
          refine thn_nrm ?_
          exact _J_45 _ _ (.slice _Av45 ((((revT tb).flat ++ (revT ta).flat) ++ [_y11])).length _Cv45) (Sub.cons rfl (Sub.cons rfl (Sub.cons rfl (Sub.cons rfl (Sub.cons rfl (Sub.nil _)))))) (((((((Ch.refl [] _w_38).trans _cw_47).trans _cw_83).trans _cw_86).trans _cw_89).step _cw_91 (fun i hi => .inl (by have _h1 := _lo37 _ hi; omega))).step _cw_94 (fun i hi => .inl (by have _h1 := _lo42 _ hi; omega))) _q45 (Lo.down _lo45 (by omega))
      · have _kb_42 := _h32
        have _h32 := bf_d _h32
        refine W_skip ?_
        refine thn_nrm (_hK_39 _ _ ?_)
        clear _hK_39
        refine W_seq fun _K_97 _hK_97 => ?_
        have _J_99 : ∀ (lj : KL) (_wj_98 : World) (ju2 : Value), Go.KLib.Sub [(2, ju2), (4, (.pointer (some ⟨_b4, 0, none⟩)))] lj → Ch [] _w_38 _wj_98 → Ol Token.cs 57 4 _wj_98 ju2 (((revT ta).flat ++ (revT tb).flat) ++ [_y11]) → Lo _w_38.heap.size ju2 → _K_97 lj _wj_98 := by
          intro lj _wj_98 ju2 _jsub _cjK_97 _qju2 _loju2
          refine _hK_97 _ _ (W_sub _jsub ?_)
          clear _hK_97
          have _cjK_97z := _cjK_97.size
          have E := E.trans _cjK_97
          obtain ⟨_Aju2, _Cju2, _eju2⟩ := _qju2.val
          subst _eju2
          have _lju2 := _qju2.len
          have _hiju2 := _qju2.lt
          refine W_ret (inB_ret (thn_ret ?_))
          clear _hK_7
          have _o_100 : Ol Token.cs 57 4 _wj_98 (.slice _Aju2 ((((revT ta).flat ++ (revT tb).flat) ++ [_y11])).length _Cju2) ((revT t).flat) := by
            have hx := _qju2
            exact hx.eq (by rw [et]; first | exact (revT_l1 _ _).symm | exact (revT_l2a (by omega)).symm | exact (revT_l2b (by omega)).symm | exact revT_0y (by omega) | exact revT_0n (by omega))
          exact ret_intro [_] ⟨rfl, trivial⟩ ⟨_o_100, Lo.down _loju2 (by omega), E⟩
        clear _hK_97
        refine W_drawC [] 14 mixed rfl fun _w_101 _cw_101 => ?_
        have _cw_101z := _cw_101.size
        have E := E.trans _cw_101
        refine DR_s 0 rfl (by kernel_rfl) rfl rfl (t_v (fun _ => (r_move rfl)) ?_)
        refine DR_s 1 rfl (by kernel_rfl) rfl rfl (t_v (fun _ => (r_move rfl)) ?_)
        have _f_102 := ((_f_37.ch0 _cw_38).ch0 _cw_101)
        refine DR_s 2 rfl (by kernel_rfl) rfl rfl (t_cut (ys := (l.take ta.flat.length)) 0 ta.flat.length _f_102 Token.len el27 sz57 rfl rfl ⟨_, _, rfl, by omega⟩ (by omega) (by omega) rfl fun _v48 _q48 _bb48 _ln48 => ?_)
        obtain ⟨_A48, _C48, _e48⟩ := _q48.val
        subst _e48
        have _l48 := _q48.len
        refine DR_s 4 rfl (by kernel_rfl) rfl rfl (t_v (fun _ => (r_move rfl)) ?_)
        refine DR_s 5 rfl (by kernel_rfl) rfl rfl (t_v (fun _ => (r_move rfl)) ?_)
        refine DR_s 6 rfl (by kernel_rfl) rfl rfl (t_v (fun _ => (r_move rfl)) ?_)
        refine DR_s 7 rfl (by kernel_rfl) rfl rfl (t_cut (ys := ((l.drop ta.flat.length).take ((((l.length : Nat) : Int) - 1).toNat - ta.flat.length))) ta.flat.length ((((l.length : Nat) : Int) - 1).toNat) _f_102 Token.len el27 sz57 rfl ⟨_, _, rfl, by omega⟩ ⟨_, _, rfl, by omega⟩ (by omega) (by omega) rfl fun _v53 _q53 _bb53 _ln53 => ?_)
        obtain ⟨_A53, _C53, _e53⟩ := _q53.val
        subst _e53
        have _l53 := _q53.len
        have _f_103 := (_f_41.ch0 _cw_101)
        refine DR_s 10 rfl (by kernel_rfl) rfl rfl (t_loadAtA0 _f_103.at_ (fun i hi => absurd hi List.not_mem_nil) agg57 sz57 rfl ?_)
        refine DR_two 3 11 (by kernel_rfl) ?_ ?_
        · refine DO_s rfl rfl rfl ?_
          refine Step.call (r_call (xs := [.tmp 48]) fk60 rfl) (ih _q48 ta oa (cut_a hla (by omega)) (by simp only [List.length_take, List.length_drop]; omega) (by simp only [List.length_take, List.length_drop]; omega)) fun _v49 _w_104 _q49 => ?_
          obtain ⟨_q49, _lo49, _cw_104⟩ := _q49
          have _cw_104z := _cw_104.size
          have E := E.trans _cw_104
          obtain ⟨_Av49, _Cv49, _ev49⟩ := _q49.val
          subst _ev49
          have _lv49 := _q49.len
          have _hiv49 := _q49.lt
          have _S_105 : Ch [] _w_101 _w_104 := ((Ch.refl _ _).trans _cw_104)
          refine ⟨_S_105, ?_⟩
          refine DR_two 8 11 (by kernel_rfl) ?_ ?_
          · refine DO_s rfl rfl rfl ?_
            have _f_106 := (_q53.ch0 _cw_104)
            refine Step.call (r_call (xs := [.tmp 53]) fk60 rfl) (ih _f_106 tb ob (cut_b hla (by omega) (by omega)) (by simp only [List.length_take, List.length_drop]; omega) (by simp only [List.length_take, List.length_drop]; omega)) fun _v54 _w_107 _q54 => ?_
            obtain ⟨_q54, _lo54, _cw_107⟩ := _q54
            have _cw_107z := _cw_107.size
            have E := E.trans _cw_107
            obtain ⟨_Av54, _Cv54, _ev54⟩ := _q54.val
            subst _ev54
            have _lv54 := _q54.len
            have _hiv54 := _q54.lt
            have _S_108 : Ch [] _w_101 _w_107 := (_S_105.trans _cw_107)
            refine ⟨_S_108, ?_⟩
            refine DR_two 9 11 (by kernel_rfl) ?_ ?_
            · refine DO_s rfl rfl rfl ?_
              have _f_110 := (_q49.ch0 _cw_107)
              refine s_append (cs := Token.cs) el27 sz57 by57 zr57 rfl (by decide) Token.one _f_110 _q54.ls rfl rfl (by first | omega | (simp only [List.length_append, List.length_nil, List.length_cons, List.length_replicate, List.length_set, List.length_reverse, List.length_map] at *; omega) | (simp at *; omega)) (by first | omega | (simp only [List.length_append, List.length_nil, List.length_cons, List.length_replicate, List.length_set, List.length_reverse, List.length_map] at *; omega) | (simp at *; omega)) _lo49 (by omega) fun _v55 _w_109 _q55 _lo55 _ap55 _cw_109 => ?_
              have _cw_109z := _cw_109.size
              have E := E.step _cw_109 (fun i hi => .inl (by have _h1 := _lo49 _ hi; omega))
              obtain ⟨_Av55, _Cv55, _ev55⟩ := _q55.val
              subst _ev55
              have _lv55 := _q55.len
              have _hiv55 := _q55.lt
              have _S_111 : Ch [] _w_101 _w_109 := (_S_108.step _cw_109 (fun i hm => by left; have _h1 := _lo49 _ hm; have _h2 := _hiv49 _ hm; omega))
              refine ⟨_S_111, ?_⟩
              refine DR_one 11 (by kernel_rfl) ?_
              refine DO_s rfl rfl rfl ?_
              refine s_buildSlice (cs := Token.cs) (parts := [(0, .tmp 56)]) (⟨0, 0, 0, 0⟩ : Token) [_y11] el27 sz57 zr57 Token.len (by decide) rfl rfl rfl (by decide) (by decide) rfl fun _v57 _w_112 _q57 _lo57 _cw_112 => ?_
              have _cw_112z := _cw_112.size
              have E := E.trans _cw_112
              obtain ⟨_Av57, _Cv57, _ev57⟩ := _q57.val
              subst _ev57
              have _lv57 := _q57.len
              have _hiv57 := _q57.lt
              have _S_113 : Ch [] _w_101 _w_112 := (_S_111.trans _cw_112)
              refine ⟨_S_113, ?_⟩
              refine DR_one 12 (by kernel_rfl) ?_
              refine DO_s rfl rfl rfl ?_
              have _f_115 := (_q55.ch0 _cw_112)
              refine s_append (cs := Token.cs) el27 sz57 by57 zr57 rfl (by decide) Token.one _f_115 _q57.ls rfl rfl (by first | omega | (simp only [List.length_append, List.length_nil, List.length_cons, List.length_replicate, List.length_set, List.length_reverse, List.length_map] at *; omega) | (simp at *; omega)) (by first | omega | (simp only [List.length_append, List.length_nil, List.length_cons, List.length_replicate, List.length_set, List.length_reverse, List.length_map] at *; omega) | (simp at *; omega)) _lo55 (by omega) fun _v58 _w_114 _q58 _lo58 _ap58 _cw_114 => ?_
              have _cw_114z := _cw_114.size
              have E := E.step _cw_114 (fun i hi => .inl (by have _h1 := _lo55 _ hi; omega))
              obtain ⟨_Av58, _Cv58, _ev58⟩ := _q58.val
              subst _ev58
              have _lv58 := _q58.len
              have _hiv58 := _q58.lt
              have _S_116 : Ch [] _w_101 _w_114 := (_S_113.step _cw_114 (fun i hm => by rcases _ap55 with ea | ea; (rw [ea] at hm; left; have _h1 := _lo49 _ hm; have _h2 := _hiv49 _ hm; omega); (rw [ea] at hm; have _z1 := List.mem_singleton.1 hm; left; omega)))
              refine ⟨_S_116, ?_⟩
              refine DR_s 13 rfl (by kernel_rfl) rfl rfl (t_v (fun _ => (r_assign rfl)) ?_)
              refine DR_done (by kernel_rfl) ?_
              refine thn_nrm ?_
              exact _J_99 _ _ (.slice _Av58 ((((revT ta).flat ++ (revT tb).flat) ++ [_y11])).length _Cv58) (Sub.cons rfl (Sub.cons rfl (Sub.nil _))) (((((((Ch.refl [] _w_38).trans _cw_101).trans _cw_104).trans _cw_107).step _cw_109 (fun i hi => .inl (by have _h1 := _lo49 _ hi; omega))).trans _cw_112).step _cw_114 (fun i hi => .inl (by have _h1 := _lo55 _ hi; omega))) _q58 (Lo.down _lo58 (by omega))
            · refine DO_s rfl rfl rfl ?_
              refine s_buildSlice (cs := Token.cs) (parts := [(0, .tmp 56)]) (⟨0, 0, 0, 0⟩ : Token) [_y11] el27 sz57 zr57 Token.len (by decide) rfl rfl rfl (by decide) (by decide) rfl fun _v57 _w_117 _q57 _lo57 _cw_117 => ?_
              have _cw_117z := _cw_117.size
              have E := E.trans _cw_117
              obtain ⟨_Av57, _Cv57, _ev57⟩ := _q57.val
              subst _ev57
              have _lv57 := _q57.len
              have _hiv57 := _q57.lt
              have _S_118 : Ch [] _w_101 _w_117 := (_S_108.trans _cw_117)
              refine ⟨_S_118, ?_⟩
              refine DR_one 9 (by kernel_rfl) ?_
              refine DO_s rfl rfl rfl ?_
              have _f_120 := ((_q49.ch0 _cw_107).ch0 _cw_117)
              have _f_121 := (_q54.ch0 _cw_117)
              refine s_append (cs := Token.cs) el27 sz57 by57 zr57 rfl (by decide) Token.one _f_120 _f_121.ls rfl rfl (by first | omega | (simp only [List.length_append, List.length_nil, List.length_cons, List.length_replicate, List.length_set, List.length_reverse, List.length_map] at *; omega) | (simp at *; omega)) (by first | omega | (simp only [List.length_append, List.length_nil, List.length_cons, List.length_replicate, List.length_set, List.length_reverse, List.length_map] at *; omega) | (simp at *; omega)) _lo49 (by omega) fun _v55 _w_119 _q55 _lo55 _ap55 _cw_119 => ?_
              have _cw_119z := _cw_119.size
              have E := E.step _cw_119 (fun i hi => .inl (by have _h1 := _lo49 _ hi; omega))
              obtain ⟨_Av55, _Cv55, _ev55⟩ := _q55.val
              subst _ev55
              have _lv55 := _q55.len
              have _hiv55 := _q55.lt
              have _S_122 : Ch [] _w_101 _w_119 := (_S_118.step _cw_119 (fun i hm => by left; have _h1 := _lo49 _ hm; have _h2 := _hiv49 _ hm; omega))
              refine ⟨_S_122, ?_⟩
              refine DR_one 12 (by kernel_rfl) ?_
              refine DO_s rfl rfl rfl ?_
              have _f_124 := (_q57.ch _cw_119 (fun g hg hm => by have _h1 := _lo49 _ hm; have _h2 := _hiv49 _ hm; have _h3 := _lo57 _ hg; have _h4 := _hiv57 _ hg; omega))
              refine s_append (cs := Token.cs) el27 sz57 by57 zr57 rfl (by decide) Token.one _q55 _f_124.ls rfl rfl (by first | omega | (simp only [List.length_append, List.length_nil, List.length_cons, List.length_replicate, List.length_set, List.length_reverse, List.length_map] at *; omega) | (simp at *; omega)) (by first | omega | (simp only [List.length_append, List.length_nil, List.length_cons, List.length_replicate, List.length_set, List.length_reverse, List.length_map] at *; omega) | (simp at *; omega)) _lo55 (by omega) fun _v58 _w_123 _q58 _lo58 _ap58 _cw_123 => ?_
              have _cw_123z := _cw_123.size
              have E := E.step _cw_123 (fun i hi => .inl (by have _h1 := _lo55 _ hi; omega))
              obtain ⟨_Av58, _Cv58, _ev58⟩ := _q58.val
              subst _ev58
              have _lv58 := _q58.len
              have _hiv58 := _q58.lt
              have _S_125 : Ch [] _w_101 _w_123 := (_S_122.step _cw_123 (fun i hm => by rcases _ap55 with ea | ea; (rw [ea] at hm; left; have _h1 := _lo49 _ hm; have _h2 := _hiv49 _ hm; omega); (rw [ea] at hm; have _z1 := List.mem_singleton.1 hm; left; omega)))
              refine ⟨_S_125, ?_⟩
              refine DR_s 13 rfl (by kernel_rfl) rfl rfl (t_v (fun _ => (r_assign rfl)) ?_)
              refine DR_done (by kernel_rfl) ?_
              refine thn_nrm ?_
              exact _J_99 _ _ (.slice _Av58 ((((revT ta).flat ++ (revT tb).flat) ++ [_y11])).length _Cv58) (Sub.cons rfl (Sub.cons rfl (Sub.nil _))) (((((((Ch.refl [] _w_38).trans _cw_101).trans _cw_104).trans _cw_107).trans _cw_117).step _cw_119 (fun i hi => .inl (by have _h1 := _lo49 _ hi; omega))).step _cw_123 (fun i hi => .inl (by have _h1 := _lo55 _ hi; omega))) _q58 (Lo.down _lo58 (by omega))
          · refine DO_s rfl rfl rfl ?_
            refine s_buildSlice (cs := Token.cs) (parts := [(0, .tmp 56)]) (⟨0, 0, 0, 0⟩ : Token) [_y11] el27 sz57 zr57 Token.len (by decide) rfl rfl rfl (by decide) (by decide) rfl fun _v57 _w_126 _q57 _lo57 _cw_126 => ?_
            have _cw_126z := _cw_126.size
            have E := E.trans _cw_126
            obtain ⟨_Av57, _Cv57, _ev57⟩ := _q57.val
            subst _ev57
            have _lv57 := _q57.len
            have _hiv57 := _q57.lt
            have _S_127 : Ch [] _w_101 _w_126 := (_S_105.trans _cw_126)
            refine ⟨_S_127, ?_⟩
            refine DR_one 8 (by kernel_rfl) ?_
            refine DO_s rfl rfl rfl ?_
            have _f_128 := ((_q53.ch0 _cw_104).ch0 _cw_126)
            refine Step.call (r_call (xs := [.tmp 53]) fk60 rfl) (ih _f_128 tb ob (cut_b hla (by omega) (by omega)) (by simp only [List.length_take, List.length_drop]; omega) (by simp only [List.length_take, List.length_drop]; omega)) fun _v54 _w_129 _q54 => ?_
            obtain ⟨_q54, _lo54, _cw_129⟩ := _q54
            have _cw_129z := _cw_129.size
            have E := E.trans _cw_129
            obtain ⟨_Av54, _Cv54, _ev54⟩ := _q54.val
            subst _ev54
            have _lv54 := _q54.len
            have _hiv54 := _q54.lt
            have _S_130 : Ch [] _w_101 _w_129 := (_S_127.trans _cw_129)
            refine ⟨_S_130, ?_⟩
            refine DR_one 9 (by kernel_rfl) ?_
            refine DO_s rfl rfl rfl ?_
            have _f_132 := ((_q49.ch0 _cw_126).ch0 _cw_129)
            refine s_append (cs := Token.cs) el27 sz57 by57 zr57 rfl (by decide) Token.one _f_132 _q54.ls rfl rfl (by first | omega | (simp only [List.length_append, List.length_nil, List.length_cons, List.length_replicate, List.length_set, List.length_reverse, List.length_map] at *; omega) | (simp at *; omega)) (by first | omega | (simp only [List.length_append, List.length_nil, List.length_cons, List.length_replicate, List.length_set, List.length_reverse, List.length_map] at *; omega) | (simp at *; omega)) _lo49 (by omega) fun _v55 _w_131 _q55 _lo55 _ap55 _cw_131 => ?_
            have _cw_131z := _cw_131.size
            have E := E.step _cw_131 (fun i hi => .inl (by have _h1 := _lo49 _ hi; omega))
            obtain ⟨_Av55, _Cv55, _ev55⟩ := _q55.val
            subst _ev55
            have _lv55 := _q55.len
            have _hiv55 := _q55.lt
            have _S_133 : Ch [] _w_101 _w_131 := (_S_130.step _cw_131 (fun i hm => by left; have _h1 := _lo49 _ hm; have _h2 := _hiv49 _ hm; omega))
            refine ⟨_S_133, ?_⟩
            refine DR_one 12 (by kernel_rfl) ?_
            refine DO_s rfl rfl rfl ?_
            have _f_135 := ((_q57.ch0 _cw_129).ch _cw_131 (fun g hg hm => by have _h1 := _lo49 _ hm; have _h2 := _hiv49 _ hm; have _h3 := _lo57 _ hg; have _h4 := _hiv57 _ hg; omega))
            refine s_append (cs := Token.cs) el27 sz57 by57 zr57 rfl (by decide) Token.one _q55 _f_135.ls rfl rfl (by first | omega | (simp only [List.length_append, List.length_nil, List.length_cons, List.length_replicate, List.length_set, List.length_reverse, List.length_map] at *; omega) | (simp at *; omega)) (by first | omega | (simp only [List.length_append, List.length_nil, List.length_cons, List.length_replicate, List.length_set, List.length_reverse, List.length_map] at *; omega) | (simp at *; omega)) _lo55 (by omega) fun _v58 _w_134 _q58 _lo58 _ap58 _cw_134 => ?_
            have _cw_134z := _cw_134.size
            have E := E.step _cw_134 (fun i hi => .inl (by have _h1 := _lo55 _ hi; omega))
            obtain ⟨_Av58, _Cv58, _ev58⟩ := _q58.val
            subst _ev58
            have _lv58 := _q58.len
            have _hiv58 := _q58.lt
            have _S_136 : Ch [] _w_101 _w_134 := (_S_133.step _cw_134 (fun i hm => by rcases _ap55 with ea | ea; (rw [ea] at hm; left; have _h1 := _lo49 _ hm; have _h2 := _hiv49 _ hm; omega); (rw [ea] at hm; have _z1 := List.mem_singleton.1 hm; left; omega)))
            refine ⟨_S_136, ?_⟩
            refine DR_s 13 rfl (by kernel_rfl) rfl rfl (t_v (fun _ => (r_assign rfl)) ?_)
            refine DR_done (by kernel_rfl) ?_
            refine thn_nrm ?_
            exact _J_99 _ _ (.slice _Av58 ((((revT ta).flat ++ (revT tb).flat) ++ [_y11])).length _Cv58) (Sub.cons rfl (Sub.cons rfl (Sub.nil _))) (((((((Ch.refl [] _w_38).trans _cw_101).trans _cw_104).trans _cw_126).trans _cw_129).step _cw_131 (fun i hi => .inl (by have _h1 := _lo49 _ hi; omega))).step _cw_134 (fun i hi => .inl (by have _h1 := _lo55 _ hi; omega))) _q58 (Lo.down _lo58 (by omega))
        · refine DO_s rfl rfl rfl ?_
          refine s_buildSlice (cs := Token.cs) (parts := [(0, .tmp 56)]) (⟨0, 0, 0, 0⟩ : Token) [_y11] el27 sz57 zr57 Token.len (by decide) rfl rfl rfl (by decide) (by decide) rfl fun _v57 _w_137 _q57 _lo57 _cw_137 => ?_
          have _cw_137z := _cw_137.size
          have E := E.trans _cw_137
          obtain ⟨_Av57, _Cv57, _ev57⟩ := _q57.val
          subst _ev57
          have _lv57 := _q57.len
          have _hiv57 := _q57.lt
          have _S_138 : Ch [] _w_101 _w_137 := ((Ch.refl _ _).trans _cw_137)
          refine ⟨_S_138, ?_⟩
          refine DR_one 3 (by kernel_rfl) ?_
          refine DO_s rfl rfl rfl ?_
          have _f_139 := (_q48.ch0 _cw_137)
          refine Step.call (r_call (xs := [.tmp 48]) fk60 rfl) (ih _f_139 ta oa (cut_a hla (by omega)) (by simp only [List.length_take, List.length_drop]; omega) (by simp only [List.length_take, List.length_drop]; omega)) fun _v49 _w_140 _q49 => ?_
          obtain ⟨_q49, _lo49, _cw_140⟩ := _q49
          have _cw_140z := _cw_140.size
          have E := E.trans _cw_140
          obtain ⟨_Av49, _Cv49, _ev49⟩ := _q49.val
          subst _ev49
          have _lv49 := _q49.len
          have _hiv49 := _q49.lt
          have _S_141 : Ch [] _w_101 _w_140 := (_S_138.trans _cw_140)
          refine ⟨_S_141, ?_⟩
          refine DR_one 8 (by kernel_rfl) ?_
          refine DO_s rfl rfl rfl ?_
          have _f_142 := ((_q53.ch0 _cw_137).ch0 _cw_140)
          refine Step.call (r_call (xs := [.tmp 53]) fk60 rfl) (ih _f_142 tb ob (cut_b hla (by omega) (by omega)) (by simp only [List.length_take, List.length_drop]; omega) (by simp only [List.length_take, List.length_drop]; omega)) fun _v54 _w_143 _q54 => ?_
          obtain ⟨_q54, _lo54, _cw_143⟩ := _q54
          have _cw_143z := _cw_143.size
          have E := E.trans _cw_143
          obtain ⟨_Av54, _Cv54, _ev54⟩ := _q54.val
          subst _ev54
          have _lv54 := _q54.len
          have _hiv54 := _q54.lt
          have _S_144 : Ch [] _w_101 _w_143 := (_S_141.trans _cw_143)
          refine ⟨_S_144, ?_⟩
          refine DR_one 9 (by kernel_rfl) ?_
          refine DO_s rfl rfl rfl ?_
          have _f_146 := (_q49.ch0 _cw_143)
          refine s_append (cs := Token.cs) el27 sz57 by57 zr57 rfl (by decide) Token.one _f_146 _q54.ls rfl rfl (by first | omega | (simp only [List.length_append, List.length_nil, List.length_cons, List.length_replicate, List.length_set, List.length_reverse, List.length_map] at *; omega) | (simp at *; omega)) (by first | omega | (simp only [List.length_append, List.length_nil, List.length_cons, List.length_replicate, List.length_set, List.length_reverse, List.length_map] at *; omega) | (simp at *; omega)) _lo49 (by omega) fun _v55 _w_145 _q55 _lo55 _ap55 _cw_145 => ?_
          have _cw_145z := _cw_145.size
          have E := E.step _cw_145 (fun i hi => .inl (by have _h1 := _lo49 _ hi; omega))
          obtain ⟨_Av55, _Cv55, _ev55⟩ := _q55.val
          subst _ev55
          have _lv55 := _q55.len
          have _hiv55 := _q55.lt
          have _S_147 : Ch [] _w_101 _w_145 := (_S_144.step _cw_145 (fun i hm => by left; have _h1 := _lo49 _ hm; have _h2 := _hiv49 _ hm; omega))
          refine ⟨_S_147, ?_⟩
          refine DR_one 12 (by kernel_rfl) ?_
          refine DO_s rfl rfl rfl ?_
          have _f_149 := (((_q57.ch0 _cw_140).ch0 _cw_143).ch _cw_145 (fun g hg hm => by have _h1 := _lo49 _ hm; have _h2 := _hiv49 _ hm; have _h3 := _lo57 _ hg; have _h4 := _hiv57 _ hg; omega))
          refine s_append (cs := Token.cs) el27 sz57 by57 zr57 rfl (by decide) Token.one _q55 _f_149.ls rfl rfl (by first | omega | (simp only [List.length_append, List.length_nil, List.length_cons, List.length_replicate, List.length_set, List.length_reverse, List.length_map] at *; omega) | (simp at *; omega)) (by first | omega | (simp only [List.length_append, List.length_nil, List.length_cons, List.length_replicate, List.length_set, List.length_reverse, List.length_map] at *; omega) | (simp at *; omega)) _lo55 (by omega) fun _v58 _w_148 _q58 _lo58 _ap58 _cw_148 => ?_
          have _cw_148z := _cw_148.size
          have E := E.step _cw_148 (fun i hi => .inl (by have _h1 := _lo55 _ hi; omega))
          obtain ⟨_Av58, _Cv58, _ev58⟩ := _q58.val
          subst _ev58
          have _lv58 := _q58.len
          have _hiv58 := _q58.lt
          have _S_150 : Ch [] _w_101 _w_148 := (_S_147.step _cw_148 (fun i hm => by rcases _ap55 with ea | ea; (rw [ea] at hm; left; have _h1 := _lo49 _ hm; have _h2 := _hiv49 _ hm; omega); (rw [ea] at hm; have _z1 := List.mem_singleton.1 hm; left; omega)))
          refine ⟨_S_150, ?_⟩
          refine DR_s 13 rfl (by kernel_rfl) rfl rfl (t_v (fun _ => (r_assign rfl)) ?_)
          refine DR_done (by kernel_rfl) ?_
          refine thn_nrm ?_
          exact _J_99 _ _ (.slice _Av58 ((((revT ta).flat ++ (revT tb).flat) ++ [_y11])).length _Cv58) (Sub.cons rfl (Sub.cons rfl (Sub.nil _))) (((((((Ch.refl [] _w_38).trans _cw_101).trans _cw_137).trans _cw_140).trans _cw_143).step _cw_145 (fun i hi => .inl (by have _h1 := _lo49 _ hi; omega))).step _cw_148 (fun i hi => .inl (by have _h1 := _lo55 _ hi; omega))) _q58 (Lo.down _lo58 (by omega))
    · have _kb_35 := _h24
      have _h24 := bf_d _h24
      refine W_skip ?_
      refine inB_nrm ?_
      refine thn_nrm (_hK_7 _ _ ?_)
      clear _hK_7
      refine W_seq fun _K_151 _hK_151 => ?_
      refine W_seq fun _K_152 _hK_152 => ?_
      refine W_region ?_
      refine WL_step rfl rfl (r_fieldAddr fa57_0 rfl) ?_
      have _f_153 := (_m_6.ch0 _cw_9)
      refine WL_step rfl rfl (r_loadAt _f_153.at_ agg3 rfl rfl) ?_
      refine WL_step rfl rfl (r_eql rfl rfl) ?_
      refine WL_nil ?_
      refine thn_nrm (_hK_152 _ _ ?_)
      clear _hK_152
      refine W_cond rfl (fun _h61 => ?_) (fun _h61 => ?_)
      · have _kb_154 := _h61
        have _h61 := bt_d _h61
        have et := Okd.k0 (by omega) _ht
        refine W_region ?_
        refine WL_step rfl rfl (r_fieldAddr fa57_1 rfl) ?_
        refine WL_step rfl rfl (r_loadAt _f_153.at_ agg3 rfl rfl) ?_
        refine WL_s rfl rfl ?_
        refine Step.call (r_call (xs := [.tmp 63]) fk85 rfl) (c_spec_InverseLetter _ ) fun _v64 _w_155 _q64 => ?_
        obtain ⟨rfl, _cw_155⟩ := _q64
        have _cw_155z := _cw_155.size
        have E := E.trans _cw_155
        refine WL_step rfl rfl (r_fieldAddr fa57_1 rfl) ?_
        refine WL_s rfl rfl ?_
        have _f_156 := (_f_153.ch0 _cw_155)
        refine s_store1 (off := 1) _f_156 sz3 rfl rfl rfl rfl fun _w_157 _m_158 _cw_157 => ?_
        have _cw_157z := _cw_157.size
        have E := E.step _cw_157 (fun i hi => .inl (by have _h1 := List.mem_singleton.1 hi; omega))
        replace _m_158 : Blk _w_157 _b4 57 [(.int .i64 _y11.kind), (.int .i64 (invL _y11.letter)), (.int .i64 _y11.low), (.int .i64 _y11.high)] := _m_158
        refine WL_nil ?_
        refine thn_nrm (_hK_151 _ _ ?_)
        clear _hK_151
        refine W_seq fun _K_159 _hK_159 => ?_
        refine W_region ?_
        refine WL_step rfl rfl (r_loadAtA0 _m_158.at_ agg57 sz57 rfl) ?_
        refine WL_s rfl rfl ?_
        refine s_buildSlice (cs := Token.cs) (parts := [(0, .tmp 66)]) (⟨0, 0, 0, 0⟩ : Token) [(⟨_y11.kind, invL _y11.letter, _y11.low, _y11.high⟩ : Token)] el27 sz57 zr57 Token.len (by decide) rfl rfl rfl (by decide) (by decide) rfl fun _v67 _w_160 _q67 _lo67 _cw_160 => ?_
        have _cw_160z := _cw_160.size
        have E := E.trans _cw_160
        obtain ⟨_Av67, _Cv67, _ev67⟩ := _q67.val
        subst _ev67
        have _lv67 := _q67.len
        have _hiv67 := _q67.lt
        refine WL_step rfl rfl (r_assign rfl) ?_
        refine WL_nil ?_
        refine thn_nrm (_hK_159 _ _ ?_)
        clear _hK_159
        refine W_ret ?_
        have _o_161 : Ol Token.cs 57 4 _w_160 (.slice _Av67 ([(⟨_y11.kind, invL _y11.letter, _y11.low, _y11.high⟩ : Token)]).length _Cv67) ((revT t).flat) := by
          have hx := _q67
          exact hx.eq (by rw [et]; first | exact (revT_l1 _ _).symm | exact (revT_l2a (by omega)).symm | exact (revT_l2b (by omega)).symm | exact revT_0y (by omega) | exact revT_0n (by omega))
        exact ret_intro [_] ⟨rfl, trivial⟩ ⟨_o_161, Lo.down _lo67 (by omega), E⟩
      · have _kb_154 := _h61
        have _h61 := bf_d _h61
        have et := Okd.k0 (by omega) _ht
        refine W_skip ?_
        refine thn_nrm (_hK_151 _ _ ?_)
        clear _hK_151
        refine W_seq fun _K_162 _hK_162 => ?_
        refine W_region ?_
        refine WL_step rfl rfl (r_loadAtA0 _f_153.at_ agg57 sz57 rfl) ?_
        refine WL_s rfl rfl ?_
        refine s_buildSlice (cs := Token.cs) (parts := [(0, .tmp 66)]) (⟨0, 0, 0, 0⟩ : Token) [_y11] el27 sz57 zr57 Token.len (by decide) rfl rfl rfl (by decide) (by decide) rfl fun _v67 _w_163 _q67 _lo67 _cw_163 => ?_
        have _cw_163z := _cw_163.size
        have E := E.trans _cw_163
        obtain ⟨_Av67, _Cv67, _ev67⟩ := _q67.val
        subst _ev67
        have _lv67 := _q67.len
        have _hiv67 := _q67.lt
        refine WL_step rfl rfl (r_assign rfl) ?_
        refine WL_nil ?_
        refine thn_nrm (_hK_162 _ _ ?_)
        clear _hK_162
        refine W_ret ?_
        have _o_164 : Ol Token.cs 57 4 _w_163 (.slice _Av67 ([_y11]).length _Cv67) ((revT t).flat) := by
          have hx := _q67
          exact hx.eq (by rw [et]; first | exact (revT_l1 _ _).symm | exact (revT_l2a (by omega)).symm | exact (revT_l2b (by omega)).symm | exact revT_0y (by omega) | exact revT_0n (by omega))
        exact ret_intro [_] ⟨rfl, trivial⟩ ⟨_o_164, Lo.down _lo67 (by omega), E⟩
theorem c_spec_l8Reverse {w : World} {LL_l _B_l : Nat} {_v_l : Value} {l : List Token} (_h_l : Ls Token.cs 4 w LL_l _B_l _v_l l) (t : Tr) (hok : Okd t) (hl : l = t.flat) (hb : l.length ≤ 4194304) :
    Ctr Try.prog 60 #[_v_l] w (fun v w' => Ol Token.cs 57 4 w' v ((revT t).flat) ∧ Lo w.heap.size v ∧ Ch [] w w') := c_spec_l8Reverse_n _ _h_l t hok hl hb (Nat.lt_succ_self _)

/-- spec.ReverseExpr -/
theorem c_spec_ReverseExpr {w : World} {LL_e _B_e : Nat} {_v_e : Value} {e : List Token} (_h_e : Ls Token.cs 4 w LL_e _B_e _v_e e) (hb : e.length ≤ 1048576) :
    Ctr Try.prog 27 #[(.agg #[_v_e])] w (fun v w' => ∃ (u0x0 : Value), v = .tuple #[.agg #[u0x0], .bool ((revE e).2)] ∧ Ol Token.cs 57 4 w' u0x0 ((revE e).1) ∧ Lo w.heap.size u0x0 ∧ Ch [] w w') := by
  obtain ⟨_A_e, _C_e, _e1_e⟩ := _h_e.val
  subst _e1_e
  have _l_e := _h_e.len
  have _h_e := _h_e.here (by decide)
  have E := Ch.refl [] w
  refine Ctr_of_W (N := 12) (vs0 := [(.agg #[(.slice _A_e e.length _C_e)])]) Try.func27 rfl rfl rfl ?_
  refine W_seq fun _K_1 _hK_1 => ?_
  refine W_region ?_
  refine WL_s rfl rfl ?_
  refine s_box rfl fun _b1 _w_2 _m1 _cw_2 _e1 => ?_
  have _cw_2z := _cw_2.size
  have E := E.trans _cw_2
  have _z1 := _m1.lt
  replace _m1 : Blk _w_2 _b1 29 [(.slice _A_e e.length _C_e)] := _m1
  refine WL_s rfl rfl ?_
  refine s_alloc zr29 fun _b2 _w_3 _m2 _cw_3 _e2 => ?_
  have _cw_3z := _cw_3.size
  have E := E.trans _cw_3
  have _z2 := _m2.lt
  replace _m2 : Blk _w_3 _b2 29 [(.slice none 0 0)] := _m2
  refine WL_step rfl rfl (r_assign rfl) ?_
  refine WL_nil ?_
  refine thn_nrm (_hK_1 _ _ ?_)
  clear _hK_1
  refine W_seq fun _K_4 _hK_4 => ?_
  refine W_seq fun _K_5 _hK_5 => ?_
  refine W_region ?_
  have _f_6 := (_m1.ch0 _cw_3)
  refine WL_step rfl rfl (r_loadAtA0 _f_6.at_ agg29 sz29 rfl) ?_
  refine WL_s rfl rfl ?_
  have _f_7 := ((_h_e.ch0 _cw_2).ch0 _cw_3)
  refine Step.call (r_call (xs := [.tmp 4]) fk15 rfl) (c_spec_IsExpr _f_7 ) fun _v5 _w_8 _q5 => ?_
  obtain ⟨rfl, _cw_8⟩ := _q5
  have _cw_8z := _cw_8.size
  have E := E.trans _cw_8
  refine WL_step rfl rfl (r_not rfl) ?_
  refine WL_nil ?_
  refine thn_nrm (_hK_5 _ _ ?_)
  clear _hK_5
  refine W_cond rfl (fun _h6 => ?_) (fun _h6 => ?_)
  · have _kb_9 := _h6
    have _h6 := bt_n _h6
    refine W_seq fun _K_10 _hK_10 => ?_
    refine W_region ?_
    refine WL_step rfl rfl (r_build (parts := []) (cells := [(.slice none 0 0)]) zr29 pl29 rfl rfl) ?_
    refine WL_s rfl rfl ?_
    have _f_11 := (_m2.ch0 _cw_8)
    refine s_storeA (off := 0) 1 _f_11 sz29 rfl (us := [(.slice none 0 0)]) rfl rfl rfl rfl fun _w_12 _m_13 _cw_12 => ?_
    have _cw_12z := _cw_12.size
    have E := E.step _cw_12 (fun i hi => .inl (by have _h1 := List.mem_singleton.1 hi; omega))
    replace _m_13 : Blk _w_12 _b2 29 [(.slice none 0 0)] := _m_13
    refine WL_step rfl rfl (r_assign rfl) ?_
    refine WL_nil ?_
    refine thn_nrm (_hK_10 _ _ ?_)
    clear _hK_10
    refine W_ret (thn_ret ?_)
    clear _hK_4
    have _o_14 : Ol Token.cs 57 4 _w_12 (.slice none 0 0) ((revE e).1) := by
      have hx := (Ol.nil (cs := Token.cs) (e := 57) (k := 4) _w_12)
      first | (rw [revE_n (isE_n _h6)]; exact hx) | (rw [revE_y _e5]; exact hx)
    exact ret_intro [_, _] (resOf_loadA _m_13 rfl agg29 sz29 ⟨rfl, trivial⟩) ⟨(.slice none 0 0), (congrArg (fun zq => (Value.tuple #[.agg #[(.slice none 0 0)], .bool zq])) (by first | (rw [revE_n (isE_n _h6)]; done) | (rw [revE_y _e5]; done))), _o_14, (Lo.nil _), E⟩
  · have _kb_9 := _h6
    have _h6 := bf_n _h6
    obtain ⟨_t5, _e5, hok, hl⟩ := isE_y _h6
    refine W_skip ?_
    refine thn_nrm (_hK_4 _ _ ?_)
    clear _hK_4
    refine W_seq fun _K_15 _hK_15 => ?_
    refine W_region ?_
    refine WL_step rfl rfl (r_fieldAddr fa29_0 rfl) ?_
    have _f_16 := (_f_6.ch0 _cw_8)
    refine WL_step rfl rfl (r_loadAt _f_16.at_ agg27 rfl rfl) ?_
    refine WL_s rfl rfl ?_
    have _f_17 := (_f_7.ch0 _cw_8)
    refine Step.call (r_call (xs := [.tmp 9]) fk60 rfl) (c_spec_l8Reverse _f_17 _t5 hok hl (by omega)) fun _v10 _w_18 _q10 => ?_
    obtain ⟨_q10, _lo10, _cw_18⟩ := _q10
    have _cw_18z := _cw_18.size
    have E := E.trans _cw_18
    obtain ⟨_Av10, _Cv10, _ev10⟩ := _q10.val
    subst _ev10
    have _lv10 := _q10.len
    have _hiv10 := _q10.lt
    refine WL_step rfl rfl (r_build (parts := [(0, .tmp 10)]) (cells := [(.slice _Av10 ((revT _t5).flat).length _Cv10)]) zr29 pl29 rfl rfl) ?_
    refine WL_s rfl rfl ?_
    have _f_19 := ((_m2.ch0 _cw_8).ch0 _cw_18)
    refine s_storeA (off := 0) 1 _f_19 sz29 rfl (us := [(.slice _Av10 ((revT _t5).flat).length _Cv10)]) rfl rfl rfl rfl fun _w_20 _m_21 _cw_20 => ?_
    have _cw_20z := _cw_20.size
    have E := E.step _cw_20 (fun i hi => .inl (by have _h1 := List.mem_singleton.1 hi; omega))
    replace _m_21 : Blk _w_20 _b2 29 [(.slice _Av10 ((revT _t5).flat).length _Cv10)] := _m_21
    refine WL_step rfl rfl (r_assign rfl) ?_
    refine WL_nil ?_
    refine thn_nrm (_hK_15 _ _ ?_)
    clear _hK_15
    refine W_ret ?_
    have _f_22 := (_q10.ch _cw_20 (fun g hg hm => by have _h0 := List.mem_singleton.1 hm; have _h2 := _lo10 _ hg; have _h3 := _hiv10 _ hg; omega))
    have _o_23 : Ol Token.cs 57 4 _w_20 (.slice _Av10 ((revT _t5).flat).length _Cv10) ((revE e).1) := by
      have hx := _f_22
      first | (rw [revE_n (isE_n _h6)]; exact hx) | (rw [revE_y _e5]; exact hx)
    exact ret_intro [_, _] (resOf_loadA _m_21 rfl agg29 sz29 ⟨rfl, trivial⟩) ⟨(.slice _Av10 ((revT _t5).flat).length _Cv10), (congrArg (fun zq => (Value.tuple #[.agg #[(.slice _Av10 ((revT _t5).flat).length _Cv10)], .bool zq])) (by first | (rw [revE_n (isE_n _h6)]; done) | (rw [revE_y _e5]; done))), _o_23, (Lo.down _lo10 (by omega)), E⟩

/-- laws.FnExactReverseExpr -/
theorem c_laws_FnExactReverseExpr {w : World} {LL_e _B_e : Nat} {_v_e : Value} {e : List Token} (_h_e : Ls Token.cs 4 w LL_e _B_e _v_e e) :
    Ctr Try.prog 7 #[(.agg #[_v_e])] w (fun v w' => v = .bool (true) ∧ Ch [] w w') := by
  obtain ⟨_A_e, _C_e, _e1_e⟩ := _h_e.val
  subst _e1_e
  have _l_e := _h_e.len
  have _h_e := _h_e.here (by decide)
  have E := Ch.refl [] w
  have sl := revE_len e
  refine Ctr_of_W (N := 96) (vs0 := [(.agg #[(.slice _A_e e.length _C_e)])]) Try.func7 rfl rfl rfl ?_
  refine W_seq fun _K_1 _hK_1 => ?_
  refine W_region ?_
  refine WL_s rfl rfl ?_
  refine s_box rfl fun _b1 _w_2 _m1 _cw_2 _e1 => ?_
  have _cw_2z := _cw_2.size
  have E := E.trans _cw_2
  have _z1 := _m1.lt
  replace _m1 : Blk _w_2 _b1 24 [(.slice _A_e e.length _C_e)] := _m1
  refine WL_step rfl rfl (r_assign rfl) ?_
  refine WL_nil ?_
  refine thn_nrm (_hK_1 _ _ ?_)
  clear _hK_1
  refine W_seq fun _K_3 _hK_3 => ?_
  refine W_region ?_
  refine WL_step rfl rfl (r_assign rfl) ?_
  refine WL_nil ?_
  refine thn_nrm (_hK_3 _ _ ?_)
  clear _hK_3
  refine W_seq fun _K_4 _hK_4 => ?_
  refine W_region ?_
  refine WL_step rfl rfl (r_loadAtA0 _m1.at_ agg24 sz24 rfl) ?_
  refine WL_step rfl rfl (r_move rfl) ?_
  refine WL_s rfl rfl ?_
  have _f_5 := (_h_e.ch0 _cw_2)
  refine Step.call (r_call (xs := [.tmp 14, .tmp 15]) fk14 rfl) (c_laws_szExpr _f_5 _ (by omega) (by omega)) fun _v16 _w_6 _q16 => ?_
  obtain ⟨rfl, _cw_6⟩ := _q16
  have _cw_6z := _cw_6.size
  have E := E.trans _cw_6
  refine WL_step rfl rfl (r_assign rfl) ?_
  refine WL_nil ?_
  refine thn_nrm (_hK_4 _ _ ?_)
  clear _hK_4
  refine W_seq fun _K_7 _hK_7 => ?_
  refine W_seq fun _K_8 _hK_8 => ?_
  refine W_region ?_
  refine WL_step rfl rfl (r_move rfl) ?_
  refine WL_step rfl rfl (r_lss rfl rfl) ?_
  refine WL_nil ?_
  refine thn_nrm (_hK_8 _ _ ?_)
  clear _hK_8
  refine W_cond rfl (fun _h18 => ?_) (fun _h18 => ?_)
  · have _kb_9 := _h18
    have _h18 := bt_d _h18
    refine W_seq fun _K_10 _hK_10 => ?_
    refine W_region ?_
    refine WL_step rfl rfl (r_assign rfl) ?_
    refine WL_nil ?_
    refine thn_nrm (_hK_10 _ _ ?_)
    clear _hK_10
    refine W_ret (thn_ret ?_)
    clear _hK_7
    exact ret_intro [_] ⟨rfl, trivial⟩ ⟨congrArg Value.bool (by first | rfl | (exfalso; omega) | (exfalso; revert _h18; simp; done) | (exfalso; revert _h18; simp; omega)), E⟩
  · have _kb_9 := _h18
    have _h18 := bf_d _h18
    refine W_skip ?_
    refine thn_nrm (_hK_7 _ _ ?_)
    clear _hK_7
    refine W_seq fun _K_11 _hK_11 => ?_
    refine W_region ?_
    have _f_12 := (_m1.ch0 _cw_6)
    refine WL_step rfl rfl (r_loadAtA0 _f_12.at_ agg24 sz24 rfl) ?_
    refine WL_s rfl rfl ?_
    have _f_13 := (_f_5.ch0 _cw_6)
    refine Step.call (r_call (xs := [.tmp 20]) fk16 rfl) (c_laws_toExpr _f_13 (by omega)) fun _v21 _w_14 _q21 => ?_
    obtain ⟨_u21, rfl, _q21, _lo21, _cw_14⟩ := _q21
    have _cw_14z := _cw_14.size
    have E := E.trans _cw_14
    obtain ⟨_Au21, _Cu21, _eu21⟩ := _q21.val
    subst _eu21
    have _lu21 := _q21.len
    have _hiu21 := _q21.lt
    refine WL_s rfl rfl ?_
    refine Step.call (r_call (xs := [.tmp 21]) fk27 rfl) (c_spec_ReverseExpr _q21.ls (by omega)) fun _v22 _w_15 _q22 => ?_
    obtain ⟨u22_0x0, rfl, _q_u22_0x0, _lo_u22_0x0, _cw_15⟩ := _q22
    have _cw_15z := _cw_15.size
    have E := E.trans _cw_15
    obtain ⟨Au22_0x0, Cu22_0x0, eu22_0x0⟩ := _q_u22_0x0.val
    subst eu22_0x0
    have lu22_0x0 := _q_u22_0x0.len
    have _hiu22_0x0 := _q_u22_0x0.lt
    refine WL_step rfl rfl (r_move rfl) ?_
    refine WL_step rfl rfl (r_extract rfl rfl) ?_
    refine WL_step rfl rfl (r_extract rfl rfl) ?_
    refine WL_s rfl rfl ?_
    refine s_alloc zr29 fun _b4 _w_16 _m4 _cw_16 _e4 => ?_
    have _cw_16z := _cw_16.size
    have E := E.trans _cw_16
    have _z4 := _m4.lt
    replace _m4 : Blk _w_16 _b4 29 [(.slice none 0 0)] := _m4
    refine WL_s rfl rfl ?_
    refine s_storeA (off := 0) 1 _m4 sz29 rfl (us := [(.slice Au22_0x0 ((revE e).1).length Cu22_0x0)]) rfl rfl rfl rfl fun _w_17 _m_18 _cw_17 => ?_
    have _cw_17z := _cw_17.size
    have E := E.step _cw_17 (fun i hi => .inl (by have _h1 := List.mem_singleton.1 hi; omega))
    replace _m_18 : Blk _w_17 _b4 29 [(.slice Au22_0x0 ((revE e).1).length Cu22_0x0)] := _m_18
    refine WL_step rfl rfl (r_assign rfl) ?_
    refine WL_nil ?_
    refine thn_nrm (_hK_11 _ _ ?_)
    clear _hK_11
    refine W_seq fun _K_19 _hK_19 => ?_
    refine W_region ?_
    have _f_20 := ((((_f_12.ch0 _cw_14).ch0 _cw_15).ch0 _cw_16).ch _cw_17 (fun hm => by have _h1 := List.mem_singleton.1 hm; omega))
    refine WL_step rfl rfl (r_loadAtA0 _f_20.at_ agg24 sz24 rfl) ?_
    refine WL_s rfl rfl ?_
    have _f_21 := ((((_f_13.ch0 _cw_14).ch0 _cw_15).ch0 _cw_16).ch _cw_17 (fun i hi => by have _h1 := List.mem_singleton.1 hi; omega))
    refine Step.call (r_call (xs := [.tmp 25]) fk16 rfl) (c_laws_toExpr _f_21 (by omega)) fun _v26 _w_22 _q26 => ?_
    obtain ⟨_u26, rfl, _q26, _lo26, _cw_22⟩ := _q26
    have _cw_22z := _cw_22.size
    have E := E.trans _cw_22
    obtain ⟨_Au26, _Cu26, _eu26⟩ := _q26.val
    subst _eu26
    have _lu26 := _q26.len
    have _hiu26 := _q26.lt
    refine WL_s rfl rfl ?_
    refine s_alloc zr29 fun _b6 _w_23 _m6 _cw_23 _e6 => ?_
    have _cw_23z := _cw_23.size
    have E := E.trans _cw_23
    have _z6 := _m6.lt
    replace _m6 : Blk _w_23 _b6 29 [(.slice none 0 0)] := _m6
    refine WL_s rfl rfl ?_
    refine s_storeA (off := 0) 1 _m6 sz29 rfl (us := [(.slice _Au26 (e).length _Cu26)]) rfl rfl rfl rfl fun _w_24 _m_25 _cw_24 => ?_
    have _cw_24z := _cw_24.size
    have E := E.step _cw_24 (fun i hi => .inl (by have _h1 := List.mem_singleton.1 hi; omega))
    replace _m_25 : Blk _w_24 _b6 29 [(.slice _Au26 (e).length _Cu26)] := _m_25
    refine WL_nil ?_
    refine thn_nrm (_hK_19 _ _ ?_)
    clear _hK_19
    refine W_seq fun _K_26 _hK_26 => ?_
    refine W_region ?_
    refine WL_step rfl rfl (r_loadAtA0 _m_25.at_ agg29 sz29 rfl) ?_
    refine WL_s rfl rfl ?_
    have _f_27 := ((_q26.ch0 _cw_23).ch _cw_24 (fun g hg hm => by have _h0 := List.mem_singleton.1 hm; have _h2 := _lo26 _ hg; have _h3 := _hiu26 _ hg; omega))
    refine Step.call (r_call (xs := [.tmp 28]) fk28 rfl) (c_impl_ReverseExpr _f_27.ls (by omega)) fun _v29 _w_28 _q29 => ?_
    obtain ⟨u29_0x0, rfl, _q_u29_0x0, _lo_u29_0x0, _cw_28⟩ := _q29
    have _cw_28z := _cw_28.size
    have E := E.trans _cw_28
    obtain ⟨Au29_0x0, Cu29_0x0, eu29_0x0⟩ := _q_u29_0x0.val
    subst eu29_0x0
    have lu29_0x0 := _q_u29_0x0.len
    have _hiu29_0x0 := _q_u29_0x0.lt
    refine WL_step rfl rfl (r_move rfl) ?_
    refine WL_step rfl rfl (r_extract rfl rfl) ?_
    refine WL_step rfl rfl (r_extract rfl rfl) ?_
    refine WL_s rfl rfl ?_
    refine s_alloc zr29 fun _b7 _w_29 _m7 _cw_29 _e7 => ?_
    have _cw_29z := _cw_29.size
    have E := E.trans _cw_29
    have _z7 := _m7.lt
    replace _m7 : Blk _w_29 _b7 29 [(.slice none 0 0)] := _m7
    refine WL_s rfl rfl ?_
    refine s_storeA (off := 0) 1 _m7 sz29 rfl (us := [(.slice Au29_0x0 ((revE e).1).length Cu29_0x0)]) rfl rfl rfl rfl fun _w_30 _m_31 _cw_30 => ?_
    have _cw_30z := _cw_30.size
    have E := E.step _cw_30 (fun i hi => .inl (by have _h1 := List.mem_singleton.1 hi; omega))
    replace _m_31 : Blk _w_30 _b7 29 [(.slice Au29_0x0 ((revE e).1).length Cu29_0x0)] := _m_31
    refine WL_step rfl rfl (r_assign rfl) ?_
    refine WL_nil ?_
    refine thn_nrm (_hK_26 _ _ ?_)
    clear _hK_26
    refine W_seq fun _K_32 _hK_32 => ?_
    refine W_seq fun _K_33 _hK_33 => ?_
    refine W_region ?_
    refine WL_step rfl rfl (r_loadAtA0 _m_31.at_ agg29 sz29 rfl) ?_
    have _f_34 := ((((((_m_18.ch0 _cw_22).ch0 _cw_23).ch _cw_24 (fun hm => by have _h1 := List.mem_singleton.1 hm; omega)).ch0 _cw_28).ch0 _cw_29).ch _cw_30 (fun hm => by have _h1 := List.mem_singleton.1 hm; omega))
    refine WL_step rfl rfl (r_loadAtA0 _f_34.at_ agg29 sz29 rfl) ?_
    refine WL_s rfl rfl ?_
    have _f_35 := ((_q_u29_0x0.ch0 _cw_29).ch _cw_30 (fun g hg hm => by have _h0 := List.mem_singleton.1 hm; have _h2 := _lo_u29_0x0 _ hg; have _h3 := _hiu29_0x0 _ hg; omega))
    have _f_36 := ((((((((_q_u22_0x0.ch0 _cw_16).ch _cw_17 (fun g hg hm => by have _h0 := List.mem_singleton.1 hm; have _h2 := _lo_u22_0x0 _ hg; have _h3 := _hiu22_0x0 _ hg; omega)).ch0 _cw_22).ch0 _cw_23).ch _cw_24 (fun g hg hm => by have _h0 := List.mem_singleton.1 hm; have _h2 := _lo_u22_0x0 _ hg; have _h3 := _hiu22_0x0 _ hg; omega)).ch0 _cw_28).ch0 _cw_29).ch _cw_30 (fun g hg hm => by have _h0 := List.mem_singleton.1 hm; have _h2 := _lo_u22_0x0 _ hg; have _h3 := _hiu22_0x0 _ hg; omega))
    refine Step.call (r_call (xs := [.tmp 32, .tmp 33]) fk18 rfl) (c_laws_eqExpr _f_35.ls _f_36.ls ) fun _v34 _w_37 _q34 => ?_
    obtain ⟨rfl, _cw_37⟩ := _q34
    have _cw_37z := _cw_37.size
    have E := E.trans _cw_37
    refine WL_step rfl rfl (r_not rfl) ?_
    refine WL_step rfl rfl (r_move rfl) ?_
    refine WL_split (d := 36) rfl (fun _h36 => ?_) (fun _h36 => ?_)
    · have _kb_38 := _h36
      have _h36 := bf_d (bt_n _h36)
      refine WL_skip rfl rfl ?_
      refine WL_skip rfl rfl ?_
      refine WL_skip rfl rfl ?_
      refine WL_step rfl rfl (r_pickT rfl rfl) ?_
      refine WL_nil ?_
      refine thn_nrm (_hK_33 _ _ ?_)
      clear _hK_33
      refine W_condT rfl ?_
      refine W_seq fun _K_39 _hK_39 => ?_
      refine W_region ?_
      refine WL_step rfl rfl (r_assign rfl) ?_
      refine WL_nil ?_
      refine thn_nrm (_hK_39 _ _ ?_)
      clear _hK_39
      refine W_ret (thn_ret ?_)
      clear _hK_32
      exact ret_intro [_] ⟨rfl, trivial⟩ ⟨congrArg Value.bool (by first | rfl | (exfalso; omega) | (exfalso; revert _h36; simp; done) | (exfalso; revert _h36; simp; omega)), E⟩
    · have _kb_38 := _h36
      have _h36 := bt_d (bf_n _h36)
      refine WL_step rfl rfl (r_move rfl) ?_
      refine WL_step rfl rfl (r_move rfl) ?_
      refine WL_step rfl rfl (r_neqB un4 rfl rfl) ?_
      refine WL_step rfl rfl (r_pickF rfl rfl) ?_
      refine WL_nil ?_
      refine thn_nrm (_hK_33 _ _ ?_)
      clear _hK_33
      refine W_cond rfl (fun _h40 => ?_) (fun _h40 => ?_)
      · have _kb_40 := _h40
        have _h40 := bf_e (bt_n _h40)
        refine W_seq fun _K_41 _hK_41 => ?_
        refine W_region ?_
        refine WL_step rfl rfl (r_assign rfl) ?_
        refine WL_nil ?_
        refine thn_nrm (_hK_41 _ _ ?_)
        clear _hK_41
        refine W_ret (thn_ret ?_)
        clear _hK_32
        exact ret_intro [_] ⟨rfl, trivial⟩ ⟨congrArg Value.bool (by first | rfl | (exfalso; omega) | (exfalso; revert _h40; simp; done) | (exfalso; revert _h40; simp; omega)), E⟩
      · have _kb_40 := _h40
        have _h40 := bt_e (bf_n _h40)
        refine W_skip ?_
        refine thn_nrm (_hK_32 _ _ ?_)
        clear _hK_32
        refine W_seq fun _K_42 _hK_42 => ?_
        refine W_seq fun _K_43 _hK_43 => ?_
        refine W_drawC [] 5 mixed rfl fun _w_44 _cw_44 => ?_
        have _cw_44z := _cw_44.size
        have E := E.trans _cw_44
        have _f_45 := (((((_m_25.ch0 _cw_28).ch0 _cw_29).ch _cw_30 (fun hm => by have _h1 := List.mem_singleton.1 hm; omega)).ch0 _cw_37).ch0 _cw_44)
        refine DR_s 0 rfl (by kernel_rfl) rfl rfl (t_loadAtA0 _f_45.at_ (fun i hi => absurd hi List.not_mem_nil) agg29 sz29 rfl ?_)
        have _f_46 := ((((((((_f_20.ch0 _cw_22).ch0 _cw_23).ch _cw_24 (fun hm => by have _h1 := List.mem_singleton.1 hm; omega)).ch0 _cw_28).ch0 _cw_29).ch _cw_30 (fun hm => by have _h1 := List.mem_singleton.1 hm; omega)).ch0 _cw_37).ch0 _cw_44)
        refine DR_s 1 rfl (by kernel_rfl) rfl rfl (t_loadAtA0 _f_46.at_ (fun i hi => absurd hi List.not_mem_nil) agg24 sz24 rfl ?_)
        refine DR_one 2 (by kernel_rfl) ?_
        refine DO_s rfl rfl rfl ?_
        have _f_47 := ((((((((_f_21.ch0 _cw_22).ch0 _cw_23).ch _cw_24 (fun i hi => by have _h1 := List.mem_singleton.1 hi; omega)).ch0 _cw_28).ch0 _cw_29).ch _cw_30 (fun i hi => by have _h1 := List.mem_singleton.1 hi; omega)).ch0 _cw_37).ch0 _cw_44)
        refine Step.call (r_call (xs := [.tmp 42]) fk16 rfl) (c_laws_toExpr _f_47 (by omega)) fun _v43 _w_48 _q43 => ?_
        obtain ⟨_u43, rfl, _q43, _lo43, _cw_48⟩ := _q43
        have _cw_48z := _cw_48.size
        have E := E.trans _cw_48
        obtain ⟨_Au43, _Cu43, _eu43⟩ := _q43.val
        subst _eu43
        have _lu43 := _q43.len
        have _hiu43 := _q43.lt
        have _S_49 : Ch [] _w_44 _w_48 := ((Ch.refl _ _).trans _cw_48)
        refine ⟨_S_49, ?_⟩
        refine DR_one 3 (by kernel_rfl) ?_
        refine DO_s rfl rfl rfl ?_
        have _f_50 := ((((((_f_27.ch0 _cw_28).ch0 _cw_29).ch _cw_30 (fun g hg hm => by have _h0 := List.mem_singleton.1 hm; have _h2 := _lo26 _ hg; have _h3 := _hiu26 _ hg; omega)).ch0 _cw_37).ch0 _cw_44).ch0 _cw_48)
        refine Step.call (r_call (xs := [.tmp 41, .tmp 43]) fk18 rfl) (c_laws_eqExpr _f_50.ls _q43.ls ) fun _v44 _w_51 _q44 => ?_
        obtain ⟨rfl, _cw_51⟩ := _q44
        have _cw_51z := _cw_51.size
        have E := E.trans _cw_51
        have _S_52 : Ch [] _w_44 _w_51 := (_S_49.trans _cw_51)
        refine ⟨_S_52, ?_⟩
        refine DR_s 4 rfl (by kernel_rfl) rfl rfl (t_v (fun _ => (r_not rfl)) ?_)
        refine DR_done (by kernel_rfl) ?_
        refine thn_nrm (_hK_43 _ _ ?_)
        clear _hK_43
        refine W_cond rfl (fun _h45 => ?_) (fun _h45 => ?_)
        · have _kb_53 := _h45
          have _h45 := bf_d (bt_n _h45)
          refine W_seq fun _K_54 _hK_54 => ?_
          refine W_region ?_
          refine WL_step rfl rfl (r_assign rfl) ?_
          refine WL_nil ?_
          refine thn_nrm (_hK_54 _ _ ?_)
          clear _hK_54
          refine W_ret (thn_ret ?_)
          clear _hK_42
          exact ret_intro [_] ⟨rfl, trivial⟩ ⟨congrArg Value.bool (by first | rfl | (exfalso; omega) | (exfalso; revert _h45; simp; done) | (exfalso; revert _h45; simp; omega)), E⟩
        · have _kb_53 := _h45
          have _h45 := bt_d (bf_n _h45)
          refine W_skip ?_
          refine thn_nrm (_hK_42 _ _ ?_)
          clear _hK_42
          refine W_seq fun _K_55 _hK_55 => ?_
          refine W_region ?_
          refine WL_step rfl rfl (r_assign rfl) ?_
          refine WL_nil ?_
          refine thn_nrm (_hK_55 _ _ ?_)
          clear _hK_55
          refine W_seq fun _K_56 _hK_56 => ?_
          refine W_region ?_
          have _f_57 := ((_f_45.ch0 _cw_48).ch0 _cw_51)
          refine WL_step rfl rfl (r_loadAtA0 _f_57.at_ agg29 sz29 rfl) ?_
          refine WL_step rfl rfl (r_move rfl) ?_
          refine WL_s rfl rfl ?_
          have _f_58 := (_f_50.ch0 _cw_51)
          refine Step.call (r_call (xs := [.tmp 46, .tmp 47]) fk25 rfl) (c_laws_markExpr _f_58 _ (by omega) (by first | omega | (simp <;> omega))) fun _v48 _w_59 _q48 => ?_
          obtain ⟨rfl, _q48, _cw_59⟩ := _q48
          have _cw_59z := _cw_59.size
          have E := E.step _cw_59 (fun i hi => .inl (by have _h1 := _lo26 _ hi; omega))
          refine WL_step rfl rfl (r_assign rfl) ?_
          refine WL_nil ?_
          refine thn_nrm (_hK_56 _ _ ?_)
          clear _hK_56
          refine W_seq fun _K_60 _hK_60 => ?_
          refine W_seq fun _K_61 _hK_61 => ?_
          refine W_region ?_
          refine WL_step rfl rfl (r_move rfl) ?_
          refine WL_step rfl rfl (r_lss rfl rfl) ?_
          refine WL_step rfl rfl (r_move rfl) ?_
          refine WL_split (d := 51) rfl (fun _h51 => ?_) (fun _h51 => ?_)
          · have _kb_62 := _h51
            have _h51 := bt_d _h51
            refine WL_skip rfl rfl ?_
            refine WL_skip rfl rfl ?_
            refine WL_skip rfl rfl ?_
            refine WL_skip rfl rfl ?_
            refine WL_step rfl rfl (r_pickT rfl rfl) ?_
            refine WL_step rfl rfl (r_move rfl) ?_
            refine WL_skip rfl rfl ?_
            refine WL_skip rfl rfl ?_
            refine WL_skip rfl rfl ?_
            refine WL_step rfl rfl (r_pickT rfl rfl) ?_
            refine WL_nil ?_
            refine thn_nrm (_hK_61 _ _ ?_)
            clear _hK_61
            refine W_condT rfl ?_
            refine W_seq fun _K_63 _hK_63 => ?_
            refine W_region ?_
            refine WL_step rfl rfl (r_assign rfl) ?_
            refine WL_nil ?_
            refine thn_nrm (_hK_63 _ _ ?_)
            clear _hK_63
            refine W_ret (thn_ret ?_)
            clear _hK_60
            exact ret_intro [_] ⟨rfl, trivial⟩ ⟨congrArg Value.bool (by first | rfl | (exfalso; omega) | (exfalso; revert _h51; simp; done) | (exfalso; revert _h51; simp; omega)), E⟩
          · have _kb_62 := _h51
            have _h51 := bf_d _h51
            have _f_64 := (((((_m_31.ch0 _cw_37).ch0 _cw_44).ch0 _cw_48).ch0 _cw_51).ch _cw_59 (fun hm => by have _h1 := _lo26 _ hm; have _h2 := _hiu26 _ hm; omega))
            refine WL_step rfl rfl (r_loadAtA0 _f_64.at_ agg29 sz29 rfl) ?_
            have _f_65 := (((((_f_34.ch0 _cw_37).ch0 _cw_44).ch0 _cw_48).ch0 _cw_51).ch _cw_59 (fun hm => by have _h1 := _lo26 _ hm; have _h2 := _hiu26 _ hm; omega))
            refine WL_step rfl rfl (r_loadAtA0 _f_65.at_ agg29 sz29 rfl) ?_
            refine WL_s rfl rfl ?_
            have _f_66 := (((((_f_35.ch0 _cw_37).ch0 _cw_44).ch0 _cw_48).ch0 _cw_51).ch _cw_59 (fun g hg hm => by have _h1 := _lo26 _ hm; have _h2 := _hiu26 _ hm; have _h3 := _lo_u29_0x0 _ hg; have _h4 := _hiu29_0x0 _ hg; omega))
            have _f_67 := (((((_f_36.ch0 _cw_37).ch0 _cw_44).ch0 _cw_48).ch0 _cw_51).ch _cw_59 (fun g hg hm => by have _h1 := _lo26 _ hm; have _h2 := _hiu26 _ hm; have _h3 := _lo_u22_0x0 _ hg; have _h4 := _hiu22_0x0 _ hg; omega))
            refine Step.call (r_call (xs := [.tmp 52, .tmp 53]) fk18 rfl) (c_laws_eqExpr _f_66.ls _f_67.ls ) fun _v54 _w_68 _q54 => ?_
            obtain ⟨rfl, _cw_68⟩ := _q54
            have _cw_68z := _cw_68.size
            have E := E.trans _cw_68
            refine WL_step rfl rfl (r_not rfl) ?_
            refine WL_step rfl rfl (r_pickF rfl rfl) ?_
            refine WL_step rfl rfl (r_move rfl) ?_
            refine WL_splitF (d := 57) rfl _kb_38 ?_
            refine WL_step rfl rfl (r_move rfl) ?_
            refine WL_step rfl rfl (r_move rfl) ?_
            refine WL_step rfl rfl (r_neqB un4 rfl rfl) ?_
            refine WL_step rfl rfl (r_pickF rfl rfl) ?_
            refine WL_nil ?_
            refine thn_nrm (_hK_61 _ _ ?_)
            clear _hK_61
            refine W_condFk rfl _kb_40 ?_
            refine W_skip ?_
            refine thn_nrm (_hK_60 _ _ ?_)
            clear _hK_60
            refine W_seq fun _K_69 _hK_69 => ?_
            refine W_region ?_
            refine WL_step rfl rfl (r_assign rfl) ?_
            refine WL_nil ?_
            refine thn_nrm (_hK_69 _ _ ?_)
            clear _hK_69
            refine W_seq fun _K_70 _hK_70 => ?_
            refine W_region ?_
            have _f_71 := (_f_64.ch0 _cw_68)
            refine WL_step rfl rfl (r_loadAtA0 _f_71.at_ agg29 sz29 rfl) ?_
            refine WL_step rfl rfl (r_move rfl) ?_
            refine WL_s rfl rfl ?_
            have _f_72 := (_f_66.ch0 _cw_68)
            refine Step.call (r_call (xs := [.tmp 62, .tmp 63]) fk25 rfl) (c_laws_markExpr _f_72 _ (by omega) (by first | omega | (simp <;> omega))) fun _v64 _w_73 _q64 => ?_
            obtain ⟨rfl, _q64, _cw_73⟩ := _q64
            have _cw_73z := _cw_73.size
            have E := E.step _cw_73 (fun i hi => .inl (by have _h1 := _lo_u29_0x0 _ hi; omega))
            refine WL_step rfl rfl (r_assign rfl) ?_
            refine WL_nil ?_
            refine thn_nrm (_hK_70 _ _ ?_)
            clear _hK_70
            refine W_seq fun _K_74 _hK_74 => ?_
            refine W_region ?_
            refine WL_step rfl rfl (r_assign rfl) ?_
            refine WL_nil ?_
            refine thn_nrm (_hK_74 _ _ ?_)
            clear _hK_74
            refine W_seq fun _K_75 _hK_75 => ?_
            refine W_region ?_
            have _f_76 := (_f_71.ch _cw_73 (fun hm => by have _h1 := _lo_u29_0x0 _ hm; have _h2 := _hiu29_0x0 _ hm; omega))
            refine WL_step rfl rfl (r_loadAtA0 _f_76.at_ agg29 sz29 rfl) ?_
            refine WL_step rfl rfl (r_move rfl) ?_
            refine WL_s rfl rfl ?_
            refine Step.call (r_call (xs := [.tmp 65, .tmp 66]) fk26 rfl) (c_laws_heldExpr _q64.ls _ (by omega) (by first | omega | (simp <;> omega))) fun _v67 _w_77 _q67 => ?_
            obtain ⟨rfl, _cw_77⟩ := _q67
            have _cw_77z := _cw_77.size
            have E := E.trans _cw_77
            refine WL_step rfl rfl (r_assign rfl) ?_
            refine WL_nil ?_
            refine thn_nrm (_hK_75 _ _ ?_)
            clear _hK_75
            refine W_seq fun _K_78 _hK_78 => ?_
            refine W_seq fun _K_79 _hK_79 => ?_
            refine W_region ?_
            refine WL_step rfl rfl (r_move rfl) ?_
            refine WL_step rfl rfl (r_lss rfl rfl) ?_
            refine WL_nil ?_
            refine thn_nrm (_hK_79 _ _ ?_)
            clear _hK_79
            refine W_cond rfl (fun _h69 => ?_) (fun _h69 => ?_)
            · have _kb_80 := _h69
              have _h69 := bt_d _h69
              refine W_seq fun _K_81 _hK_81 => ?_
              refine W_region ?_
              refine WL_step rfl rfl (r_assign rfl) ?_
              refine WL_nil ?_
              refine thn_nrm (_hK_81 _ _ ?_)
              clear _hK_81
              refine W_ret (thn_ret ?_)
              clear _hK_78
              exact ret_intro [_] ⟨rfl, trivial⟩ ⟨congrArg Value.bool (by first | rfl | (exfalso; omega) | (exfalso; revert _h69; simp; done) | (exfalso; revert _h69; simp; omega)), E⟩
            · have _kb_80 := _h69
              have _h69 := bf_d _h69
              refine W_skip ?_
              refine thn_nrm (_hK_78 _ _ ?_)
              clear _hK_78
              refine W_seq fun _K_82 _hK_82 => ?_
              refine W_seq fun _K_83 _hK_83 => ?_
              refine W_region ?_
              refine WL_step rfl rfl (r_move rfl) ?_
              refine WL_step rfl rfl (r_move rfl) ?_
              refine WL_step rfl rfl (r_neq rfl rfl) ?_
              refine WL_nil ?_
              refine thn_nrm (_hK_83 _ _ ?_)
              clear _hK_83
              refine W_cond rfl (fun _h72 => ?_) (fun _h72 => ?_)
              · have _kb_84 := _h72
                have _h72 := bf_d (bt_n _h72)
                refine W_seq fun _K_85 _hK_85 => ?_
                refine W_region ?_
                refine WL_step rfl rfl (r_assign rfl) ?_
                refine WL_nil ?_
                refine thn_nrm (_hK_85 _ _ ?_)
                clear _hK_85
                refine W_ret (thn_ret ?_)
                clear _hK_82
                exact ret_intro [_] ⟨rfl, trivial⟩ ⟨congrArg Value.bool (by first | rfl | (exfalso; omega) | (exfalso; revert _h72; simp; done) | (exfalso; revert _h72; simp; omega)), E⟩
              · have _kb_84 := _h72
                have _h72 := bt_d (bf_n _h72)
                refine W_skip ?_
                refine thn_nrm (_hK_82 _ _ ?_)
                clear _hK_82
                refine W_seq fun _K_86 _hK_86 => ?_
                refine W_region ?_
                have _f_87 := ((((((_f_46.ch0 _cw_48).ch0 _cw_51).ch _cw_59 (fun hm => by have _h1 := _lo26 _ hm; have _h2 := _hiu26 _ hm; omega)).ch0 _cw_68).ch _cw_73 (fun hm => by have _h1 := _lo_u29_0x0 _ hm; have _h2 := _hiu29_0x0 _ hm; omega)).ch0 _cw_77)
                refine WL_step rfl rfl (r_loadAtA0 _f_87.at_ agg24 sz24 rfl) ?_
                refine WL_s rfl rfl ?_
                have _f_88 := ((((((_f_47.ch0 _cw_48).ch0 _cw_51).ch _cw_59 (fun i hi => by have _h1 := _lo26 _ hi; omega)).ch0 _cw_68).ch _cw_73 (fun i hi => by have _h1 := _lo_u29_0x0 _ hi; omega)).ch0 _cw_77)
                refine Step.call (r_call (xs := [.tmp 74]) fk16 rfl) (c_laws_toExpr _f_88 (by omega)) fun _v75 _w_89 _q75 => ?_
                obtain ⟨_u75, rfl, _q75, _lo75, _cw_89⟩ := _q75
                have _cw_89z := _cw_89.size
                have E := E.trans _cw_89
                obtain ⟨_Au75, _Cu75, _eu75⟩ := _q75.val
                subst _eu75
                have _lu75 := _q75.len
                have _hiu75 := _q75.lt
                refine WL_s rfl rfl ?_
                refine Step.call (r_call (xs := [.tmp 75]) fk28 rfl) (c_impl_ReverseExpr _q75.ls (by omega)) fun _v76 _w_90 _q76 => ?_
                obtain ⟨u76_0x0, rfl, _q_u76_0x0, _lo_u76_0x0, _cw_90⟩ := _q76
                have _cw_90z := _cw_90.size
                have E := E.trans _cw_90
                obtain ⟨Au76_0x0, Cu76_0x0, eu76_0x0⟩ := _q_u76_0x0.val
                subst eu76_0x0
                have lu76_0x0 := _q_u76_0x0.len
                have _hiu76_0x0 := _q_u76_0x0.lt
                refine WL_step rfl rfl (r_move rfl) ?_
                refine WL_step rfl rfl (r_extract rfl rfl) ?_
                refine WL_step rfl rfl (r_extract rfl rfl) ?_
                refine WL_s rfl rfl ?_
                refine s_alloc zr29 fun _b12 _w_91 _m12 _cw_91 _e12 => ?_
                have _cw_91z := _cw_91.size
                have E := E.trans _cw_91
                have _z12 := _m12.lt
                replace _m12 : Blk _w_91 _b12 29 [(.slice none 0 0)] := _m12
                refine WL_s rfl rfl ?_
                refine s_storeA (off := 0) 1 _m12 sz29 rfl (us := [(.slice Au76_0x0 ((revE e).1).length Cu76_0x0)]) rfl rfl rfl rfl fun _w_92 _m_93 _cw_92 => ?_
                have _cw_92z := _cw_92.size
                have E := E.step _cw_92 (fun i hi => .inl (by have _h1 := List.mem_singleton.1 hi; omega))
                replace _m_93 : Blk _w_92 _b12 29 [(.slice Au76_0x0 ((revE e).1).length Cu76_0x0)] := _m_93
                refine WL_step rfl rfl (r_assign rfl) ?_
                refine WL_nil ?_
                refine thn_nrm (_hK_86 _ _ ?_)
                clear _hK_86
                refine W_seq fun _K_94 _hK_94 => ?_
                refine W_seq fun _K_95 _hK_95 => ?_
                refine W_region ?_
                refine WL_step rfl rfl (r_loadAtA0 _m_93.at_ agg29 sz29 rfl) ?_
                have _f_96 := (((((((_f_65.ch0 _cw_68).ch _cw_73 (fun hm => by have _h1 := _lo_u29_0x0 _ hm; have _h2 := _hiu29_0x0 _ hm; omega)).ch0 _cw_77).ch0 _cw_89).ch0 _cw_90).ch0 _cw_91).ch _cw_92 (fun hm => by have _h1 := List.mem_singleton.1 hm; omega))
                refine WL_step rfl rfl (r_loadAtA0 _f_96.at_ agg29 sz29 rfl) ?_
                refine WL_s rfl rfl ?_
                have _f_97 := ((_q_u76_0x0.ch0 _cw_91).ch _cw_92 (fun g hg hm => by have _h0 := List.mem_singleton.1 hm; have _h2 := _lo_u76_0x0 _ hg; have _h3 := _hiu76_0x0 _ hg; omega))
                have _f_98 := (((((((_f_67.ch0 _cw_68).ch _cw_73 (fun g hg hm => by have _h1 := _lo_u29_0x0 _ hm; have _h2 := _hiu29_0x0 _ hm; have _h3 := _lo_u22_0x0 _ hg; have _h4 := _hiu22_0x0 _ hg; omega)).ch0 _cw_77).ch0 _cw_89).ch0 _cw_90).ch0 _cw_91).ch _cw_92 (fun g hg hm => by have _h0 := List.mem_singleton.1 hm; have _h2 := _lo_u22_0x0 _ hg; have _h3 := _hiu22_0x0 _ hg; omega))
                refine Step.call (r_call (xs := [.tmp 79, .tmp 80]) fk18 rfl) (c_laws_eqExpr _f_97.ls _f_98.ls ) fun _v81 _w_99 _q81 => ?_
                obtain ⟨rfl, _cw_99⟩ := _q81
                have _cw_99z := _cw_99.size
                have E := E.trans _cw_99
                refine WL_step rfl rfl (r_not rfl) ?_
                refine WL_step rfl rfl (r_move rfl) ?_
                refine WL_splitF (d := 83) rfl _kb_38 ?_
                refine WL_step rfl rfl (r_move rfl) ?_
                refine WL_step rfl rfl (r_move rfl) ?_
                refine WL_step rfl rfl (r_neqB un4 rfl rfl) ?_
                refine WL_step rfl rfl (r_pickF rfl rfl) ?_
                refine WL_nil ?_
                refine thn_nrm (_hK_95 _ _ ?_)
                clear _hK_95
                refine W_condFk rfl _kb_40 ?_
                refine W_skip ?_
                refine thn_nrm (_hK_94 _ _ ?_)
                clear _hK_94
                refine W_seq fun _K_100 _hK_100 => ?_
                refine W_region ?_
                refine WL_step rfl rfl (r_assign rfl) ?_
                refine WL_nil ?_
                refine thn_nrm (_hK_100 _ _ ?_)
                clear _hK_100
                refine W_seq fun _K_101 _hK_101 => ?_
                refine W_region ?_
                have _f_102 := ((((((_f_76.ch0 _cw_77).ch0 _cw_89).ch0 _cw_90).ch0 _cw_91).ch _cw_92 (fun hm => by have _h1 := List.mem_singleton.1 hm; omega)).ch0 _cw_99)
                refine WL_step rfl rfl (r_loadAtA0 _f_102.at_ agg29 sz29 rfl) ?_
                refine WL_step rfl rfl (r_move rfl) ?_
                refine WL_s rfl rfl ?_
                have _f_103 := ((((((_q64.ch0 _cw_77).ch0 _cw_89).ch0 _cw_90).ch0 _cw_91).ch _cw_92 (fun g hg hm => by have _h0 := List.mem_singleton.1 hm; have _h2 := _lo_u29_0x0 _ hg; have _h3 := _hiu29_0x0 _ hg; omega)).ch0 _cw_99)
                refine Step.call (r_call (xs := [.tmp 88, .tmp 89]) fk26 rfl) (c_laws_heldExpr _f_103.ls _ (by omega) (by first | omega | (simp <;> omega))) fun _v90 _w_104 _q90 => ?_
                obtain ⟨rfl, _cw_104⟩ := _q90
                have _cw_104z := _cw_104.size
                have E := E.trans _cw_104
                refine WL_step rfl rfl (r_assign rfl) ?_
                refine WL_nil ?_
                refine thn_nrm (_hK_101 _ _ ?_)
                clear _hK_101
                refine W_seq fun _K_105 _hK_105 => ?_
                refine W_seq fun _K_106 _hK_106 => ?_
                refine W_region ?_
                refine WL_step rfl rfl (r_move rfl) ?_
                refine WL_step rfl rfl (r_lss rfl rfl) ?_
                refine WL_nil ?_
                refine thn_nrm (_hK_106 _ _ ?_)
                clear _hK_106
                refine W_condFk rfl _kb_80 ?_
                refine W_skip ?_
                refine thn_nrm (_hK_105 _ _ ?_)
                clear _hK_105
                refine W_seq fun _K_107 _hK_107 => ?_
                refine W_seq fun _K_108 _hK_108 => ?_
                refine W_region ?_
                refine WL_step rfl rfl (r_move rfl) ?_
                refine WL_step rfl rfl (r_move rfl) ?_
                refine WL_step rfl rfl (r_neq rfl rfl) ?_
                refine WL_nil ?_
                refine thn_nrm (_hK_108 _ _ ?_)
                clear _hK_108
                refine W_condFk rfl _kb_84 ?_
                refine W_skip ?_
                refine thn_nrm (_hK_107 _ _ ?_)
                clear _hK_107
                refine W_seq fun _K_109 _hK_109 => ?_
                refine W_region ?_
                refine WL_step rfl rfl (r_assign rfl) ?_
                refine WL_nil ?_
                refine thn_nrm (_hK_109 _ _ ?_)
                clear _hK_109
                refine W_ret ?_
                exact ret_intro [_] ⟨rfl, trivial⟩ ⟨congrArg Value.bool (by first | rfl | (exfalso; omega) | (exfalso; revert _h72; simp; done) | (exfalso; revert _h72; simp; omega)), E⟩

end Go.Proofs.Ytjjmjmbihonicaa
