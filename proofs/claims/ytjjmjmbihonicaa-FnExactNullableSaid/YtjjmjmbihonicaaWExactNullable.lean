/- The walks of all functions that FnExactNullable reaches: what each returns, and that it leaves the memory that was there alone. -/
import Derived.Test.YtjjmjmbihonicaaKF
import Derived.Test.YtjjmjmbihonicaaKG
import Derived.Test.YtjjmjmbihonicaaKH
import Derived.Test.YtjjmjmbihonicaaKI
import Derived.Test.YtjjmjmbihonicaaKJ
import Derived.Test.YtjjmjmbihonicaaKM
import Derived.Test.YtjjmjmbihonicaaKN
import Derived.Test.YtjjmjmbihonicaaKO
import Derived.Test.YtjjmjmbihonicaaKP
import Derived.Test.YtjjmjmbihonicaaKQ
import Derived.Test.YtjjmjmbihonicaaKR
import Derived.Test.YtjjmjmbihonicaaKS
import Derived.Test.YtjjmjmbihonicaaKT
import Derived.Test.YtjjmjmbihonicaaKU
import Derived.Test.YtjjmjmbihonicaaProg
namespace Go.Proofs.Ytjjmjmbihonicaa
open Go.KLib
set_option maxRecDepth 20000
theorem agg22 : aggB Try.prog 22 = some false := by kernel_rfl
theorem agg24 : aggB Try.prog 24 = some true := by kernel_rfl
theorem agg27 : aggB Try.prog 27 = some false := by kernel_rfl
theorem agg29 : aggB Try.prog 29 = some true := by kernel_rfl
theorem agg3 : aggB Try.prog 3 = some false := by kernel_rfl
theorem agg57 : aggB Try.prog 57 = some true := by kernel_rfl
theorem agg59 : aggB Try.prog 59 = some false := by kernel_rfl
theorem agg66 : aggB Try.prog 66 = some false := by kernel_rfl
theorem agg90 : aggB Try.prog 90 = some true := by kernel_rfl
theorem by57 : bytesB Try.prog 57 = some 32 := by kernel_rfl
theorem by59 : bytesB Try.prog 59 = some 8 := by kernel_rfl
theorem el22 : elB Try.prog 22 = some 90 := by kernel_rfl
theorem el27 : elB Try.prog 27 = some 57 := by kernel_rfl
theorem el66 : elB Try.prog 66 = some 59 := by kernel_rfl
theorem fa24_0 : faB Try.prog 24 0 = some 0 := by kernel_rfl
theorem fa29_0 : faB Try.prog 29 0 = some 0 := by kernel_rfl
theorem fa57_0 : faB Try.prog 57 0 = some 0 := by kernel_rfl
theorem fa57_1 : faB Try.prog 57 1 = some 1 := by kernel_rfl
theorem fa57_2 : faB Try.prog 57 2 = some 2 := by kernel_rfl
theorem fa57_3 : faB Try.prog 57 3 = some 3 := by kernel_rfl
theorem fa68_0 : faB Try.prog 68 0 = some 0 := by kernel_rfl
theorem fa68_1 : faB Try.prog 68 1 = some 4 := by kernel_rfl
theorem fa90_0 : faB Try.prog 90 0 = some 0 := by kernel_rfl
theorem fa90_1 : faB Try.prog 90 1 = some 1 := by kernel_rfl
theorem fa90_2 : faB Try.prog 90 2 = some 2 := by kernel_rfl
theorem fa90_3 : faB Try.prog 90 3 = some 3 := by kernel_rfl
theorem fk14 : fnB Try.prog 14 = true := by kernel_rfl
theorem fk15 : fnB Try.prog 15 = true := by kernel_rfl
theorem fk16 : fnB Try.prog 16 = true := by kernel_rfl
theorem fk18 : fnB Try.prog 18 = true := by kernel_rfl
theorem fk21 : fnB Try.prog 21 = true := by kernel_rfl
theorem fk22 : fnB Try.prog 22 = true := by kernel_rfl
theorem fk48 : fnB Try.prog 48 = true := by kernel_rfl
theorem fk49 : fnB Try.prog 49 = true := by kernel_rfl
theorem fk50 : fnB Try.prog 50 = true := by kernel_rfl
theorem fk51 : fnB Try.prog 51 = true := by kernel_rfl
theorem fk52 : fnB Try.prog 52 = true := by kernel_rfl
theorem fk53 : fnB Try.prog 53 = true := by kernel_rfl
theorem fk54 : fnB Try.prog 54 = true := by kernel_rfl
theorem fk56 : fnB Try.prog 56 = true := by kernel_rfl
theorem fk62 : fnB Try.prog 62 = true := by kernel_rfl
theorem fk64 : fnB Try.prog 64 = true := by kernel_rfl
theorem fk79 : fnB Try.prog 79 = true := by kernel_rfl
theorem fk80 : fnB Try.prog 80 = true := by kernel_rfl
theorem fk81 : fnB Try.prog 81 = true := by kernel_rfl
theorem fk82 : fnB Try.prog 82 = true := by kernel_rfl
theorem fk83 : fnB Try.prog 83 = true := by kernel_rfl
theorem fk92 : fnB Try.prog 92 = true := by kernel_rfl
theorem ist57 : intStructB Try.prog 57 4 = true := by kernel_rfl
theorem mixed : Try.prog.follows .mixedOrders = true := by kernel_rfl
theorem pl57 : placesB Try.prog 57 = some [(0, 1), (1, 1), (2, 1), (3, 1)] := by kernel_rfl
theorem pl68 : placesB Try.prog 68 = some [(0, 4), (4, 1)] := by kernel_rfl
theorem ptr59 : ptrB Try.prog 59 = true := by kernel_rfl
theorem sz24 : sizeB Try.prog 24 = some 1 := by kernel_rfl
theorem sz27 : sizeB Try.prog 27 = some 1 := by kernel_rfl
theorem sz29 : sizeB Try.prog 29 = some 1 := by kernel_rfl
theorem sz3 : sizeB Try.prog 3 = some 1 := by kernel_rfl
theorem sz57 : sizeB Try.prog 57 = some 4 := by kernel_rfl
theorem sz59 : sizeB Try.prog 59 = some 1 := by kernel_rfl
theorem sz90 : sizeB Try.prog 90 = some 4 := by kernel_rfl
theorem un4 : Try.prog.underlying 4 = some (.bool) := by kernel_rfl
theorem zr29 : zeroB Try.prog 29 = some (.agg #[.slice none 0 0]) := by kernel_rfl
theorem zr57 : zeroB Try.prog 57 = some (.agg #[.int .i64 0, .int .i64 0, .int .i64 0, .int .i64 0]) := by kernel_rfl
theorem zr59 : zeroB Try.prog 59 = some (.pointer none) := by kernel_rfl
theorem zr68 : zeroB Try.prog 68 = some (.agg #[.int .i64 0, .int .i64 0, .int .i64 0, .int .i64 0, .slice none 0 0]) := by kernel_rfl

/-- impl.tree).nullable -/
theorem c_impl_tree_nullable_n : ∀ (n : Nat) {w : World} {_B_x : Nat} {p_x : Addr} {x : Tr} (_h_x : TrAt w _B_x p_x x) (hok : Okd x) (hsz : x.sz < n),
    Ctr Try.prog 54 #[(.pointer (some p_x))] w (fun v w' => v = .bool (nullT x) ∧ Ch [] w w') := by
  intro n
  induction n with
  | zero => intros; omega
  | succ n ih =>
  intro w _B_x p_x x _h_x hok hsz
  have _h_x := _h_x.here
  obtain ⟨_A_x, _C_x, _ps_x, _hc_x, _hk_x, _kd_x⟩ := _h_x.open
  have _kl_x := _kd_x.1
  have E := Ch.refl [] w
  have ol := hok.len
  refine Ctr_of_W (N := 64) (vs0 := [(.pointer (some p_x))]) Try.func54 rfl rfl rfl ?_
  refine W_seq fun _K_1 _hK_1 => ?_
  refine W_region ?_
  refine WL_step rfl rfl (r_assign rfl) ?_
  refine WL_nil ?_
  refine thn_nrm (_hK_1 _ _ ?_)
  clear _hK_1
  refine W_seq fun _K_2 _hK_2 => ?_
  refine W_seq fun _K_3 _hK_3 => ?_
  refine W_region ?_
  refine WL_step rfl rfl (r_move rfl) ?_
  refine WL_step rfl rfl (r_nilCheck rfl) ?_
  refine WL_step rfl rfl (r_fieldAddr fa68_0 rfl) ?_
  refine WL_step rfl rfl (r_fieldAddrN (n := 0) fa57_0 rfl rfl) ?_
  refine WL_step rfl rfl (r_loadAt _hc_x agg3 rfl rfl) ?_
  refine WL_nil ?_
  refine thn_nrm (_hK_3 _ _ ?_)
  clear _hK_3
  refine W_block ?_
  refine W_seq fun _K_4 _hK_4 => ?_
  refine W_seq fun _K_5 _hK_5 => ?_
  refine W_region ?_
  refine WL_step rfl rfl (r_eql rfl rfl) ?_
  refine WL_step rfl rfl (r_assign rfl) ?_
  refine WL_nil ?_
  refine thn_nrm (_hK_5 _ _ ?_)
  clear _hK_5
  refine W_cond rfl (fun _h8 => ?_) (fun _h8 => ?_)
  · have _kb_6 := _h8
    have _h8 := bt_d _h8
    refine W_skip ?_
    refine thn_nrm (_hK_4 _ _ ?_)
    clear _hK_4
    refine W_condTk rfl _kb_6 ?_
    refine W_seq fun _K_7 _hK_7 => ?_
    refine W_region ?_
    refine WL_step rfl rfl (r_assign rfl) ?_
    refine WL_nil ?_
    refine thn_nrm (_hK_7 _ _ ?_)
    clear _hK_7
    refine W_ret (inB_ret (thn_ret ?_))
    clear _hK_2
    exact ret_intro [_] ⟨rfl, trivial⟩ ⟨congrArg Value.bool (by first | exact null26 hok (by omega) | exact null0 hok (by omega) | exact null4f hok (by omega) ht17 _h20 | exact null4t hok (by omega) ht17 ht25 _h20 | exact null5t hok (by omega) ht35 _h38 | exact null5f hok (by omega) ht35 ht43 _h38 | exact null7t hok (by omega) (by omega) | exact null7f hok (by omega) ht60 (by omega)), E⟩
  · have _kb_6 := _h8
    have _h8 := bf_d _h8
    refine W_region ?_
    refine WL_step rfl rfl (r_eql rfl rfl) ?_
    refine WL_step rfl rfl (r_assign rfl) ?_
    refine WL_nil ?_
    refine thn_nrm (_hK_4 _ _ ?_)
    clear _hK_4
    refine W_cond rfl (fun _h8 => ?_) (fun _h8 => ?_)
    · have _kb_8 := _h8
      have _h8 := bt_d _h8
      refine W_seq fun _K_9 _hK_9 => ?_
      refine W_region ?_
      refine WL_step rfl rfl (r_assign rfl) ?_
      refine WL_nil ?_
      refine thn_nrm (_hK_9 _ _ ?_)
      clear _hK_9
      refine W_ret (inB_ret (thn_ret ?_))
      clear _hK_2
      exact ret_intro [_] ⟨rfl, trivial⟩ ⟨congrArg Value.bool (by first | exact null26 hok (by omega) | exact null0 hok (by omega) | exact null4f hok (by omega) ht17 _h20 | exact null4t hok (by omega) ht17 ht25 _h20 | exact null5t hok (by omega) ht35 _h38 | exact null5f hok (by omega) ht35 ht43 _h38 | exact null7t hok (by omega) (by omega) | exact null7f hok (by omega) ht60 (by omega)), E⟩
    · have _kb_8 := _h8
      have _h8 := bf_d _h8
      refine W_seq fun _K_10 _hK_10 => ?_
      refine W_region ?_
      refine WL_step rfl rfl (r_eql rfl rfl) ?_
      refine WL_step rfl rfl (r_assign rfl) ?_
      refine WL_nil ?_
      refine thn_nrm (_hK_10 _ _ ?_)
      clear _hK_10
      refine W_cond rfl (fun _h11 => ?_) (fun _h11 => ?_)
      · have _kb_11 := _h11
        have _h11 := bt_d _h11
        refine W_seq fun _K_12 _hK_12 => ?_
        refine W_region ?_
        refine WL_step rfl rfl (r_move rfl) ?_
        refine WL_step rfl rfl (r_nilCheck rfl) ?_
        refine WL_step rfl rfl (r_fieldAddr fa68_1 rfl) ?_
        refine WL_step rfl rfl (r_loadAt _hc_x agg66 rfl rfl) ?_
        refine WL_s rfl rfl ?_
        refine (s_index (j := 0) _hk_x acs_len el66 sz59 rfl rfl rfl (by omega) fun _p17 _y17 _hy17 _a17 => ?_)
        obtain ⟨_t17, ht17, _tr17⟩ := _kd_x.get _hy17
        obtain ⟨_A_17, _C_17, _ps_17, _hc_17, _hk_17, _kd_17⟩ := _tr17.open
        have _kl_17 := _kd_17.1
        replace _a17 : At w w.heap.size _p17 ([(.pointer (some _y17))]) := _a17
        refine WL_step rfl rfl (r_loadAt0 _a17 agg59 rfl rfl) ?_
        refine WL_s rfl rfl ?_
        refine Step.call (r_call (xs := [.tmp 18]) fk54 rfl) (ih _tr17 (hok.kid ht17) (by have := Tr.kid_sz ht17; omega)) fun _v19 _w_13 _q19 => ?_
        obtain ⟨rfl, _cw_13⟩ := _q19
        have _cw_13z := _cw_13.size
        have E := E.trans _cw_13
        refine WL_step rfl rfl (r_move rfl) ?_
        refine WL_split (d := 20) rfl (fun _h20 => ?_) (fun _h20 => ?_)
        · have _kb_14 := _h20
          refine WL_step rfl rfl (r_move rfl) ?_
          refine WL_step rfl rfl (r_nilCheck rfl) ?_
          refine WL_step rfl rfl (r_fieldAddr fa68_1 rfl) ?_
          have _f_15 := (_hc_x.ch0 _cw_13)
          refine WL_step rfl rfl (r_loadAt _f_15 agg66 rfl rfl) ?_
          refine WL_s rfl rfl ?_
          have _f_16 := (_hk_x.ch0 _cw_13)
          refine (s_index (j := 1) _f_16 acs_len el66 sz59 rfl rfl rfl (by omega) fun _p25 _y25 _hy25 _a25 => ?_)
          have _f_17 := (_kd_x.ch0 _cw_13)
          obtain ⟨_t25, ht25, _tr25⟩ := _f_17.get _hy25
          obtain ⟨_A_25, _C_25, _ps_25, _hc_25, _hk_25, _kd_25⟩ := _tr25.open
          have _kl_25 := _kd_25.1
          replace _a25 : At _w_13 w.heap.size _p25 ([(.pointer (some _y25))]) := _a25
          refine WL_step rfl rfl (r_loadAt0 _a25 agg59 rfl rfl) ?_
          refine WL_s rfl rfl ?_
          refine Step.call (r_call (xs := [.tmp 26]) fk54 rfl) (ih _tr25 (hok.kid ht25) (by have := Tr.kid_sz ht25; omega)) fun _v27 _w_18 _q27 => ?_
          obtain ⟨rfl, _cw_18⟩ := _q27
          have _cw_18z := _cw_18.size
          have E := E.trans _cw_18
          refine WL_step rfl rfl (r_pickT rfl rfl) ?_
          refine WL_step rfl rfl (r_assign rfl) ?_
          refine WL_nil ?_
          refine thn_nrm (_hK_12 _ _ ?_)
          clear _hK_12
          refine W_ret (inB_ret (thn_ret ?_))
          clear _hK_2
          exact ret_intro [_] ⟨rfl, trivial⟩ ⟨congrArg Value.bool (by first | exact null26 hok (by omega) | exact null0 hok (by omega) | exact null4f hok (by omega) ht17 _h20 | exact null4t hok (by omega) ht17 ht25 _h20 | exact null5t hok (by omega) ht35 _h38 | exact null5f hok (by omega) ht35 ht43 _h38 | exact null7t hok (by omega) (by omega) | exact null7f hok (by omega) ht60 (by omega)), E⟩
        · have _kb_14 := _h20
          refine WL_skip rfl rfl ?_
          refine WL_skip rfl rfl ?_
          refine WL_skip rfl rfl ?_
          refine WL_skip rfl rfl ?_
          refine WL_skip rfl rfl ?_
          refine WL_skip rfl rfl ?_
          refine WL_skip rfl rfl ?_
          refine WL_step rfl rfl (r_pickF rfl rfl) ?_
          refine WL_step rfl rfl (r_assign rfl) ?_
          refine WL_nil ?_
          refine thn_nrm (_hK_12 _ _ ?_)
          clear _hK_12
          refine W_ret (inB_ret (thn_ret ?_))
          clear _hK_2
          exact ret_intro [_] ⟨rfl, trivial⟩ ⟨congrArg Value.bool (by first | exact null26 hok (by omega) | exact null0 hok (by omega) | exact null4f hok (by omega) ht17 _h20 | exact null4t hok (by omega) ht17 ht25 _h20 | exact null5t hok (by omega) ht35 _h38 | exact null5f hok (by omega) ht35 ht43 _h38 | exact null7t hok (by omega) (by omega) | exact null7f hok (by omega) ht60 (by omega)), E⟩
      · have _kb_11 := _h11
        have _h11 := bf_d _h11
        refine W_seq fun _K_19 _hK_19 => ?_
        refine W_region ?_
        refine WL_step rfl rfl (r_eql rfl rfl) ?_
        refine WL_step rfl rfl (r_assign rfl) ?_
        refine WL_nil ?_
        refine thn_nrm (_hK_19 _ _ ?_)
        clear _hK_19
        refine W_cond rfl (fun _h29 => ?_) (fun _h29 => ?_)
        · have _kb_20 := _h29
          have _h29 := bt_d _h29
          refine W_seq fun _K_21 _hK_21 => ?_
          refine W_region ?_
          refine WL_step rfl rfl (r_move rfl) ?_
          refine WL_step rfl rfl (r_nilCheck rfl) ?_
          refine WL_step rfl rfl (r_fieldAddr fa68_1 rfl) ?_
          refine WL_step rfl rfl (r_loadAt _hc_x agg66 rfl rfl) ?_
          refine WL_s rfl rfl ?_
          refine (s_index (j := 0) _hk_x acs_len el66 sz59 rfl rfl rfl (by omega) fun _p35 _y35 _hy35 _a35 => ?_)
          obtain ⟨_t35, ht35, _tr35⟩ := _kd_x.get _hy35
          obtain ⟨_A_35, _C_35, _ps_35, _hc_35, _hk_35, _kd_35⟩ := _tr35.open
          have _kl_35 := _kd_35.1
          replace _a35 : At w w.heap.size _p35 ([(.pointer (some _y35))]) := _a35
          refine WL_step rfl rfl (r_loadAt0 _a35 agg59 rfl rfl) ?_
          refine WL_s rfl rfl ?_
          refine Step.call (r_call (xs := [.tmp 36]) fk54 rfl) (ih _tr35 (hok.kid ht35) (by have := Tr.kid_sz ht35; omega)) fun _v37 _w_22 _q37 => ?_
          obtain ⟨rfl, _cw_22⟩ := _q37
          have _cw_22z := _cw_22.size
          have E := E.trans _cw_22
          refine WL_step rfl rfl (r_move rfl) ?_
          refine WL_split (d := 38) rfl (fun _h38 => ?_) (fun _h38 => ?_)
          · have _kb_23 := _h38
            refine WL_skip rfl rfl ?_
            refine WL_skip rfl rfl ?_
            refine WL_skip rfl rfl ?_
            refine WL_skip rfl rfl ?_
            refine WL_skip rfl rfl ?_
            refine WL_skip rfl rfl ?_
            refine WL_skip rfl rfl ?_
            refine WL_step rfl rfl (r_pickT rfl rfl) ?_
            refine WL_step rfl rfl (r_assign rfl) ?_
            refine WL_nil ?_
            refine thn_nrm (_hK_21 _ _ ?_)
            clear _hK_21
            refine W_ret (inB_ret (thn_ret ?_))
            clear _hK_2
            exact ret_intro [_] ⟨rfl, trivial⟩ ⟨congrArg Value.bool (by first | exact null26 hok (by omega) | exact null0 hok (by omega) | exact null4f hok (by omega) ht17 _h20 | exact null4t hok (by omega) ht17 ht25 _h20 | exact null5t hok (by omega) ht35 _h38 | exact null5f hok (by omega) ht35 ht43 _h38 | exact null7t hok (by omega) (by omega) | exact null7f hok (by omega) ht60 (by omega)), E⟩
          · have _kb_23 := _h38
            refine WL_step rfl rfl (r_move rfl) ?_
            refine WL_step rfl rfl (r_nilCheck rfl) ?_
            refine WL_step rfl rfl (r_fieldAddr fa68_1 rfl) ?_
            have _f_24 := (_hc_x.ch0 _cw_22)
            refine WL_step rfl rfl (r_loadAt _f_24 agg66 rfl rfl) ?_
            refine WL_s rfl rfl ?_
            have _f_25 := (_hk_x.ch0 _cw_22)
            refine (s_index (j := 1) _f_25 acs_len el66 sz59 rfl rfl rfl (by omega) fun _p43 _y43 _hy43 _a43 => ?_)
            have _f_26 := (_kd_x.ch0 _cw_22)
            obtain ⟨_t43, ht43, _tr43⟩ := _f_26.get _hy43
            obtain ⟨_A_43, _C_43, _ps_43, _hc_43, _hk_43, _kd_43⟩ := _tr43.open
            have _kl_43 := _kd_43.1
            replace _a43 : At _w_22 w.heap.size _p43 ([(.pointer (some _y43))]) := _a43
            refine WL_step rfl rfl (r_loadAt0 _a43 agg59 rfl rfl) ?_
            refine WL_s rfl rfl ?_
            refine Step.call (r_call (xs := [.tmp 44]) fk54 rfl) (ih _tr43 (hok.kid ht43) (by have := Tr.kid_sz ht43; omega)) fun _v45 _w_27 _q45 => ?_
            obtain ⟨rfl, _cw_27⟩ := _q45
            have _cw_27z := _cw_27.size
            have E := E.trans _cw_27
            refine WL_step rfl rfl (r_pickF rfl rfl) ?_
            refine WL_step rfl rfl (r_assign rfl) ?_
            refine WL_nil ?_
            refine thn_nrm (_hK_21 _ _ ?_)
            clear _hK_21
            refine W_ret (inB_ret (thn_ret ?_))
            clear _hK_2
            exact ret_intro [_] ⟨rfl, trivial⟩ ⟨congrArg Value.bool (by first | exact null26 hok (by omega) | exact null0 hok (by omega) | exact null4f hok (by omega) ht17 _h20 | exact null4t hok (by omega) ht17 ht25 _h20 | exact null5t hok (by omega) ht35 _h38 | exact null5f hok (by omega) ht35 ht43 _h38 | exact null7t hok (by omega) (by omega) | exact null7f hok (by omega) ht60 (by omega)), E⟩
        · have _kb_20 := _h29
          have _h29 := bf_d _h29
          refine W_seq fun _K_28 _hK_28 => ?_
          refine W_region ?_
          refine WL_step rfl rfl (r_eql rfl rfl) ?_
          refine WL_step rfl rfl (r_assign rfl) ?_
          refine WL_nil ?_
          refine thn_nrm (_hK_28 _ _ ?_)
          clear _hK_28
          refine W_cond rfl (fun _h47 => ?_) (fun _h47 => ?_)
          · have _kb_29 := _h47
            have _h47 := bt_d _h47
            refine W_seq fun _K_30 _hK_30 => ?_
            refine W_region ?_
            refine WL_step rfl rfl (r_move rfl) ?_
            refine WL_step rfl rfl (r_nilCheck rfl) ?_
            refine WL_step rfl rfl (r_fieldAddr fa68_0 rfl) ?_
            refine WL_step rfl rfl (r_fieldAddrN (n := 2) fa57_2 rfl rfl) ?_
            refine WL_step rfl rfl (r_loadAt _hc_x agg3 rfl rfl) ?_
            refine WL_step rfl rfl (r_eql rfl rfl) ?_
            refine WL_step rfl rfl (r_move rfl) ?_
            refine WL_split (d := 55) rfl (fun _h55 => ?_) (fun _h55 => ?_)
            · have _kb_31 := _h55
              have _h55 := bt_d _h55
              refine WL_skip rfl rfl ?_
              refine WL_skip rfl rfl ?_
              refine WL_skip rfl rfl ?_
              refine WL_skip rfl rfl ?_
              refine WL_skip rfl rfl ?_
              refine WL_skip rfl rfl ?_
              refine WL_skip rfl rfl ?_
              refine WL_step rfl rfl (r_pickT rfl rfl) ?_
              refine WL_step rfl rfl (r_assign rfl) ?_
              refine WL_nil ?_
              refine thn_nrm (_hK_30 _ _ ?_)
              clear _hK_30
              refine W_ret (inB_ret (thn_ret ?_))
              clear _hK_2
              exact ret_intro [_] ⟨rfl, trivial⟩ ⟨congrArg Value.bool (by first | exact null26 hok (by omega) | exact null0 hok (by omega) | exact null4f hok (by omega) ht17 _h20 | exact null4t hok (by omega) ht17 ht25 _h20 | exact null5t hok (by omega) ht35 _h38 | exact null5f hok (by omega) ht35 ht43 _h38 | exact null7t hok (by omega) (by omega) | exact null7f hok (by omega) ht60 (by omega)), E⟩
            · have _kb_31 := _h55
              have _h55 := bf_d _h55
              refine WL_step rfl rfl (r_move rfl) ?_
              refine WL_step rfl rfl (r_nilCheck rfl) ?_
              refine WL_step rfl rfl (r_fieldAddr fa68_1 rfl) ?_
              refine WL_step rfl rfl (r_loadAt _hc_x agg66 rfl rfl) ?_
              refine WL_s rfl rfl ?_
              refine (s_index (j := 0) _hk_x acs_len el66 sz59 rfl rfl rfl (by omega) fun _p60 _y60 _hy60 _a60 => ?_)
              obtain ⟨_t60, ht60, _tr60⟩ := _kd_x.get _hy60
              obtain ⟨_A_60, _C_60, _ps_60, _hc_60, _hk_60, _kd_60⟩ := _tr60.open
              have _kl_60 := _kd_60.1
              replace _a60 : At w w.heap.size _p60 ([(.pointer (some _y60))]) := _a60
              refine WL_step rfl rfl (r_loadAt0 _a60 agg59 rfl rfl) ?_
              refine WL_s rfl rfl ?_
              refine Step.call (r_call (xs := [.tmp 61]) fk54 rfl) (ih _tr60 (hok.kid ht60) (by have := Tr.kid_sz ht60; omega)) fun _v62 _w_32 _q62 => ?_
              obtain ⟨rfl, _cw_32⟩ := _q62
              have _cw_32z := _cw_32.size
              have E := E.trans _cw_32
              refine WL_step rfl rfl (r_pickF rfl rfl) ?_
              refine WL_step rfl rfl (r_assign rfl) ?_
              refine WL_nil ?_
              refine thn_nrm (_hK_30 _ _ ?_)
              clear _hK_30
              refine W_ret (inB_ret (thn_ret ?_))
              clear _hK_2
              exact ret_intro [_] ⟨rfl, trivial⟩ ⟨congrArg Value.bool (by first | exact null26 hok (by omega) | exact null0 hok (by omega) | exact null4f hok (by omega) ht17 _h20 | exact null4t hok (by omega) ht17 ht25 _h20 | exact null5t hok (by omega) ht35 _h38 | exact null5f hok (by omega) ht35 ht43 _h38 | exact null7t hok (by omega) (by omega) | exact null7f hok (by omega) ht60 (by omega)), E⟩
          · have _kb_29 := _h47
            have _h47 := bf_d _h47
            refine W_skip ?_
            refine inB_nrm ?_
            refine thn_nrm (_hK_2 _ _ ?_)
            clear _hK_2
            refine W_seq fun _K_33 _hK_33 => ?_
            refine W_region ?_
            refine WL_step rfl rfl (r_assign rfl) ?_
            refine WL_nil ?_
            refine thn_nrm (_hK_33 _ _ ?_)
            clear _hK_33
            refine W_ret ?_
            exact ret_intro [_] ⟨rfl, trivial⟩ ⟨congrArg Value.bool (by first | exact null26 hok (by omega) | exact null0 hok (by omega) | exact null4f hok (by omega) ht17 _h20 | exact null4t hok (by omega) ht17 ht25 _h20 | exact null5t hok (by omega) ht35 _h38 | exact null5f hok (by omega) ht35 ht43 _h38 | exact null7t hok (by omega) (by omega) | exact null7f hok (by omega) ht60 (by omega)), E⟩
theorem c_impl_tree_nullable {w : World} {_B_x : Nat} {p_x : Addr} {x : Tr} (_h_x : TrAt w _B_x p_x x) (hok : Okd x) :
    Ctr Try.prog 54 #[(.pointer (some p_x))] w (fun v w' => v = .bool (nullT x) ∧ Ch [] w w') := c_impl_tree_nullable_n _ _h_x hok (Nat.lt_succ_self _)

/-- impl.within -/
theorem c_impl_within {w : World} (n : Int) (a : Int) (b : Int) :
    Ctr Try.prog 92 #[(.int .i64 n), (.int .i64 a), (.int .i64 b)] w (fun v w' => v = .bool (decide (a ≤ n ∧ n ≤ b)) ∧ Ch [] w w') := by
  have E := Ch.refl [] w
  refine Ctr_of_W (N := 15) (vs0 := [(.int .i64 n), (.int .i64 a), (.int .i64 b)]) Try.func92 rfl rfl rfl ?_
  refine W_seq fun _K_1 _hK_1 => ?_
  refine W_region ?_
  refine WL_step rfl rfl (r_assign rfl) ?_
  refine WL_nil ?_
  refine thn_nrm (_hK_1 _ _ ?_)
  clear _hK_1
  refine W_seq fun _K_2 _hK_2 => ?_
  refine W_region ?_
  refine WL_step rfl rfl (r_move rfl) ?_
  refine WL_step rfl rfl (r_move rfl) ?_
  refine WL_step rfl rfl (r_geq rfl rfl) ?_
  refine WL_step rfl rfl (r_move rfl) ?_
  refine WL_split (d := 10) rfl (fun _h10 => ?_) (fun _h10 => ?_)
  · have _kb_3 := _h10
    have _h10 := bt_d _h10
    refine WL_step rfl rfl (r_move rfl) ?_
    refine WL_step rfl rfl (r_move rfl) ?_
    refine WL_step rfl rfl (r_leq rfl rfl) ?_
    refine WL_step rfl rfl (r_pickT rfl rfl) ?_
    refine WL_step rfl rfl (r_assign rfl) ?_
    refine WL_nil ?_
    refine thn_nrm (_hK_2 _ _ ?_)
    clear _hK_2
    refine W_ret ?_
    exact ret_intro [_] ⟨rfl, trivial⟩ ⟨congrArg Value.bool (by first | rfl | (rw [Bool.eq_iff_iff]; simp <;> omega) | (rw [Bool.eq_iff_iff]; simp_all; done) | simp_all), E⟩
  · have _kb_3 := _h10
    have _h10 := bf_d _h10
    refine WL_skip rfl rfl ?_
    refine WL_skip rfl rfl ?_
    refine WL_skip rfl rfl ?_
    refine WL_step rfl rfl (r_pickF rfl rfl) ?_
    refine WL_step rfl rfl (r_assign rfl) ?_
    refine WL_nil ?_
    refine thn_nrm (_hK_2 _ _ ?_)
    clear _hK_2
    refine W_ret ?_
    exact ret_intro [_] ⟨rfl, trivial⟩ ⟨congrArg Value.bool (by first | rfl | (rw [Bool.eq_iff_iff]; simp <;> omega) | (rw [Bool.eq_iff_iff]; simp_all; done) | simp_all), E⟩

/-- impl.isLetter -/
theorem c_impl_isLetter {w : World} (n : Int) :
    Ctr Try.prog 64 #[(.int .i64 n)] w (fun v w' => v = .bool (decide (0 ≤ n ∧ n ≤ 8)) ∧ Ch [] w w') := by
  have E := Ch.refl [] w
  refine Ctr_of_W (N := 5) (vs0 := [(.int .i64 n)]) Try.func64 rfl rfl rfl ?_
  refine W_seq fun _K_1 _hK_1 => ?_
  refine W_region ?_
  refine WL_step rfl rfl (r_assign rfl) ?_
  refine WL_nil ?_
  refine thn_nrm (_hK_1 _ _ ?_)
  clear _hK_1
  refine W_seq fun _K_2 _hK_2 => ?_
  refine W_region ?_
  refine WL_step rfl rfl (r_move rfl) ?_
  refine WL_s rfl rfl ?_
  refine Step.call (r_call (xs := [.tmp 3, .const (Go.Value.int Go.IntKind.i64 0), .const (Go.Value.int Go.IntKind.i64 8)]) fk92 rfl) (c_impl_within _ _ _ ) fun _v4 _w_3 _q4 => ?_
  obtain ⟨rfl, _cw_3⟩ := _q4
  have _cw_3z := _cw_3.size
  have E := E.trans _cw_3
  refine WL_step rfl rfl (r_assign rfl) ?_
  refine WL_nil ?_
  refine thn_nrm (_hK_2 _ _ ?_)
  clear _hK_2
  refine W_ret ?_
  exact ret_intro [_] ⟨rfl, trivial⟩ ⟨congrArg Value.bool rfl, E⟩

/-- impl.tokenOk -/
theorem c_impl_tokenOk {w : World} (t : Token) :
    Ctr Try.prog 81 #[(.agg #[(.int .i64 t.kind), (.int .i64 t.letter), (.int .i64 t.low), (.int .i64 t.high)])] w (fun v w' => v = .bool (tokOk t) ∧ Ch [] w w') := by
  have E := Ch.refl [] w
  refine Ctr_of_W (N := 48) (vs0 := [(.agg #[(.int .i64 t.kind), (.int .i64 t.letter), (.int .i64 t.low), (.int .i64 t.high)])]) Try.func81 rfl rfl rfl ?_
  refine W_seq fun _K_1 _hK_1 => ?_
  refine W_region ?_
  refine WL_s rfl rfl ?_
  refine s_box rfl fun _b1 _w_2 _m1 _cw_2 _e1 => ?_
  have _cw_2z := _cw_2.size
  have E := E.trans _cw_2
  have _z1 := _m1.lt
  replace _m1 : Blk _w_2 _b1 57 [(.int .i64 t.kind), (.int .i64 t.letter), (.int .i64 t.low), (.int .i64 t.high)] := _m1
  refine WL_step rfl rfl (r_assign rfl) ?_
  refine WL_nil ?_
  refine thn_nrm (_hK_1 _ _ ?_)
  clear _hK_1
  refine W_seq fun _K_3 _hK_3 => ?_
  refine W_seq fun _K_4 _hK_4 => ?_
  refine W_region ?_
  refine WL_step rfl rfl (r_fieldAddr fa57_0 rfl) ?_
  refine WL_step rfl rfl (r_loadAt _m1.at_ agg3 rfl rfl) ?_
  refine WL_nil ?_
  refine thn_nrm (_hK_4 _ _ ?_)
  clear _hK_4
  refine W_block ?_
  refine W_seq fun _K_5 _hK_5 => ?_
  refine W_region ?_
  refine WL_step rfl rfl (r_eql rfl rfl) ?_
  refine WL_step rfl rfl (r_assign rfl) ?_
  refine WL_nil ?_
  refine thn_nrm (_hK_5 _ _ ?_)
  clear _hK_5
  refine W_cond rfl (fun _h5 => ?_) (fun _h5 => ?_)
  · have _kb_6 := _h5
    have _h5 := bt_d _h5
    refine W_seq fun _K_7 _hK_7 => ?_
    refine W_region ?_
    refine WL_step rfl rfl (r_fieldAddr fa57_1 rfl) ?_
    refine WL_step rfl rfl (r_loadAt _m1.at_ agg3 rfl rfl) ?_
    refine WL_s rfl rfl ?_
    refine Step.call (r_call (xs := [.tmp 8]) fk64 rfl) (c_impl_isLetter _ ) fun _v9 _w_8 _q9 => ?_
    obtain ⟨rfl, _cw_8⟩ := _q9
    have _cw_8z := _cw_8.size
    have E := E.trans _cw_8
    refine WL_step rfl rfl (r_move rfl) ?_
    refine WL_split (d := 10) rfl (fun _h10 => ?_) (fun _h10 => ?_)
    · have _kb_9 := _h10
      have _h10 := bt_d _h10
      refine WL_step rfl rfl (r_fieldAddr fa57_2 rfl) ?_
      have _f_10 := (_m1.ch0 _cw_8)
      refine WL_step rfl rfl (r_loadAt _f_10.at_ agg3 rfl rfl) ?_
      refine WL_step rfl rfl (r_eql rfl rfl) ?_
      refine WL_step rfl rfl (r_pickT rfl rfl) ?_
      refine WL_step rfl rfl (r_move rfl) ?_
      refine WL_split (d := 15) rfl (fun _h15 => ?_) (fun _h15 => ?_)
      · have _kb_11 := _h15
        have _h15 := bt_d _h15
        refine WL_step rfl rfl (r_fieldAddr fa57_3 rfl) ?_
        refine WL_step rfl rfl (r_loadAt _f_10.at_ agg3 rfl rfl) ?_
        refine WL_step rfl rfl (r_eql rfl rfl) ?_
        refine WL_step rfl rfl (r_pickT rfl rfl) ?_
        refine WL_step rfl rfl (r_assign rfl) ?_
        refine WL_nil ?_
        refine thn_nrm (_hK_7 _ _ ?_)
        clear _hK_7
        refine W_ret (inB_ret (thn_ret ?_))
        clear _hK_3
        exact ret_intro [_] ⟨rfl, trivial⟩ ⟨congrArg Value.bool (by rw [Bool.eq_iff_iff]; simp only [tokOk, decide_eq_true_eq, Bool.false_eq_true, false_iff, true_iff, Bool.and_eq_true, List.cons.injEq, and_true, true_and, Int.not_le]; unfold arT; (repeat' split) <;> omega), E⟩
      · have _kb_11 := _h15
        have _h15 := bf_d _h15
        refine WL_skip rfl rfl ?_
        refine WL_skip rfl rfl ?_
        refine WL_skip rfl rfl ?_
        refine WL_step rfl rfl (r_pickF rfl rfl) ?_
        refine WL_step rfl rfl (r_assign rfl) ?_
        refine WL_nil ?_
        refine thn_nrm (_hK_7 _ _ ?_)
        clear _hK_7
        refine W_ret (inB_ret (thn_ret ?_))
        clear _hK_3
        exact ret_intro [_] ⟨rfl, trivial⟩ ⟨congrArg Value.bool (by rw [Bool.eq_iff_iff]; simp only [tokOk, decide_eq_true_eq, Bool.false_eq_true, false_iff, true_iff, Bool.and_eq_true, List.cons.injEq, and_true, true_and, Int.not_le]; unfold arT; (repeat' split) <;> omega), E⟩
    · have _kb_9 := _h10
      have _h10 := bf_d _h10
      refine WL_skip rfl rfl ?_
      refine WL_skip rfl rfl ?_
      refine WL_skip rfl rfl ?_
      refine WL_step rfl rfl (r_pickF rfl rfl) ?_
      refine WL_step rfl rfl (r_move rfl) ?_
      refine WL_skip rfl rfl ?_
      refine WL_skip rfl rfl ?_
      refine WL_skip rfl rfl ?_
      refine WL_step rfl rfl (r_pickF rfl rfl) ?_
      refine WL_step rfl rfl (r_assign rfl) ?_
      refine WL_nil ?_
      refine thn_nrm (_hK_7 _ _ ?_)
      clear _hK_7
      refine W_ret (inB_ret (thn_ret ?_))
      clear _hK_3
      exact ret_intro [_] ⟨rfl, trivial⟩ ⟨congrArg Value.bool (by rw [Bool.eq_iff_iff]; simp only [tokOk, decide_eq_true_eq, Bool.false_eq_true, false_iff, true_iff, Bool.and_eq_true, List.cons.injEq, and_true, true_and, Int.not_le]; unfold arT; (repeat' split) <;> omega), E⟩
  · have _kb_6 := _h5
    have _h5 := bf_d _h5
    refine W_seq fun _K_12 _hK_12 => ?_
    refine W_region ?_
    refine WL_step rfl rfl (r_eql rfl rfl) ?_
    refine WL_step rfl rfl (r_assign rfl) ?_
    refine WL_nil ?_
    refine thn_nrm (_hK_12 _ _ ?_)
    clear _hK_12
    refine W_cond rfl (fun _h20 => ?_) (fun _h20 => ?_)
    · have _kb_13 := _h20
      have _h20 := bt_d _h20
      refine W_seq fun _K_14 _hK_14 => ?_
      refine W_region ?_
      refine WL_step rfl rfl (r_fieldAddr fa57_1 rfl) ?_
      refine WL_step rfl rfl (r_loadAt _m1.at_ agg3 rfl rfl) ?_
      refine WL_step rfl rfl (r_eql rfl rfl) ?_
      refine WL_step rfl rfl (r_move rfl) ?_
      refine WL_split (d := 25) rfl (fun _h25 => ?_) (fun _h25 => ?_)
      · have _kb_15 := _h25
        have _h25 := bt_d _h25
        refine WL_step rfl rfl (r_fieldAddr fa57_2 rfl) ?_
        refine WL_step rfl rfl (r_loadAt _m1.at_ agg3 rfl rfl) ?_
        refine WL_step rfl rfl (r_fieldAddr fa57_3 rfl) ?_
        refine WL_step rfl rfl (r_loadAt _m1.at_ agg3 rfl rfl) ?_
        refine WL_s rfl rfl ?_
        refine Step.call (r_call (xs := [.tmp 27, .const (Go.Value.int Go.IntKind.i64 0), .tmp 29]) fk92 rfl) (c_impl_within _ _ _ ) fun _v30 _w_16 _q30 => ?_
        obtain ⟨rfl, _cw_16⟩ := _q30
        have _cw_16z := _cw_16.size
        have E := E.trans _cw_16
        refine WL_step rfl rfl (r_pickT rfl rfl) ?_
        refine WL_step rfl rfl (r_move rfl) ?_
        refine WL_split (d := 32) rfl (fun _h32 => ?_) (fun _h32 => ?_)
        · have _kb_17 := _h32
          have _h32 := bt_d _h32
          refine WL_step rfl rfl (r_fieldAddr fa57_3 rfl) ?_
          have _f_18 := (_m1.ch0 _cw_16)
          refine WL_step rfl rfl (r_loadAt _f_18.at_ agg3 rfl rfl) ?_
          refine WL_s rfl rfl ?_
          refine Step.call (r_call (xs := [.tmp 34, .const (Go.Value.int Go.IntKind.i64 1), .const (Go.Value.int Go.IntKind.i64 3)]) fk92 rfl) (c_impl_within _ _ _ ) fun _v35 _w_19 _q35 => ?_
          obtain ⟨rfl, _cw_19⟩ := _q35
          have _cw_19z := _cw_19.size
          have E := E.trans _cw_19
          refine WL_step rfl rfl (r_pickT rfl rfl) ?_
          refine WL_step rfl rfl (r_assign rfl) ?_
          refine WL_nil ?_
          refine thn_nrm (_hK_14 _ _ ?_)
          clear _hK_14
          refine W_ret (inB_ret (thn_ret ?_))
          clear _hK_3
          exact ret_intro [_] ⟨rfl, trivial⟩ ⟨congrArg Value.bool (by rw [Bool.eq_iff_iff]; simp only [tokOk, decide_eq_true_eq, Bool.false_eq_true, false_iff, true_iff, Bool.and_eq_true, List.cons.injEq, and_true, true_and, Int.not_le]; unfold arT; (repeat' split) <;> omega), E⟩
        · have _kb_17 := _h32
          have _h32 := bf_d _h32
          refine WL_skip rfl rfl ?_
          refine WL_skip rfl rfl ?_
          refine WL_skip rfl rfl ?_
          refine WL_step rfl rfl (r_pickF rfl rfl) ?_
          refine WL_step rfl rfl (r_assign rfl) ?_
          refine WL_nil ?_
          refine thn_nrm (_hK_14 _ _ ?_)
          clear _hK_14
          refine W_ret (inB_ret (thn_ret ?_))
          clear _hK_3
          exact ret_intro [_] ⟨rfl, trivial⟩ ⟨congrArg Value.bool (by rw [Bool.eq_iff_iff]; simp only [tokOk, decide_eq_true_eq, Bool.false_eq_true, false_iff, true_iff, Bool.and_eq_true, List.cons.injEq, and_true, true_and, Int.not_le]; unfold arT; (repeat' split) <;> omega), E⟩
      · have _kb_15 := _h25
        have _h25 := bf_d _h25
        refine WL_skip rfl rfl ?_
        refine WL_skip rfl rfl ?_
        refine WL_skip rfl rfl ?_
        refine WL_skip rfl rfl ?_
        refine WL_skip rfl rfl ?_
        refine WL_step rfl rfl (r_pickF rfl rfl) ?_
        refine WL_step rfl rfl (r_move rfl) ?_
        refine WL_skip rfl rfl ?_
        refine WL_skip rfl rfl ?_
        refine WL_skip rfl rfl ?_
        refine WL_step rfl rfl (r_pickF rfl rfl) ?_
        refine WL_step rfl rfl (r_assign rfl) ?_
        refine WL_nil ?_
        refine thn_nrm (_hK_14 _ _ ?_)
        clear _hK_14
        refine W_ret (inB_ret (thn_ret ?_))
        clear _hK_3
        exact ret_intro [_] ⟨rfl, trivial⟩ ⟨congrArg Value.bool (by rw [Bool.eq_iff_iff]; simp only [tokOk, decide_eq_true_eq, Bool.false_eq_true, false_iff, true_iff, Bool.and_eq_true, List.cons.injEq, and_true, true_and, Int.not_le]; unfold arT; (repeat' split) <;> omega), E⟩
    · have _kb_13 := _h20
      have _h20 := bf_d _h20
      refine W_seq fun _K_20 _hK_20 => ?_
      refine W_seq fun _K_21 _hK_21 => ?_
      refine W_region ?_
      refine WL_step rfl rfl (r_eql rfl rfl) ?_
      refine WL_step rfl rfl (r_assign rfl) ?_
      refine WL_nil ?_
      refine thn_nrm (_hK_21 _ _ ?_)
      clear _hK_21
      refine W_cond rfl (fun _h37 => ?_) (fun _h37 => ?_)
      · have _kb_22 := _h37
        have _h37 := bt_d _h37
        refine W_skip ?_
        refine thn_nrm (_hK_20 _ _ ?_)
        clear _hK_20
        refine W_condTk rfl _kb_22 ?_
        refine W_seq fun _K_23 _hK_23 => ?_
        refine W_region ?_
        refine WL_step rfl rfl (r_loadAtA0 _m1.at_ agg57 sz57 rfl) ?_
        refine WL_step rfl rfl (r_fieldAddr fa57_0 rfl) ?_
        refine WL_step rfl rfl (r_loadAt _m1.at_ agg3 rfl rfl) ?_
        refine WL_step rfl rfl (r_build (parts := [(0, .tmp 45)]) (cells := [(.int .i64 t.kind), (.int .i64 0), (.int .i64 0), (.int .i64 0)]) zr57 pl57 rfl rfl) ?_
        refine WL_step rfl rfl (r_eqlI [t.kind, t.letter, t.low, t.high] [t.kind, 0, 0, 0] ist57 rfl rfl rfl) ?_
        refine WL_step rfl rfl (r_assign rfl) ?_
        refine WL_nil ?_
        refine thn_nrm (_hK_23 _ _ ?_)
        clear _hK_23
        refine W_ret (inB_ret (thn_ret ?_))
        clear _hK_3
        exact ret_intro [_] ⟨rfl, trivial⟩ ⟨congrArg Value.bool (by rw [Bool.eq_iff_iff]; simp only [tokOk, decide_eq_true_eq, Bool.false_eq_true, false_iff, true_iff, Bool.and_eq_true, List.cons.injEq, and_true, true_and, Int.not_le]; unfold arT; (repeat' split) <;> omega), E⟩
      · have _kb_22 := _h37
        have _h37 := bf_d _h37
        refine W_seq fun _K_24 _hK_24 => ?_
        refine W_region ?_
        refine WL_step rfl rfl (r_eql rfl rfl) ?_
        refine WL_step rfl rfl (r_assign rfl) ?_
        refine WL_nil ?_
        refine thn_nrm (_hK_24 _ _ ?_)
        clear _hK_24
        refine W_cond rfl (fun _h37 => ?_) (fun _h37 => ?_)
        · have _kb_25 := _h37
          have _h37 := bt_d _h37
          refine W_skip ?_
          refine thn_nrm (_hK_20 _ _ ?_)
          clear _hK_20
          refine W_condTk rfl _kb_25 ?_
          refine W_seq fun _K_26 _hK_26 => ?_
          refine W_region ?_
          refine WL_step rfl rfl (r_loadAtA0 _m1.at_ agg57 sz57 rfl) ?_
          refine WL_step rfl rfl (r_fieldAddr fa57_0 rfl) ?_
          refine WL_step rfl rfl (r_loadAt _m1.at_ agg3 rfl rfl) ?_
          refine WL_step rfl rfl (r_build (parts := [(0, .tmp 45)]) (cells := [(.int .i64 t.kind), (.int .i64 0), (.int .i64 0), (.int .i64 0)]) zr57 pl57 rfl rfl) ?_
          refine WL_step rfl rfl (r_eqlI [t.kind, t.letter, t.low, t.high] [t.kind, 0, 0, 0] ist57 rfl rfl rfl) ?_
          refine WL_step rfl rfl (r_assign rfl) ?_
          refine WL_nil ?_
          refine thn_nrm (_hK_26 _ _ ?_)
          clear _hK_26
          refine W_ret (inB_ret (thn_ret ?_))
          clear _hK_3
          exact ret_intro [_] ⟨rfl, trivial⟩ ⟨congrArg Value.bool (by rw [Bool.eq_iff_iff]; simp only [tokOk, decide_eq_true_eq, Bool.false_eq_true, false_iff, true_iff, Bool.and_eq_true, List.cons.injEq, and_true, true_and, Int.not_le]; unfold arT; (repeat' split) <;> omega), E⟩
        · have _kb_25 := _h37
          have _h37 := bf_d _h37
          refine W_seq fun _K_27 _hK_27 => ?_
          refine W_region ?_
          refine WL_step rfl rfl (r_eql rfl rfl) ?_
          refine WL_step rfl rfl (r_assign rfl) ?_
          refine WL_nil ?_
          refine thn_nrm (_hK_27 _ _ ?_)
          clear _hK_27
          refine W_cond rfl (fun _h37 => ?_) (fun _h37 => ?_)
          · have _kb_28 := _h37
            have _h37 := bt_d _h37
            refine W_skip ?_
            refine thn_nrm (_hK_20 _ _ ?_)
            clear _hK_20
            refine W_condTk rfl _kb_28 ?_
            refine W_seq fun _K_29 _hK_29 => ?_
            refine W_region ?_
            refine WL_step rfl rfl (r_loadAtA0 _m1.at_ agg57 sz57 rfl) ?_
            refine WL_step rfl rfl (r_fieldAddr fa57_0 rfl) ?_
            refine WL_step rfl rfl (r_loadAt _m1.at_ agg3 rfl rfl) ?_
            refine WL_step rfl rfl (r_build (parts := [(0, .tmp 45)]) (cells := [(.int .i64 t.kind), (.int .i64 0), (.int .i64 0), (.int .i64 0)]) zr57 pl57 rfl rfl) ?_
            refine WL_step rfl rfl (r_eqlI [t.kind, t.letter, t.low, t.high] [t.kind, 0, 0, 0] ist57 rfl rfl rfl) ?_
            refine WL_step rfl rfl (r_assign rfl) ?_
            refine WL_nil ?_
            refine thn_nrm (_hK_29 _ _ ?_)
            clear _hK_29
            refine W_ret (inB_ret (thn_ret ?_))
            clear _hK_3
            exact ret_intro [_] ⟨rfl, trivial⟩ ⟨congrArg Value.bool (by rw [Bool.eq_iff_iff]; simp only [tokOk, decide_eq_true_eq, Bool.false_eq_true, false_iff, true_iff, Bool.and_eq_true, List.cons.injEq, and_true, true_and, Int.not_le]; unfold arT; (repeat' split) <;> omega), E⟩
          · have _kb_28 := _h37
            have _h37 := bf_d _h37
            refine W_seq fun _K_30 _hK_30 => ?_
            refine W_region ?_
            refine WL_step rfl rfl (r_eql rfl rfl) ?_
            refine WL_step rfl rfl (r_assign rfl) ?_
            refine WL_nil ?_
            refine thn_nrm (_hK_30 _ _ ?_)
            clear _hK_30
            refine W_cond rfl (fun _h37 => ?_) (fun _h37 => ?_)
            · have _kb_31 := _h37
              have _h37 := bt_d _h37
              refine W_skip ?_
              refine thn_nrm (_hK_20 _ _ ?_)
              clear _hK_20
              refine W_condTk rfl _kb_31 ?_
              refine W_seq fun _K_32 _hK_32 => ?_
              refine W_region ?_
              refine WL_step rfl rfl (r_loadAtA0 _m1.at_ agg57 sz57 rfl) ?_
              refine WL_step rfl rfl (r_fieldAddr fa57_0 rfl) ?_
              refine WL_step rfl rfl (r_loadAt _m1.at_ agg3 rfl rfl) ?_
              refine WL_step rfl rfl (r_build (parts := [(0, .tmp 45)]) (cells := [(.int .i64 t.kind), (.int .i64 0), (.int .i64 0), (.int .i64 0)]) zr57 pl57 rfl rfl) ?_
              refine WL_step rfl rfl (r_eqlI [t.kind, t.letter, t.low, t.high] [t.kind, 0, 0, 0] ist57 rfl rfl rfl) ?_
              refine WL_step rfl rfl (r_assign rfl) ?_
              refine WL_nil ?_
              refine thn_nrm (_hK_32 _ _ ?_)
              clear _hK_32
              refine W_ret (inB_ret (thn_ret ?_))
              clear _hK_3
              exact ret_intro [_] ⟨rfl, trivial⟩ ⟨congrArg Value.bool (by rw [Bool.eq_iff_iff]; simp only [tokOk, decide_eq_true_eq, Bool.false_eq_true, false_iff, true_iff, Bool.and_eq_true, List.cons.injEq, and_true, true_and, Int.not_le]; unfold arT; (repeat' split) <;> omega), E⟩
            · have _kb_31 := _h37
              have _h37 := bf_d _h37
              refine W_region ?_
              refine WL_step rfl rfl (r_eql rfl rfl) ?_
              refine WL_step rfl rfl (r_assign rfl) ?_
              refine WL_nil ?_
              refine thn_nrm (_hK_20 _ _ ?_)
              clear _hK_20
              refine W_cond rfl (fun _h37 => ?_) (fun _h37 => ?_)
              · have _kb_33 := _h37
                have _h37 := bt_d _h37
                refine W_seq fun _K_34 _hK_34 => ?_
                refine W_region ?_
                refine WL_step rfl rfl (r_loadAtA0 _m1.at_ agg57 sz57 rfl) ?_
                refine WL_step rfl rfl (r_fieldAddr fa57_0 rfl) ?_
                refine WL_step rfl rfl (r_loadAt _m1.at_ agg3 rfl rfl) ?_
                refine WL_step rfl rfl (r_build (parts := [(0, .tmp 45)]) (cells := [(.int .i64 t.kind), (.int .i64 0), (.int .i64 0), (.int .i64 0)]) zr57 pl57 rfl rfl) ?_
                refine WL_step rfl rfl (r_eqlI [t.kind, t.letter, t.low, t.high] [t.kind, 0, 0, 0] ist57 rfl rfl rfl) ?_
                refine WL_step rfl rfl (r_assign rfl) ?_
                refine WL_nil ?_
                refine thn_nrm (_hK_34 _ _ ?_)
                clear _hK_34
                refine W_ret (inB_ret (thn_ret ?_))
                clear _hK_3
                exact ret_intro [_] ⟨rfl, trivial⟩ ⟨congrArg Value.bool (by rw [Bool.eq_iff_iff]; simp only [tokOk, decide_eq_true_eq, Bool.false_eq_true, false_iff, true_iff, Bool.and_eq_true, List.cons.injEq, and_true, true_and, Int.not_le]; unfold arT; (repeat' split) <;> omega), E⟩
              · have _kb_33 := _h37
                have _h37 := bf_d _h37
                refine W_skip ?_
                refine inB_nrm ?_
                refine thn_nrm (_hK_3 _ _ ?_)
                clear _hK_3
                refine W_seq fun _K_35 _hK_35 => ?_
                refine W_region ?_
                refine WL_step rfl rfl (r_assign rfl) ?_
                refine WL_nil ?_
                refine thn_nrm (_hK_35 _ _ ?_)
                clear _hK_35
                refine W_ret ?_
                exact ret_intro [_] ⟨rfl, trivial⟩ ⟨congrArg Value.bool (by rw [Bool.eq_iff_iff]; simp only [tokOk, decide_eq_true_eq, Bool.false_eq_true, false_iff, true_iff, Bool.and_eq_true, List.cons.injEq, and_true, true_and, Int.not_le]; unfold arT; (repeat' split) <;> omega), E⟩

/-- slices.Clone[[]*impl.tree,*impl.tree] -/
theorem c_slices_Clone_impl_tree_impl_tree {w : World} {_B_s : Nat} {_v_s : Value} {s : List Addr} (_h_s : Ls acs 1 w _B_s _v_s s) (hb : s.length ≤ 1048576) :
    Ctr Try.prog 82 #[_v_s] w (fun v w' => Ol acs 59 1 w' v (s) ∧ Lo w.heap.size v ∧ Ch [] w w') := by
  obtain ⟨_A_s, _C_s, _e1_s⟩ := _h_s.val
  subst _e1_s
  have _l_s := _h_s.len
  have _h_s := _h_s.here (by decide)
  have E := Ch.refl [] w
  refine Ctr_of_W (N := 8) (vs0 := [(.slice _A_s s.length _C_s)]) Try.func82 rfl rfl rfl ?_
  refine W_seq fun _K_1 _hK_1 => ?_
  refine W_region ?_
  refine WL_step rfl rfl (r_assign rfl) ?_
  refine WL_nil ?_
  refine thn_nrm (_hK_1 _ _ ?_)
  clear _hK_1
  refine W_seq fun _K_2 _hK_2 => ?_
  refine W_seq fun _K_3 _hK_3 => ?_
  refine W_region ?_
  refine WL_step rfl rfl (r_move rfl) ?_
  refine WL_step rfl rfl (r_eqNil (by rw [el66]; rfl) rfl rfl) ?_
  refine WL_nil ?_
  refine thn_nrm (_hK_3 _ _ ?_)
  clear _hK_3
  refine W_cond rfl (fun _h4 => ?_) (fun _h4 => ?_)
  · have _kb_4 := _h4
    refine W_seq fun _K_5 _hK_5 => ?_
    refine W_region ?_
    refine WL_step rfl rfl (r_assign rfl) ?_
    refine WL_nil ?_
    refine thn_nrm (_hK_5 _ _ ?_)
    clear _hK_5
    refine W_ret (thn_ret ?_)
    clear _hK_2
    have _o_6 : Ol acs 59 1 w (.slice none 0 0) (s) := by
      have hx := (Ol.nil (cs := acs) (e := 59) (k := 1) w)
      first | (have hn := Ls.none _h_s _h4; subst hn; exact hx) | exact hx
    exact ret_intro [_] ⟨rfl, trivial⟩ ⟨_o_6, Lo.nil _, E⟩
  · have _kb_4 := _h4
    refine W_skip ?_
    refine thn_nrm (_hK_2 _ _ ?_)
    clear _hK_2
    refine W_seq fun _K_7 _hK_7 => ?_
    refine W_region ?_
    refine WL_s rfl rfl ?_
    refine s_buildSlice0 (k := 1) acs el66 sz59 fun _v5 _w_8 _q5 _lo5 _cw_8 => ?_
    have _cw_8z := _cw_8.size
    have E := E.trans _cw_8
    obtain ⟨_Av5, _Cv5, _ev5⟩ := _q5.val
    subst _ev5
    have _lv5 := _q5.len
    have _hiv5 := _q5.lt
    refine WL_step rfl rfl (r_move rfl) ?_
    refine WL_s rfl rfl ?_
    have _f_10 := (_h_s.ch0 _cw_8)
    refine s_append (cs := acs) el66 sz59 by59 zr59 rfl (by decide) acs_one _q5 _f_10 rfl rfl (by first | omega | (simp only [List.length_append, List.length_nil, List.length_cons, List.length_replicate, List.length_set, List.length_reverse, List.length_map] at *; omega) | (simp at *; omega)) (by first | omega | (simp only [List.length_append, List.length_nil, List.length_cons, List.length_replicate, List.length_set, List.length_reverse, List.length_map] at *; omega) | (simp at *; omega)) _lo5 (by omega) fun _v7 _w_9 _q7 _lo7 _ap7 _cw_9 => ?_
    have _cw_9z := _cw_9.size
    have E := E.step _cw_9 (fun i hi => .inl (by have _h1 := _lo5 _ hi; omega))
    replace _q7 : Ol acs 59 1 _w_9 _v7 s := _q7
    obtain ⟨_Av7, _Cv7, _ev7⟩ := _q7.val
    subst _ev7
    have _lv7 := _q7.len
    have _hiv7 := _q7.lt
    refine WL_step rfl rfl (r_assign rfl) ?_
    refine WL_nil ?_
    refine thn_nrm (_hK_7 _ _ ?_)
    clear _hK_7
    refine W_ret ?_
    have _o_11 : Ol acs 59 1 _w_9 (.slice _Av7 (s).length _Cv7) (s) := by
      have hx := _q7
      first | (have hn := Ls.none _h_s _h4; subst hn; exact hx) | exact hx
    exact ret_intro [_] ⟨rfl, trivial⟩ ⟨_o_11, Lo.down _lo7 (by omega), E⟩

/-- impl.treeOf -/
theorem c_impl_treeOf {w : World} {_B_e : Nat} {_v_e : Value} {e : List Token} (_h_e : Ls Token.cs 4 w _B_e _v_e e) (hb : e.length ≤ 1048576) :
    Ctr Try.prog 51 #[(.agg #[_v_e])] w (fun v w' => ((treeL e) = none ∧ v = .pointer none ∨ ∃ t p, (treeL e) = some t ∧ v = .pointer (some p) ∧ TrAt w' w'.heap.size p t) ∧ Ch [] w w') := by
  obtain ⟨_A_e, _C_e, _e1_e⟩ := _h_e.val
  subst _e1_e
  have _l_e := _h_e.len
  have _h_e := _h_e.here (by decide)
  have E := Ch.refl [] w
  refine Ctr_of_W (N := 56) (vs0 := [(.agg #[(.slice _A_e e.length _C_e)])]) Try.func51 rfl rfl rfl ?_
  refine W_seq fun _K_1 _hK_1 => ?_
  refine W_region ?_
  refine WL_s rfl rfl ?_
  refine s_box rfl fun _b1 _w_2 _m1 _cw_2 _e1 => ?_
  have _cw_2z := _cw_2.size
  have E := E.trans _cw_2
  have _z1 := _m1.lt
  replace _m1 : Blk _w_2 _b1 29 [(.slice _A_e e.length _C_e)] := _m1
  refine WL_step rfl rfl (r_assign rfl) ?_
  refine WL_nil ?_
  refine thn_nrm (_hK_1 _ _ ?_)
  clear _hK_1
  refine W_seq fun _K_3 _hK_3 => ?_
  refine W_region ?_
  refine WL_s rfl rfl ?_
  refine s_buildSlice0 (k := 1) acs el66 sz59 fun _v9 _w_4 _q9 _lo9 _cw_4 => ?_
  have _cw_4z := _cw_4.size
  have E := E.trans _cw_4
  obtain ⟨_Av9, _Cv9, _ev9⟩ := _q9.val
  subst _ev9
  have _lv9 := _q9.len
  have _hiv9 := _q9.lt
  refine WL_step rfl rfl (r_assign rfl) ?_
  refine WL_nil ?_
  refine thn_nrm (_hK_3 _ _ ?_)
  clear _hK_3
  refine W_seq fun _K_5 _hK_5 => ?_
  refine W_seq fun _K_6 _hK_6 => ?_
  refine W_region ?_
  refine WL_step rfl rfl (r_fieldAddr fa29_0 rfl) ?_
  have _f_7 := (_m1.ch0 _cw_4)
  refine WL_step rfl rfl (r_loadAt _f_7.at_ agg27 rfl rfl) ?_
  refine WL_step rfl rfl (r_len (by rw [el27]; rfl) rfl) ?_
  refine WL_step rfl rfl (r_move rfl) ?_
  refine WL_nil ?_
  refine thn_nrm (_hK_6 _ _ ?_)
  clear _hK_6
  refine W_block ?_
  have _oi_8 : Ol acs 59 1 _w_4 (.slice _Av9 (([] : List Addr)).length _Cv9) (([] : List Addr)) := by
    have hx := _q9
    exact hx
  refine W_loop (σ := Nat × List Addr × List Tr × Value) (fun ⟨i, ps, st, sv⟩ => [(3, sv), (11, (.slice _A_e e.length _C_e)), (12, (.int .i64 ((e.length : Nat) : Int))), (13, (.int .i64 ((i : Nat) : Int)))]) (fun ⟨i, ps, st, sv⟩ wx => Ch [] w wx ∧ _w_4.heap.size ≤ wx.heap.size ∧ (i ≤ e.length) ∧ (ps.length = st.length) ∧ (st.length ≤ i) ∧ (prs [] (e.take i) = some st) ∧ Ol acs 59 1 wx sv ps ∧ Lo _w_2.heap.size sv ∧ Tks wx sv ps st) (fun ⟨i, ps, st, sv⟩ => e.length - i) (0, ([] : List Addr), ([] : List Tr), (.slice _Av9 (([] : List Addr)).length _Cv9)) (Sub.cons rfl (Sub.cons rfl (Sub.cons rfl (Sub.cons rfl (Sub.nil _))))) ⟨E, (Nat.le_refl _), (by omega), rfl, (Nat.le_refl _), rfl, _oi_8, _lo9, (Tks.nil _ _)⟩ ?_
  rintro ⟨i, ps, st, sv⟩ _wr_9 ⟨E, _zz0, hi, hl, hs, hp, _o0_3, _lo0_3, tks⟩
  have _E0h := E
  have _E0hz := _E0h.size
  obtain ⟨Asv, Csv, esv⟩ := _o0_3.val
  subst esv
  have lsv := _o0_3.len
  have hisv := _o0_3.lt
  refine W_seq fun _K_10 _hK_10 => ?_
  refine W_region ?_
  refine WL_step rfl rfl (r_lss rfl rfl) ?_
  refine WL_nil ?_
  refine thn_nrm (_hK_10 _ _ ?_)
  clear _hK_10
  refine W_seq fun _K_11 _hK_11 => ?_
  refine W_cond rfl (fun _h14 => ?_) (fun _h14 => ?_)
  · have _kb_12 := _h14
    have _h14 := bt_d _h14
    refine W_skip ?_
    refine thn_nrm (_hK_11 _ _ ?_)
    clear _hK_11
    refine W_seq fun _K_13 _hK_13 => ?_
    refine W_block ?_
    refine W_seq fun _K_14 _hK_14 => ?_
    refine W_region ?_
    refine WL_s rfl rfl ?_
    have _f_15 := (_h_e.ch0 _E0h)
    refine (s_index _f_15 Token.len el27 sz57 rfl rfl rfl (by omega) fun _p15 _y15 _hy15 _a15 => ?_)
    have k15 := arK_rng _y15.kind
    refine WL_step rfl rfl (r_loadAtA0 _a15 agg57 sz57 rfl) ?_
    refine WL_s rfl rfl ?_
    refine s_alloc zr57 fun _b5 _w_16 _m5 _cw_16 _e5 => ?_
    have _cw_16z := _cw_16.size
    have E := E.trans _cw_16
    have _z5 := _m5.lt
    replace _m5 : Blk _w_16 _b5 57 [(.int .i64 0), (.int .i64 0), (.int .i64 0), (.int .i64 0)] := _m5
    refine WL_s rfl rfl ?_
    refine s_storeA (off := 0) 4 _m5 sz57 rfl (us := [(.int .i64 _y15.kind), (.int .i64 _y15.letter), (.int .i64 _y15.low), (.int .i64 _y15.high)]) rfl rfl rfl rfl fun _w_17 _m_18 _cw_17 => ?_
    have _cw_17z := _cw_17.size
    have E := E.step _cw_17 (fun i hi => .inl (by have _h1 := List.mem_singleton.1 hi; omega))
    replace _m_18 : Blk _w_17 _b5 57 [(.int .i64 _y15.kind), (.int .i64 _y15.letter), (.int .i64 _y15.low), (.int .i64 _y15.high)] := _m_18
    refine WL_nil ?_
    refine thn_nrm (_hK_14 _ _ ?_)
    clear _hK_14
    refine W_seq fun _K_19 _hK_19 => ?_
    refine W_region ?_
    refine WL_step rfl rfl (r_assign rfl) ?_
    refine WL_nil ?_
    refine thn_nrm (_hK_19 _ _ ?_)
    clear _hK_19
    refine W_seq fun _K_20 _hK_20 => ?_
    have _J_21 : ∀ (lj : KL), Go.KLib.Sub [(3, (.slice Asv (ps).length Csv)), (5, (.pointer (some ⟨_b5, 0, none⟩))), (6, (.int .i64 (arK _y15.kind))), (11, (.slice _A_e e.length _C_e)), (12, (.int .i64 ((e.length : Nat) : Int))), (13, (.int .i64 ((i : Nat) : Int))), (14, (.bool (decide (((i : Nat) : Int) < ((e.length : Nat) : Int))))), (15, (.pointer (some _p15))), (16, (.agg #[(.int .i64 _y15.kind), (.int .i64 _y15.letter), (.int .i64 _y15.low), (.int .i64 _y15.high)]))] lj → _K_20 lj _w_17 := by
      intro lj _jsub
      refine _hK_20 _ _ (W_sub _jsub ?_)
      clear _hK_20
      refine W_seq fun _K_22 _hK_22 => ?_
      refine W_region ?_
      refine WL_step rfl rfl (r_move rfl) ?_
      refine WL_step rfl rfl (r_len (by rw [el66]; rfl) rfl) ?_
      refine WL_step rfl rfl (r_move rfl) ?_
      refine WL_step rfl rfl (r_sub (by omega) rfl rfl) ?_
      refine WL_step rfl rfl (r_assign rfl) ?_
      refine WL_nil ?_
      refine thn_nrm (_hK_22 _ _ ?_)
      clear _hK_22
      refine W_seq fun _K_23 _hK_23 => ?_
      refine W_seq fun _K_24 _hK_24 => ?_
      refine W_region ?_
      refine WL_step rfl rfl (r_loadAtA0 _m_18.at_ agg57 sz57 rfl) ?_
      refine WL_s rfl rfl ?_
      refine Step.call (r_call (xs := [.tmp 29]) fk81 rfl) (c_impl_tokenOk _y15 ) fun _v30 _w_25 _q30 => ?_
      obtain ⟨rfl, _cw_25⟩ := _q30
      have _cw_25z := _cw_25.size
      have E := E.trans _cw_25
      refine WL_step rfl rfl (r_not rfl) ?_
      refine WL_step rfl rfl (r_move rfl) ?_
      refine WL_split (d := 32) rfl (fun _h32 => ?_) (fun _h32 => ?_)
      · have _kb_26 := _h32
        have _h32 := bt_n _h32
        refine WL_skip rfl rfl ?_
        refine WL_skip rfl rfl ?_
        refine WL_step rfl rfl (r_pickT rfl rfl) ?_
        refine WL_nil ?_
        refine thn_nrm (_hK_24 _ _ ?_)
        clear _hK_24
        refine W_condT rfl ?_
        refine W_seq fun _K_27 _hK_27 => ?_
        refine W_region ?_
        refine WL_step rfl rfl (r_assign rfl) ?_
        refine WL_nil ?_
        refine thn_nrm (_hK_27 _ _ ?_)
        clear _hK_27
        refine W_ret (thn_ret (inB_ret (thn_ret (thn_ret (inB_ret (thn_ret ?_))))))
        clear _hK_5 _hK_13 _hK_23
        exact ret_intro [_] ⟨rfl, trivial⟩ ⟨.inl ⟨(by first | exact treeL_none hp (by omega) (by omega) | exact isE_no hp _hy15 (push_bad (by first | exact .inl _h32 | (right; omega)))), rfl⟩, E⟩
      · have _kb_26 := _h32
        have _h32 := bf_n _h32
        refine WL_step rfl rfl (r_move rfl) ?_
        refine WL_step rfl rfl (r_lss rfl rfl) ?_
        refine WL_step rfl rfl (r_pickF rfl rfl) ?_
        refine WL_nil ?_
        refine thn_nrm (_hK_24 _ _ ?_)
        clear _hK_24
        refine W_cond rfl (fun _h35 => ?_) (fun _h35 => ?_)
        · have _kb_28 := _h35
          have _h35 := bt_d _h35
          refine W_seq fun _K_29 _hK_29 => ?_
          refine W_region ?_
          refine WL_step rfl rfl (r_assign rfl) ?_
          refine WL_nil ?_
          refine thn_nrm (_hK_29 _ _ ?_)
          clear _hK_29
          refine W_ret (thn_ret (inB_ret (thn_ret (thn_ret (inB_ret (thn_ret ?_))))))
          clear _hK_5 _hK_13 _hK_23
          exact ret_intro [_] ⟨rfl, trivial⟩ ⟨.inl ⟨(by first | exact treeL_none hp (by omega) (by omega) | exact isE_no hp _hy15 (push_bad (by first | exact .inl _h32 | (right; omega)))), rfl⟩, E⟩
        · have _kb_28 := _h35
          have _h35 := bf_d _h35
          refine W_skip ?_
          refine thn_nrm (_hK_23 _ _ ?_)
          clear _hK_23
          refine W_seq fun _K_30 _hK_30 => ?_
          refine W_drawC [] 8 mixed rfl fun _w_31 _cw_31 => ?_
          have _cw_31z := _cw_31.size
          have E := E.trans _cw_31
          have _f_32 := ((_m_18.ch0 _cw_25).ch0 _cw_31)
          refine DR_s 0 rfl (by kernel_rfl) rfl rfl (t_loadAtA0 _f_32.at_ (fun i hi => by first | exact absurd hi (List.not_mem_nil) | (have _h1 := List.mem_singleton.1 hi; omega)) agg57 sz57 rfl ?_)
          refine DR_s 1 rfl (by kernel_rfl) rfl rfl (t_v (fun _ => (r_move rfl)) ?_)
          refine DR_s 2 rfl (by kernel_rfl) rfl rfl (t_v (fun _ => (r_move rfl)) ?_)
          have _f_33 := ((((_o0_3.ch0 _cw_16).ch _cw_17 (fun g hg hm => by have _h0 := List.mem_singleton.1 hm; have _h2 := _lo0_3 _ hg; have _h3 := hisv _ hg; omega)).ch0 _cw_25).ch0 _cw_31)
          refine DR_s 3 rfl (by kernel_rfl) rfl rfl (t_cutO (ys := (ps.drop ((((ps.length : Nat) : Int) - (arK _y15.kind)).toNat))) ((((ps.length : Nat) : Int) - (arK _y15.kind)).toNat) ps.length _f_33 acs_len el66 sz59 rfl ⟨_, _, rfl, by omega⟩ rfl (by omega) (by omega) (cut_all _ _) fun _v39 _q39 _bb39 _ln39 => ?_)
          obtain ⟨_A39, _C39, _e39⟩ := _q39.val
          subst _e39
          have _l39 := _q39.len
          have hi39 := _q39.lt
          refine DR_one 4 (by kernel_rfl) ?_
          refine DO_s rfl rfl rfl ?_
          refine Step.call (r_call (xs := [.tmp 39]) fk82 rfl) (c_slices_Clone_impl_tree_impl_tree _q39.ls (by omega)) fun _v40 _w_34 _q40 => ?_
          obtain ⟨_q40, _lo40, _cw_34⟩ := _q40
          have _cw_34z := _cw_34.size
          have E := E.trans _cw_34
          obtain ⟨_Av40, _Cv40, _ev40⟩ := _q40.val
          subst _ev40
          have _lv40 := _q40.len
          have _hiv40 := _q40.lt
          have _S_35 : Ch [] _w_31 _w_34 := ((Ch.refl _ _).trans _cw_34.of_nil)
          refine ⟨_S_35, ?_⟩
          refine DR_s 5 rfl (by kernel_rfl) rfl rfl (t_v (fun _ => (r_build (parts := [(0, .tmp 36), (1, .tmp 40)]) (cells := [(.int .i64 _y15.kind), (.int .i64 _y15.letter), (.int .i64 _y15.low), (.int .i64 _y15.high), (.slice _Av40 ((ps.drop ((((ps.length : Nat) : Int) - (arK _y15.kind)).toNat))).length _Cv40)]) zr68 pl68 rfl rfl)) ?_)
          refine DR_one 6 (by kernel_rfl) ?_
          refine DO_s rfl rfl rfl ?_
          refine s_box rfl fun _b42 _w_36 _m42 _cw_36 _e42 => ?_
          have _cw_36z := _cw_36.size
          have E := E.trans _cw_36
          have _z42 := _m42.lt
          replace _m42 : Blk _w_36 _b42 68 [(.int .i64 _y15.kind), (.int .i64 _y15.letter), (.int .i64 _y15.low), (.int .i64 _y15.high), (.slice _Av40 ((ps.drop ((((ps.length : Nat) : Int) - (arK _y15.kind)).toNat))).length _Cv40)] := _m42
          have _S_37 : Ch [] _w_31 _w_36 := (_S_35.trans _cw_36.of_nil)
          refine ⟨_S_37, ?_⟩
          refine DR_s 7 rfl (by kernel_rfl) rfl rfl (t_v (fun _ => (r_assign rfl)) ?_)
          refine DR_done (by kernel_rfl) ?_
          refine thn_nrm (_hK_30 _ _ ?_)
          clear _hK_30
          refine W_region ?_
          refine WL_step rfl rfl (r_move rfl) ?_
          refine WL_step rfl rfl (r_move rfl) ?_
          refine WL_s rfl rfl ?_
          have _f_38 := ((_f_33.ch0 _cw_34).ch0 _cw_36)
          refine (s_cutO (ys := (ps.take ((((ps.length : Nat) : Int) - (arK _y15.kind)).toNat))) 0 ((((ps.length : Nat) : Int) - (arK _y15.kind)).toNat) _f_38 acs_len el66 sz59 rfl rfl ⟨_, _, rfl, by omega⟩ (by omega) (by omega) rfl fun _v45 _q45 _bb45 _ln45 => ?_)
          obtain ⟨_A45, _C45, _e45⟩ := _q45.val
          subst _e45
          have _l45 := _q45.len
          have hi45 := _q45.lt
          refine WL_step rfl rfl (r_move rfl) ?_
          refine WL_s rfl rfl ?_
          refine s_buildSliceP (parts := [(0, .tmp 46)]) [(⟨_b42, 0, none⟩ : Addr)] el66 sz59 zr59 rfl rfl (by decide) (by decide) rfl fun _v47 _w_39 _q47 _lo47 _cw_39 => ?_
          have _cw_39z := _cw_39.size
          have E := E.trans _cw_39
          obtain ⟨_Av47, _Cv47, _ev47⟩ := _q47.val
          subst _ev47
          have _lv47 := _q47.len
          have _hiv47 := _q47.lt
          refine WL_s rfl rfl ?_
          have _f_41 := (_q45.ch0 _cw_39)
          refine s_append (cs := acs) el66 sz59 by59 zr59 rfl (by decide) acs_one _f_41 _q47.ls rfl rfl (by first | omega | (simp only [List.length_append, List.length_nil, List.length_cons, List.length_replicate, List.length_set, List.length_reverse, List.length_map] at *; omega) | (simp at *; omega)) (by first | omega | (simp only [List.length_append, List.length_nil, List.length_cons, List.length_replicate, List.length_set, List.length_reverse, List.length_map] at *; omega) | (simp at *; omega)) (fun g hg => _lo0_3 g (_bb45 ▸ hg)) (by omega) fun _v48 _w_40 _q48 _lo48 _ap48 _cw_40 => ?_
          have _cw_40z := _cw_40.size
          have E := E.step _cw_40 (fun i hi => .inl (by have _h1 := (fun g hg => _lo0_3 g (_bb45 ▸ hg)) _ hi; omega))
          obtain ⟨_Av48, _Cv48, _ev48⟩ := _q48.val
          subst _ev48
          have _lv48 := _q48.len
          have _hiv48 := _q48.lt
          refine WL_step rfl rfl (r_assign rfl) ?_
          refine WL_nil ?_
          refine inB_nrm ?_
          refine thn_nrm (_hK_13 _ _ ?_)
          clear _hK_13
          refine W_region ?_
          refine WL_step rfl rfl (r_add (by omega) rfl rfl) ?_
          refine WL_step rfl rfl (r_move rfl) ?_
          refine WL_nil ?_
          have _f_42 := (_m42.ch0 _cw_39)
          have _f_43 := ((_q40.ch0 _cw_36).ch0 _cw_39)
          obtain ⟨s2, _p2, k2, j2⟩ := Tks.push (tok := _y15) tks hisv ((((((((Ch.refl [] _wr_9).trans _cw_16).step _cw_17 (fun i hi => .inl (by have _h1 := List.mem_singleton.1 hi; omega))).trans _cw_25).trans _cw_31).trans _cw_34).trans _cw_36).trans _cw_39) _f_42 (by omega) _f_43 (fun g hg => by have _h1 := _lo40 g hg; omega) _bb45 _cw_40 _ap48 (bt_d _h32) (by omega)
          have _on_44 : Ol acs 59 1 _w_40 (.slice _Av48 (((ps.take ((((ps.length : Nat) : Int) - (arK _y15.kind)).toNat)) ++ [(⟨_b42, 0, none⟩ : Addr)])).length _Cv48) (((ps.take ((((ps.length : Nat) : Int) - (arK _y15.kind)).toNat)) ++ [(⟨_b42, 0, none⟩ : Addr)])) := by
            have hx := _q48
            exact hx
          exact thn_nrm (Exists.intro ((i + 1), ((ps.take ((((ps.length : Nat) : Int) - (arK _y15.kind)).toNat)) ++ [(⟨_b42, 0, none⟩ : Addr)]), s2, (.slice _Av48 (((ps.take ((((ps.length : Nat) : Int) - (arK _y15.kind)).toNat)) ++ [(⟨_b42, 0, none⟩ : Addr)])).length _Cv48)) ⟨⟨E, (by omega), (by omega), (by simp only [List.length_append, List.length_take, List.length_singleton]; omega), (by omega), ((prs_snoc hp _hy15).trans _p2), _on_44, (Lo.down _lo48 (by omega)), k2⟩, Sub.cons rfl (Sub.cons rfl (Sub.cons rfl (Sub.cons rfl (Sub.nil _)))), (by first | omega | (dsimp only; omega))⟩)
    clear _hK_20
    refine W_seq fun _K_45 _hK_45 => ?_
    refine W_region ?_
    refine WL_step rfl rfl (r_fieldAddr fa57_0 rfl) ?_
    refine WL_step rfl rfl (r_loadAt _m_18.at_ agg3 rfl rfl) ?_
    refine WL_nil ?_
    refine thn_nrm (_hK_45 _ _ ?_)
    clear _hK_45
    refine W_block ?_
    refine W_seq fun _K_46 _hK_46 => ?_
    refine W_seq fun _K_47 _hK_47 => ?_
    refine W_region ?_
    refine WL_step rfl rfl (r_eql rfl rfl) ?_
    refine WL_step rfl rfl (r_assign rfl) ?_
    refine WL_nil ?_
    refine thn_nrm (_hK_47 _ _ ?_)
    clear _hK_47
    refine W_cond rfl (fun _h19 => ?_) (fun _h19 => ?_)
    · have _kb_48 := _h19
      have _h19 := bt_d _h19
      refine W_skip ?_
      refine thn_nrm (_hK_46 _ _ ?_)
      clear _hK_46
      refine W_condTk rfl _kb_48 ?_
      refine W_region ?_
      refine WL_step rfl rfl (r_assign rfl) ?_
      refine WL_nil ?_
      refine inB_nrm ?_
      refine thn_nrm ?_
      exact _J_21 _ (Sub.cons rfl (Sub.cons rfl (Sub.cons (by unfold arK; first | rfl | (repeat (first | rw [if_pos (by omega)] | rw [if_neg (by omega)])) <;> rfl) (Sub.cons rfl (Sub.cons rfl (Sub.cons rfl (Sub.cons rfl (Sub.cons rfl (Sub.cons rfl (Sub.nil _))))))))))
    · have _kb_48 := _h19
      have _h19 := bf_d _h19
      refine W_region ?_
      refine WL_step rfl rfl (r_eql rfl rfl) ?_
      refine WL_step rfl rfl (r_assign rfl) ?_
      refine WL_nil ?_
      refine thn_nrm (_hK_46 _ _ ?_)
      clear _hK_46
      refine W_cond rfl (fun _h19 => ?_) (fun _h19 => ?_)
      · have _kb_49 := _h19
        have _h19 := bt_d _h19
        refine W_region ?_
        refine WL_step rfl rfl (r_assign rfl) ?_
        refine WL_nil ?_
        refine inB_nrm ?_
        refine thn_nrm ?_
        exact _J_21 _ (Sub.cons rfl (Sub.cons rfl (Sub.cons (by unfold arK; first | rfl | (repeat (first | rw [if_pos (by omega)] | rw [if_neg (by omega)])) <;> rfl) (Sub.cons rfl (Sub.cons rfl (Sub.cons rfl (Sub.cons rfl (Sub.cons rfl (Sub.cons rfl (Sub.nil _))))))))))
      · have _kb_49 := _h19
        have _h19 := bf_d _h19
        refine W_seq fun _K_50 _hK_50 => ?_
        refine W_seq fun _K_51 _hK_51 => ?_
        refine W_region ?_
        refine WL_step rfl rfl (r_eql rfl rfl) ?_
        refine WL_step rfl rfl (r_assign rfl) ?_
        refine WL_nil ?_
        refine thn_nrm (_hK_51 _ _ ?_)
        clear _hK_51
        refine W_cond rfl (fun _h22 => ?_) (fun _h22 => ?_)
        · have _kb_52 := _h22
          have _h22 := bt_d _h22
          refine W_skip ?_
          refine thn_nrm (_hK_50 _ _ ?_)
          clear _hK_50
          refine W_condTk rfl _kb_52 ?_
          refine W_region ?_
          refine WL_step rfl rfl (r_assign rfl) ?_
          refine WL_nil ?_
          refine inB_nrm ?_
          refine thn_nrm ?_
          exact _J_21 _ (Sub.cons rfl (Sub.cons rfl (Sub.cons (by unfold arK; first | rfl | (repeat (first | rw [if_pos (by omega)] | rw [if_neg (by omega)])) <;> rfl) (Sub.cons rfl (Sub.cons rfl (Sub.cons rfl (Sub.cons rfl (Sub.cons rfl (Sub.cons rfl (Sub.nil _))))))))))
        · have _kb_52 := _h22
          have _h22 := bf_d _h22
          refine W_region ?_
          refine WL_step rfl rfl (r_eql rfl rfl) ?_
          refine WL_step rfl rfl (r_assign rfl) ?_
          refine WL_nil ?_
          refine thn_nrm (_hK_50 _ _ ?_)
          clear _hK_50
          refine W_cond rfl (fun _h22 => ?_) (fun _h22 => ?_)
          · have _kb_53 := _h22
            have _h22 := bt_d _h22
            refine W_region ?_
            refine WL_step rfl rfl (r_assign rfl) ?_
            refine WL_nil ?_
            refine inB_nrm ?_
            refine thn_nrm ?_
            exact _J_21 _ (Sub.cons rfl (Sub.cons rfl (Sub.cons (by unfold arK; first | rfl | (repeat (first | rw [if_pos (by omega)] | rw [if_neg (by omega)])) <;> rfl) (Sub.cons rfl (Sub.cons rfl (Sub.cons rfl (Sub.cons rfl (Sub.cons rfl (Sub.cons rfl (Sub.nil _))))))))))
          · have _kb_53 := _h22
            have _h22 := bf_d _h22
            refine W_skip ?_
            refine inB_nrm ?_
            refine thn_nrm ?_
            exact _J_21 _ (Sub.cons rfl (Sub.cons rfl (Sub.cons (by unfold arK; first | rfl | (repeat (first | rw [if_pos (by omega)] | rw [if_neg (by omega)])) <;> rfl) (Sub.cons rfl (Sub.cons rfl (Sub.cons rfl (Sub.cons rfl (Sub.cons rfl (Sub.cons rfl (Sub.nil _))))))))))
  · have _kb_12 := _h14
    have _h14 := bf_d _h14
    refine W_exit (thn_exit (thn_exit (inB_hit ?_)))
    refine thn_nrm (_hK_5 _ _ ?_)
    clear _hK_5
    refine W_seq fun _K_54 _hK_54 => ?_
    refine W_seq fun _K_55 _hK_55 => ?_
    refine W_region ?_
    refine WL_step rfl rfl (r_move rfl) ?_
    refine WL_step rfl rfl (r_len (by rw [el66]; rfl) rfl) ?_
    refine WL_step rfl rfl (r_neq rfl rfl) ?_
    refine WL_nil ?_
    refine thn_nrm (_hK_55 _ _ ?_)
    clear _hK_55
    refine W_cond rfl (fun _h52 => ?_) (fun _h52 => ?_)
    · have _kb_56 := _h52
      have _h52 := bf_d (bt_n _h52)
      refine W_seq fun _K_57 _hK_57 => ?_
      refine W_region ?_
      refine WL_step rfl rfl (r_assign rfl) ?_
      refine WL_nil ?_
      refine thn_nrm (_hK_57 _ _ ?_)
      clear _hK_57
      refine W_ret (thn_ret ?_)
      clear _hK_11 _hK_54
      exact ret_intro [_] ⟨rfl, trivial⟩ ⟨.inl ⟨(by first | exact treeL_none hp (by omega) (by omega) | exact isE_no hp _hy15 (push_bad (by first | exact .inl _h32 | (right; omega)))), rfl⟩, E⟩
    · have _kb_56 := _h52
      have _h52 := bt_d (bf_n _h52)
      refine W_skip ?_
      refine thn_nrm (_hK_54 _ _ ?_)
      clear _hK_54
      refine W_seq fun _K_58 _hK_58 => ?_
      refine W_region ?_
      refine WL_step rfl rfl (r_move rfl) ?_
      refine WL_s rfl rfl ?_
      refine (s_index (j := 0) _o0_3.ls acs_len el66 sz59 rfl rfl rfl (by omega) fun _p54 _y54 _hy54 _a54 => ?_)
      replace _a54 : At _wr_9 _wr_9.heap.size _p54 ([(.pointer (some _y54))]) := _a54
      obtain ⟨_t9, _e9, k9⟩ := tks.one (by omega) _hy54
      subst _e9
      refine WL_step rfl rfl (r_loadAt0 _a54 agg59 rfl rfl) ?_
      refine WL_step rfl rfl (r_assign rfl) ?_
      refine WL_nil ?_
      refine thn_nrm (_hK_58 _ _ ?_)
      clear _hK_58
      refine W_ret ?_
      clear _hK_11
      exact ret_intro [_] ⟨rfl, trivial⟩ ⟨.inr ⟨_, _, (treeL_some hp (by omega)), rfl, k9⟩, E⟩

/-- impl.Nullable -/
theorem c_impl_Nullable {w : World} {_B_e : Nat} {_v_e : Value} {e : List Token} (_h_e : Ls Token.cs 4 w _B_e _v_e e) (hb : e.length ≤ 1048576) :
    Ctr Try.prog 22 #[(.agg #[_v_e])] w (fun v w' => v = .bool (nullE e) ∧ Ch [] w w') := by
  obtain ⟨_A_e, _C_e, _e1_e⟩ := _h_e.val
  subst _e1_e
  have _l_e := _h_e.len
  have _h_e := _h_e.here (by decide)
  have E := Ch.refl [] w
  refine Ctr_of_W (N := 12) (vs0 := [(.agg #[(.slice _A_e e.length _C_e)])]) Try.func22 rfl rfl rfl ?_
  refine W_seq fun _K_1 _hK_1 => ?_
  refine W_region ?_
  refine WL_s rfl rfl ?_
  refine s_box rfl fun _b1 _w_2 _m1 _cw_2 _e1 => ?_
  have _cw_2z := _cw_2.size
  have E := E.trans _cw_2
  have _z1 := _m1.lt
  replace _m1 : Blk _w_2 _b1 29 [(.slice _A_e e.length _C_e)] := _m1
  refine WL_step rfl rfl (r_assign rfl) ?_
  refine WL_nil ?_
  refine thn_nrm (_hK_1 _ _ ?_)
  clear _hK_1
  refine W_seq fun _K_3 _hK_3 => ?_
  refine W_region ?_
  refine WL_step rfl rfl (r_loadAtA0 _m1.at_ agg29 sz29 rfl) ?_
  refine WL_s rfl rfl ?_
  have _f_4 := (_h_e.ch0 _cw_2)
  refine Step.call (r_call (xs := [.tmp 4]) fk51 rfl) (c_impl_treeOf _f_4 (by omega)) fun _v5 _w_5 _q5 => ?_
  obtain ⟨_q5, _cw_5⟩ := _q5
  have _cw_5z := _cw_5.size
  have E := E.trans _cw_5
  rcases _q5 with ⟨_e5, rfl⟩ | ⟨tt5, _p5, _e5, rfl, _tr5⟩
  · refine WL_step rfl rfl (r_assign rfl) ?_
    refine WL_nil ?_
    refine thn_nrm (_hK_3 _ _ ?_)
    clear _hK_3
    refine W_seq fun _K_6 _hK_6 => ?_
    refine W_region ?_
    refine WL_step rfl rfl (r_move rfl) ?_
    refine WL_step rfl rfl (r_nePN ptr59 rfl rfl) ?_
    refine WL_step rfl rfl (r_move rfl) ?_
    refine WL_skip rfl rfl ?_
    refine WL_skip rfl rfl ?_
    refine WL_step rfl rfl (r_pickF rfl rfl) ?_
    refine WL_step rfl rfl (r_assign rfl) ?_
    refine WL_nil ?_
    refine thn_nrm (_hK_6 _ _ ?_)
    clear _hK_6
    refine W_ret ?_
    exact ret_intro [_] ⟨rfl, trivial⟩ ⟨congrArg Value.bool (by first | exact nullE_y _e5 | exact nullE_n _e5), E⟩
  · replace _tr5 : TrAt _w_5 _w_5.heap.size _p5 tt5 := _tr5
    obtain ⟨_A_5, _C_5, _ps_5, _hc_5, _hk_5, _kd_5⟩ := _tr5.open
    have _kl_5 := _kd_5.1
    refine WL_step rfl rfl (r_assign rfl) ?_
    refine WL_nil ?_
    refine thn_nrm (_hK_3 _ _ ?_)
    clear _hK_3
    refine W_seq fun _K_7 _hK_7 => ?_
    refine W_region ?_
    refine WL_step rfl rfl (r_move rfl) ?_
    refine WL_step rfl rfl (r_nePN ptr59 rfl rfl) ?_
    refine WL_step rfl rfl (r_move rfl) ?_
    refine WL_step rfl rfl (r_move rfl) ?_
    refine WL_s rfl rfl ?_
    refine Step.call (r_call (xs := [.tmp 9]) fk54 rfl) (c_impl_tree_nullable _tr5 (treeL_ok _e5).1) fun _v10 _w_8 _q10 => ?_
    obtain ⟨rfl, _cw_8⟩ := _q10
    have _cw_8z := _cw_8.size
    have E := E.trans _cw_8
    refine WL_step rfl rfl (r_pickT rfl rfl) ?_
    refine WL_step rfl rfl (r_assign rfl) ?_
    refine WL_nil ?_
    refine thn_nrm (_hK_7 _ _ ?_)
    clear _hK_7
    refine W_ret ?_
    exact ret_intro [_] ⟨rfl, trivial⟩ ⟨congrArg Value.bool (by first | exact nullE_y _e5 | exact nullE_n _e5), E⟩

/-- laws.eqToken -/
theorem c_laws_eqToken {w : World} (a : Token) (b : Token) :
    Ctr Try.prog 83 #[(.agg #[(.int .i64 a.kind), (.int .i64 a.letter), (.int .i64 a.low), (.int .i64 a.high)]), (.agg #[(.int .i64 b.kind), (.int .i64 b.letter), (.int .i64 b.low), (.int .i64 b.high)])] w (fun v w' => v = .bool (decide (a = b)) ∧ Ch [] w w') := by
  have E := Ch.refl [] w
  refine Ctr_of_W (N := 25) (vs0 := [(.agg #[(.int .i64 a.kind), (.int .i64 a.letter), (.int .i64 a.low), (.int .i64 a.high)]), (.agg #[(.int .i64 b.kind), (.int .i64 b.letter), (.int .i64 b.low), (.int .i64 b.high)])]) Try.func83 rfl rfl rfl ?_
  refine W_seq fun _K_1 _hK_1 => ?_
  refine W_region ?_
  refine WL_s rfl rfl ?_
  refine s_box rfl fun _b2 _w_2 _m2 _cw_2 _e2 => ?_
  have _cw_2z := _cw_2.size
  have E := E.trans _cw_2
  have _z2 := _m2.lt
  replace _m2 : Blk _w_2 _b2 57 [(.int .i64 a.kind), (.int .i64 a.letter), (.int .i64 a.low), (.int .i64 a.high)] := _m2
  refine WL_s rfl rfl ?_
  refine s_box rfl fun _b3 _w_3 _m3 _cw_3 _e3 => ?_
  have _cw_3z := _cw_3.size
  have E := E.trans _cw_3
  have _z3 := _m3.lt
  replace _m3 : Blk _w_3 _b3 57 [(.int .i64 b.kind), (.int .i64 b.letter), (.int .i64 b.low), (.int .i64 b.high)] := _m3
  refine WL_step rfl rfl (r_assign rfl) ?_
  refine WL_nil ?_
  refine thn_nrm (_hK_1 _ _ ?_)
  clear _hK_1
  refine W_seq fun _K_4 _hK_4 => ?_
  refine W_seq fun _K_5 _hK_5 => ?_
  refine W_region ?_
  refine WL_step rfl rfl (r_fieldAddr fa57_0 rfl) ?_
  have _f_6 := (_m2.ch0 _cw_3)
  refine WL_step rfl rfl (r_loadAt _f_6.at_ agg3 rfl rfl) ?_
  refine WL_step rfl rfl (r_fieldAddr fa57_0 rfl) ?_
  refine WL_step rfl rfl (r_loadAt _m3.at_ agg3 rfl rfl) ?_
  refine WL_step rfl rfl (r_neq rfl rfl) ?_
  refine WL_nil ?_
  refine thn_nrm (_hK_5 _ _ ?_)
  clear _hK_5
  refine W_cond rfl (fun _h9 => ?_) (fun _h9 => ?_)
  · have _kb_7 := _h9
    have _h9 := bf_d (bt_n _h9)
    refine W_seq fun _K_8 _hK_8 => ?_
    refine W_region ?_
    refine WL_step rfl rfl (r_assign rfl) ?_
    refine WL_nil ?_
    refine thn_nrm (_hK_8 _ _ ?_)
    clear _hK_8
    refine W_ret (thn_ret ?_)
    clear _hK_4
    exact ret_intro [_] ⟨rfl, trivial⟩ ⟨congrArg Value.bool (decide_eq_false (fun e => _h9 (by rw [e]))).symm, E⟩
  · have _kb_7 := _h9
    have _h9 := bt_d (bf_n _h9)
    refine W_skip ?_
    refine thn_nrm (_hK_4 _ _ ?_)
    clear _hK_4
    refine W_seq fun _K_9 _hK_9 => ?_
    refine W_seq fun _K_10 _hK_10 => ?_
    refine W_region ?_
    refine WL_step rfl rfl (r_fieldAddr fa57_1 rfl) ?_
    refine WL_step rfl rfl (r_loadAt _f_6.at_ agg3 rfl rfl) ?_
    refine WL_step rfl rfl (r_fieldAddr fa57_1 rfl) ?_
    refine WL_step rfl rfl (r_loadAt _m3.at_ agg3 rfl rfl) ?_
    refine WL_step rfl rfl (r_neq rfl rfl) ?_
    refine WL_nil ?_
    refine thn_nrm (_hK_10 _ _ ?_)
    clear _hK_10
    refine W_cond rfl (fun _h14 => ?_) (fun _h14 => ?_)
    · have _kb_11 := _h14
      have _h14 := bf_d (bt_n _h14)
      refine W_seq fun _K_12 _hK_12 => ?_
      refine W_region ?_
      refine WL_step rfl rfl (r_assign rfl) ?_
      refine WL_nil ?_
      refine thn_nrm (_hK_12 _ _ ?_)
      clear _hK_12
      refine W_ret (thn_ret ?_)
      clear _hK_9
      exact ret_intro [_] ⟨rfl, trivial⟩ ⟨congrArg Value.bool (decide_eq_false (fun e => _h14 (by rw [e]))).symm, E⟩
    · have _kb_11 := _h14
      have _h14 := bt_d (bf_n _h14)
      refine W_skip ?_
      refine thn_nrm (_hK_9 _ _ ?_)
      clear _hK_9
      refine W_seq fun _K_13 _hK_13 => ?_
      refine W_seq fun _K_14 _hK_14 => ?_
      refine W_region ?_
      refine WL_step rfl rfl (r_fieldAddr fa57_2 rfl) ?_
      refine WL_step rfl rfl (r_loadAt _f_6.at_ agg3 rfl rfl) ?_
      refine WL_step rfl rfl (r_fieldAddr fa57_2 rfl) ?_
      refine WL_step rfl rfl (r_loadAt _m3.at_ agg3 rfl rfl) ?_
      refine WL_step rfl rfl (r_neq rfl rfl) ?_
      refine WL_nil ?_
      refine thn_nrm (_hK_14 _ _ ?_)
      clear _hK_14
      refine W_cond rfl (fun _h19 => ?_) (fun _h19 => ?_)
      · have _kb_15 := _h19
        have _h19 := bf_d (bt_n _h19)
        refine W_seq fun _K_16 _hK_16 => ?_
        refine W_region ?_
        refine WL_step rfl rfl (r_assign rfl) ?_
        refine WL_nil ?_
        refine thn_nrm (_hK_16 _ _ ?_)
        clear _hK_16
        refine W_ret (thn_ret ?_)
        clear _hK_13
        exact ret_intro [_] ⟨rfl, trivial⟩ ⟨congrArg Value.bool (decide_eq_false (fun e => _h19 (by rw [e]))).symm, E⟩
      · have _kb_15 := _h19
        have _h19 := bt_d (bf_n _h19)
        refine W_skip ?_
        refine thn_nrm (_hK_13 _ _ ?_)
        clear _hK_13
        refine W_seq fun _K_17 _hK_17 => ?_
        refine W_seq fun _K_18 _hK_18 => ?_
        refine W_region ?_
        refine WL_step rfl rfl (r_fieldAddr fa57_3 rfl) ?_
        refine WL_step rfl rfl (r_loadAt _f_6.at_ agg3 rfl rfl) ?_
        refine WL_step rfl rfl (r_fieldAddr fa57_3 rfl) ?_
        refine WL_step rfl rfl (r_loadAt _m3.at_ agg3 rfl rfl) ?_
        refine WL_step rfl rfl (r_neq rfl rfl) ?_
        refine WL_nil ?_
        refine thn_nrm (_hK_18 _ _ ?_)
        clear _hK_18
        refine W_cond rfl (fun _h24 => ?_) (fun _h24 => ?_)
        · have _kb_19 := _h24
          have _h24 := bf_d (bt_n _h24)
          refine W_seq fun _K_20 _hK_20 => ?_
          refine W_region ?_
          refine WL_step rfl rfl (r_assign rfl) ?_
          refine WL_nil ?_
          refine thn_nrm (_hK_20 _ _ ?_)
          clear _hK_20
          refine W_ret (thn_ret ?_)
          clear _hK_17
          exact ret_intro [_] ⟨rfl, trivial⟩ ⟨congrArg Value.bool (decide_eq_false (fun e => _h24 (by rw [e]))).symm, E⟩
        · have _kb_19 := _h24
          have _h24 := bt_d (bf_n _h24)
          refine W_skip ?_
          refine thn_nrm (_hK_17 _ _ ?_)
          clear _hK_17
          refine W_seq fun _K_21 _hK_21 => ?_
          refine W_region ?_
          refine WL_step rfl rfl (r_assign rfl) ?_
          refine WL_nil ?_
          refine thn_nrm (_hK_21 _ _ ?_)
          clear _hK_21
          refine W_ret ?_
          exact ret_intro [_] ⟨rfl, trivial⟩ ⟨congrArg Value.bool (decide_eq_true (Token.inj (by rw [_h9, _h14, _h19, _h24]))).symm, E⟩

/-- laws.eqTokenS -/
theorem c_laws_eqTokenS {w : World} {_B_a : Nat} {_v_a : Value} {a : List Token} (_h_a : Ls Token.cs 4 w _B_a _v_a a) {_B_b : Nat} {_v_b : Value} {b : List Token} (_h_b : Ls Token.cs 4 w _B_b _v_b b) :
    Ctr Try.prog 52 #[_v_a, _v_b] w (fun v w' => v = .bool (decide (a = b)) ∧ Ch [] w w') := by
  obtain ⟨_A_a, _C_a, _e1_a⟩ := _h_a.val
  subst _e1_a
  have _l_a := _h_a.len
  have _h_a := _h_a.here (by decide)
  obtain ⟨_A_b, _C_b, _e1_b⟩ := _h_b.val
  subst _e1_b
  have _l_b := _h_b.len
  have _h_b := _h_b.here (by decide)
  have E := Ch.refl [] w
  refine Ctr_of_W (N := 27) (vs0 := [(.slice _A_a a.length _C_a), (.slice _A_b b.length _C_b)]) Try.func52 rfl rfl rfl ?_
  refine W_seq fun _K_1 _hK_1 => ?_
  refine W_region ?_
  refine WL_step rfl rfl (r_assign rfl) ?_
  refine WL_nil ?_
  refine thn_nrm (_hK_1 _ _ ?_)
  clear _hK_1
  refine W_seq fun _K_2 _hK_2 => ?_
  refine W_seq fun _K_3 _hK_3 => ?_
  refine W_region ?_
  refine WL_step rfl rfl (r_move rfl) ?_
  refine WL_step rfl rfl (r_len (by rw [el27]; rfl) rfl) ?_
  refine WL_step rfl rfl (r_move rfl) ?_
  refine WL_step rfl rfl (r_len (by rw [el27]; rfl) rfl) ?_
  refine WL_step rfl rfl (r_neq rfl rfl) ?_
  refine WL_nil ?_
  refine thn_nrm (_hK_3 _ _ ?_)
  clear _hK_3
  refine W_cond rfl (fun _h10 => ?_) (fun _h10 => ?_)
  · have _kb_4 := _h10
    have _h10 := bf_d (bt_n _h10)
    refine W_seq fun _K_5 _hK_5 => ?_
    refine W_region ?_
    refine WL_step rfl rfl (r_assign rfl) ?_
    refine WL_nil ?_
    refine thn_nrm (_hK_5 _ _ ?_)
    clear _hK_5
    refine W_ret (thn_ret ?_)
    clear _hK_2
    exact ret_intro [_] ⟨rfl, trivial⟩ ⟨congrArg Value.bool (decide_eq_false (fun e => _h10 (by rw [e]))).symm, E⟩
  · have _kb_4 := _h10
    have _h10 := bt_d (bf_n _h10)
    refine W_skip ?_
    refine thn_nrm (_hK_2 _ _ ?_)
    clear _hK_2
    refine W_seq fun _K_6 _hK_6 => ?_
    refine W_seq fun _K_7 _hK_7 => ?_
    refine W_region ?_
    refine WL_step rfl rfl (r_assign rfl) ?_
    refine WL_nil ?_
    refine thn_nrm (_hK_7 _ _ ?_)
    clear _hK_7
    refine W_block ?_
    refine W_loop (σ := Nat) (fun (k : Nat) => [(0, (.slice _A_a a.length _C_a)), (1, (.slice _A_b b.length _C_b)), (5, (.int .i64 ((k : Nat) : Int)))]) (fun (k : Nat) wx => Ch [] w wx ∧ w.heap.size ≤ wx.heap.size ∧ (k ≤ a.length) ∧ (a.take k = b.take k)) (fun (k : Nat) => a.length - k) 0 (Sub.cons rfl (Sub.cons rfl (Sub.cons rfl (Sub.nil _)))) ⟨E, (Nat.le_refl _), (by omega), rfl⟩ ?_
    rintro k _wr_8 ⟨E, _zz0, _hk, _ht⟩
    have _E0h := E
    have _E0hz := _E0h.size
    refine W_seq fun _K_9 _hK_9 => ?_
    refine W_seq fun _K_10 _hK_10 => ?_
    refine W_region ?_
    refine WL_step rfl rfl (r_move rfl) ?_
    refine WL_step rfl rfl (r_move rfl) ?_
    refine WL_step rfl rfl (r_len (by rw [el27]; rfl) rfl) ?_
    refine WL_step rfl rfl (r_lss rfl rfl) ?_
    refine WL_nil ?_
    refine thn_nrm (_hK_10 _ _ ?_)
    clear _hK_10
    refine W_cond rfl (fun _h14 => ?_) (fun _h14 => ?_)
    · have _kb_11 := _h14
      have _h14 := bt_d _h14
      refine W_skip ?_
      refine thn_nrm (_hK_9 _ _ ?_)
      clear _hK_9
      refine W_seq fun _K_12 _hK_12 => ?_
      refine W_block ?_
      refine W_seq fun _K_13 _hK_13 => ?_
      refine W_drawC [] 10 mixed rfl fun _w_14 _cw_14 => ?_
      have _cw_14z := _cw_14.size
      have E := E.trans _cw_14
      refine DR_s 0 rfl (by kernel_rfl) rfl rfl (t_v (fun _ => (r_move rfl)) ?_)
      refine DR_s 1 rfl (by kernel_rfl) rfl rfl (t_v (fun _ => (r_move rfl)) ?_)
      have _f_15 := ((_h_a.ch0 _E0h).ch0 _cw_14)
      refine DR_s 2 rfl (by kernel_rfl) rfl rfl (t_index _f_15 Token.len el27 sz57 rfl rfl rfl (by omega) fun _p19 _y19 _hy19 _a19 => ?_)
      refine DR_s 3 rfl (by kernel_rfl) rfl rfl (t_loadAtA0 _a19 (fun i hi => by first | exact absurd hi (List.not_mem_nil) | (have _h1 := List.mem_singleton.1 hi; omega)) agg57 sz57 rfl ?_)
      refine DR_s 4 rfl (by kernel_rfl) rfl rfl (t_v (fun _ => (r_move rfl)) ?_)
      refine DR_s 5 rfl (by kernel_rfl) rfl rfl (t_v (fun _ => (r_move rfl)) ?_)
      have _f_16 := ((_h_b.ch0 _E0h).ch0 _cw_14)
      refine DR_s 6 rfl (by kernel_rfl) rfl rfl (t_index _f_16 Token.len el27 sz57 rfl rfl rfl (by omega) fun _p23 _y23 _hy23 _a23 => ?_)
      refine DR_s 7 rfl (by kernel_rfl) rfl rfl (t_loadAtA0 _a23 (fun i hi => by first | exact absurd hi (List.not_mem_nil) | (have _h1 := List.mem_singleton.1 hi; omega)) agg57 sz57 rfl ?_)
      refine DR_one 8 (by kernel_rfl) ?_
      refine DO_s rfl rfl rfl ?_
      refine Step.call (r_call (xs := [.tmp 20, .tmp 24]) fk83 rfl) (c_laws_eqToken _y19 _y23 ) fun _v25 _w_17 _q25 => ?_
      obtain ⟨rfl, _cw_17⟩ := _q25
      have _cw_17z := _cw_17.size
      have E := E.trans _cw_17
      have _S_18 : Ch [] _w_14 _w_17 := ((Ch.refl _ _).trans _cw_17.of_nil)
      refine ⟨_S_18, ?_⟩
      refine DR_s 9 rfl (by kernel_rfl) rfl rfl (t_v (fun _ => (r_not rfl)) ?_)
      refine DR_done (by kernel_rfl) ?_
      refine thn_nrm (_hK_13 _ _ ?_)
      clear _hK_13
      refine W_cond rfl (fun _h26 => ?_) (fun _h26 => ?_)
      · have _kb_19 := _h26
        have _h26 := bf_d (bt_n _h26)
        refine W_seq fun _K_20 _hK_20 => ?_
        refine W_region ?_
        refine WL_step rfl rfl (r_assign rfl) ?_
        refine WL_nil ?_
        refine thn_nrm (_hK_20 _ _ ?_)
        clear _hK_20
        refine W_ret (inB_ret (thn_ret (thn_ret (inB_ret (thn_ret ?_)))))
        clear _hK_6 _hK_12
        exact ret_intro [_] ⟨rfl, trivial⟩ ⟨congrArg Value.bool (decide_eq_false (ne_of_get _hy19 _hy23 _h26)).symm, E⟩
      · have _kb_19 := _h26
        have _h26 := bt_d (bf_n _h26)
        refine W_skip ?_
        refine inB_nrm ?_
        refine thn_nrm (_hK_12 _ _ ?_)
        clear _hK_12
        refine W_region ?_
        refine WL_step rfl rfl (r_move rfl) ?_
        refine WL_step rfl rfl (r_add (by omega) rfl rfl) ?_
        refine WL_step rfl rfl (r_assign rfl) ?_
        refine WL_nil ?_
        exact thn_nrm (Exists.intro (k + 1) ⟨⟨E, (by omega), (by omega), (take_eq_succ _ht _hy19 _hy23 _h26)⟩, Sub.cons rfl (Sub.cons rfl (Sub.cons rfl (Sub.nil _))), (by first | omega | (dsimp only; omega))⟩)
    · have _kb_11 := _h14
      have _h14 := bf_d _h14
      refine W_exit (thn_exit (thn_exit (inB_hit ?_)))
      refine thn_nrm (_hK_6 _ _ ?_)
      clear _hK_6
      refine W_seq fun _K_21 _hK_21 => ?_
      refine W_region ?_
      refine WL_step rfl rfl (r_assign rfl) ?_
      refine WL_nil ?_
      refine thn_nrm (_hK_21 _ _ ?_)
      clear _hK_21
      refine W_ret ?_
      clear _hK_9
      exact ret_intro [_] ⟨rfl, trivial⟩ ⟨congrArg Value.bool (decide_eq_true (eq_of_take _ht (by omega) (by omega))).symm, E⟩

/-- laws.eqExpr -/
theorem c_laws_eqExpr {w : World} {_B_a : Nat} {_v_a : Value} {a : List Token} (_h_a : Ls Token.cs 4 w _B_a _v_a a) {_B_b : Nat} {_v_b : Value} {b : List Token} (_h_b : Ls Token.cs 4 w _B_b _v_b b) :
    Ctr Try.prog 18 #[(.agg #[_v_a]), (.agg #[_v_b])] w (fun v w' => v = .bool (decide (a = b)) ∧ Ch [] w w') := by
  obtain ⟨_A_a, _C_a, _e1_a⟩ := _h_a.val
  subst _e1_a
  have _l_a := _h_a.len
  have _h_a := _h_a.here (by decide)
  obtain ⟨_A_b, _C_b, _e1_b⟩ := _h_b.val
  subst _e1_b
  have _l_b := _h_b.len
  have _h_b := _h_b.here (by decide)
  have E := Ch.refl [] w
  refine Ctr_of_W (N := 11) (vs0 := [(.agg #[(.slice _A_a a.length _C_a)]), (.agg #[(.slice _A_b b.length _C_b)])]) Try.func18 rfl rfl rfl ?_
  refine W_seq fun _K_1 _hK_1 => ?_
  refine W_region ?_
  refine WL_s rfl rfl ?_
  refine s_box rfl fun _b2 _w_2 _m2 _cw_2 _e2 => ?_
  have _cw_2z := _cw_2.size
  have E := E.trans _cw_2
  have _z2 := _m2.lt
  replace _m2 : Blk _w_2 _b2 29 [(.slice _A_a a.length _C_a)] := _m2
  refine WL_s rfl rfl ?_
  refine s_box rfl fun _b3 _w_3 _m3 _cw_3 _e3 => ?_
  have _cw_3z := _cw_3.size
  have E := E.trans _cw_3
  have _z3 := _m3.lt
  replace _m3 : Blk _w_3 _b3 29 [(.slice _A_b b.length _C_b)] := _m3
  refine WL_step rfl rfl (r_assign rfl) ?_
  refine WL_nil ?_
  refine thn_nrm (_hK_1 _ _ ?_)
  clear _hK_1
  refine W_seq fun _K_4 _hK_4 => ?_
  refine W_seq fun _K_5 _hK_5 => ?_
  refine W_region ?_
  refine WL_step rfl rfl (r_fieldAddr fa29_0 rfl) ?_
  have _f_6 := (_m2.ch0 _cw_3)
  refine WL_step rfl rfl (r_loadAt _f_6.at_ agg27 rfl rfl) ?_
  refine WL_step rfl rfl (r_fieldAddr fa29_0 rfl) ?_
  refine WL_step rfl rfl (r_loadAt _m3.at_ agg27 rfl rfl) ?_
  refine WL_s rfl rfl ?_
  have _f_7 := ((_h_a.ch0 _cw_2).ch0 _cw_3)
  have _f_8 := ((_h_b.ch0 _cw_2).ch0 _cw_3)
  refine Step.call (r_call (xs := [.tmp 6, .tmp 8]) fk52 rfl) (c_laws_eqTokenS _f_7 _f_8 ) fun _v9 _w_9 _q9 => ?_
  obtain ⟨rfl, _cw_9⟩ := _q9
  have _cw_9z := _cw_9.size
  have E := E.trans _cw_9
  refine WL_step rfl rfl (r_not rfl) ?_
  refine WL_nil ?_
  refine thn_nrm (_hK_5 _ _ ?_)
  clear _hK_5
  refine W_cond rfl (fun _h10 => ?_) (fun _h10 => ?_)
  · have _kb_10 := _h10
    have _h10 := bf_d (bt_n _h10)
    refine W_seq fun _K_11 _hK_11 => ?_
    refine W_region ?_
    refine WL_step rfl rfl (r_assign rfl) ?_
    refine WL_nil ?_
    refine thn_nrm (_hK_11 _ _ ?_)
    clear _hK_11
    refine W_ret (thn_ret ?_)
    clear _hK_4
    exact ret_intro [_] ⟨rfl, trivial⟩ ⟨congrArg Value.bool (by simp_all), E⟩
  · have _kb_10 := _h10
    have _h10 := bt_d (bf_n _h10)
    refine W_skip ?_
    refine thn_nrm (_hK_4 _ _ ?_)
    clear _hK_4
    refine W_seq fun _K_12 _hK_12 => ?_
    refine W_region ?_
    refine WL_step rfl rfl (r_assign rfl) ?_
    refine WL_nil ?_
    refine thn_nrm (_hK_12 _ _ ?_)
    clear _hK_12
    refine W_ret ?_
    exact ret_intro [_] ⟨rfl, trivial⟩ ⟨congrArg Value.bool (by simp_all), E⟩

/-- laws.szTokenS -/
theorem c_laws_szTokenS {w : World} {_B_a : Nat} {_v_a : Value} {a : List Token} (_h_a : Ls Token.cs 4 w _B_a _v_a a) (left : Int) (hl : left ≤ 1048576) (_h0 : 0 ≤ left) :
    Ctr Try.prog 48 #[_v_a, (.int .i64 left)] w (fun v w' => v = .int .i64 (if left < a.length then -1 else left - a.length) ∧ Ch [] w w') := by
  obtain ⟨_A_a, _C_a, _e1_a⟩ := _h_a.val
  subst _e1_a
  have _l_a := _h_a.len
  have _h_a := _h_a.here (by decide)
  have E := Ch.refl [] w
  refine Ctr_of_W (N := 12) (vs0 := [(.slice _A_a a.length _C_a), (.int .i64 left)]) Try.func48 rfl rfl rfl ?_
  refine W_seq fun _K_1 _hK_1 => ?_
  refine W_region ?_
  refine WL_step rfl rfl (r_assign rfl) ?_
  refine WL_nil ?_
  refine thn_nrm (_hK_1 _ _ ?_)
  clear _hK_1
  refine W_seq fun _K_2 _hK_2 => ?_
  refine W_region ?_
  refine WL_step rfl rfl (r_move rfl) ?_
  refine WL_step rfl rfl (r_move rfl) ?_
  refine WL_step rfl rfl (r_len (by rw [el22]; rfl) rfl) ?_
  refine WL_step rfl rfl (r_sub (by omega) rfl rfl) ?_
  refine WL_step rfl rfl (r_assign rfl) ?_
  refine WL_nil ?_
  refine thn_nrm (_hK_2 _ _ ?_)
  clear _hK_2
  refine W_seq fun _K_3 _hK_3 => ?_
  refine W_seq fun _K_4 _hK_4 => ?_
  refine W_region ?_
  refine WL_step rfl rfl (r_move rfl) ?_
  refine WL_step rfl rfl (r_lss rfl rfl) ?_
  refine WL_nil ?_
  refine thn_nrm (_hK_4 _ _ ?_)
  clear _hK_4
  refine W_cond rfl (fun _h10 => ?_) (fun _h10 => ?_)
  · have _kb_5 := _h10
    have _h10 := bt_d _h10
    refine W_seq fun _K_6 _hK_6 => ?_
    refine W_region ?_
    refine WL_step rfl rfl (r_assign rfl) ?_
    refine WL_nil ?_
    refine thn_nrm (_hK_6 _ _ ?_)
    clear _hK_6
    refine W_ret (thn_ret ?_)
    clear _hK_3
    exact ret_intro [_] ⟨rfl, trivial⟩ ⟨congrArg (Value.int .i64) (if_pos (by omega)).symm, E⟩
  · have _kb_5 := _h10
    have _h10 := bf_d _h10
    refine W_skip ?_
    refine thn_nrm (_hK_3 _ _ ?_)
    clear _hK_3
    refine W_seq fun _K_7 _hK_7 => ?_
    refine W_region ?_
    refine WL_step rfl rfl (r_move rfl) ?_
    refine WL_step rfl rfl (r_assign rfl) ?_
    refine WL_nil ?_
    refine thn_nrm (_hK_7 _ _ ?_)
    clear _hK_7
    refine W_ret ?_
    exact ret_intro [_] ⟨rfl, trivial⟩ ⟨congrArg (Value.int .i64) (if_neg (by omega)).symm, E⟩

/-- laws.szExpr -/
theorem c_laws_szExpr {w : World} {_B_a : Nat} {_v_a : Value} {a : List Token} (_h_a : Ls Token.cs 4 w _B_a _v_a a) (left : Int) (hl : left ≤ 1048576) (_h0 : 0 ≤ left) :
    Ctr Try.prog 14 #[(.agg #[_v_a]), (.int .i64 left)] w (fun v w' => v = .int .i64 (if left < a.length then -1 else left - a.length) ∧ Ch [] w w') := by
  obtain ⟨_A_a, _C_a, _e1_a⟩ := _h_a.val
  subst _e1_a
  have _l_a := _h_a.len
  have _h_a := _h_a.here (by decide)
  have E := Ch.refl [] w
  refine Ctr_of_W (N := 12) (vs0 := [(.agg #[(.slice _A_a a.length _C_a)]), (.int .i64 left)]) Try.func14 rfl rfl rfl ?_
  refine W_seq fun _K_1 _hK_1 => ?_
  refine W_region ?_
  refine WL_s rfl rfl ?_
  refine s_box rfl fun _b2 _w_2 _m2 _cw_2 _e2 => ?_
  have _cw_2z := _cw_2.size
  have E := E.trans _cw_2
  have _z2 := _m2.lt
  replace _m2 : Blk _w_2 _b2 24 [(.slice _A_a a.length _C_a)] := _m2
  refine WL_step rfl rfl (r_assign rfl) ?_
  refine WL_nil ?_
  refine thn_nrm (_hK_1 _ _ ?_)
  clear _hK_1
  refine W_seq fun _K_3 _hK_3 => ?_
  refine W_region ?_
  refine WL_step rfl rfl (r_fieldAddr fa24_0 rfl) ?_
  refine WL_step rfl rfl (r_loadAt _m2.at_ agg22 rfl rfl) ?_
  refine WL_step rfl rfl (r_move rfl) ?_
  refine WL_s rfl rfl ?_
  have _f_4 := (_h_a.ch0 _cw_2)
  refine Step.call (r_call (xs := [.tmp 6, .tmp 7]) fk48 rfl) (c_laws_szTokenS _f_4 _ (by omega) (by omega)) fun _v8 _w_5 _q8 => ?_
  obtain ⟨rfl, _cw_5⟩ := _q8
  have _cw_5z := _cw_5.size
  have E := E.trans _cw_5
  refine WL_step rfl rfl (r_assign rfl) ?_
  refine WL_nil ?_
  refine thn_nrm (_hK_3 _ _ ?_)
  clear _hK_3
  refine W_seq fun _K_6 _hK_6 => ?_
  refine W_seq fun _K_7 _hK_7 => ?_
  refine W_region ?_
  refine WL_step rfl rfl (r_move rfl) ?_
  refine WL_step rfl rfl (r_lss rfl rfl) ?_
  refine WL_nil ?_
  refine thn_nrm (_hK_7 _ _ ?_)
  clear _hK_7
  refine W_cond rfl (fun _h10 => ?_) (fun _h10 => ?_)
  · have _kb_8 := _h10
    have _h10 := bt_d _h10
    refine W_seq fun _K_9 _hK_9 => ?_
    refine W_region ?_
    refine WL_step rfl rfl (r_assign rfl) ?_
    refine WL_nil ?_
    refine thn_nrm (_hK_9 _ _ ?_)
    clear _hK_9
    refine W_ret (thn_ret ?_)
    clear _hK_6
    exact ret_intro [_] ⟨rfl, trivial⟩ ⟨congrArg (Value.int .i64) (by split <;> omega), E⟩
  · have _kb_8 := _h10
    have _h10 := bf_d _h10
    refine W_skip ?_
    refine thn_nrm (_hK_6 _ _ ?_)
    clear _hK_6
    refine W_seq fun _K_10 _hK_10 => ?_
    refine W_region ?_
    refine WL_step rfl rfl (r_move rfl) ?_
    refine WL_step rfl rfl (r_assign rfl) ?_
    refine WL_nil ?_
    refine thn_nrm (_hK_10 _ _ ?_)
    clear _hK_10
    refine W_ret ?_
    exact ret_intro [_] ⟨rfl, trivial⟩ ⟨congrArg (Value.int .i64) (by split <;> omega), E⟩

/-- laws.toToken -/
theorem c_laws_toToken {w : World} (a : Token) :
    Ctr Try.prog 80 #[(.agg #[(.int .i64 a.kind), (.int .i64 a.letter), (.int .i64 a.low), (.int .i64 a.high)])] w (fun v w' => v = .agg (Token.cs (a)).toArray ∧ Ch [] w w') := by
  have E := Ch.refl [] w
  refine Ctr_of_W (N := 17) (vs0 := [(.agg #[(.int .i64 a.kind), (.int .i64 a.letter), (.int .i64 a.low), (.int .i64 a.high)])]) Try.func80 rfl rfl rfl ?_
  refine W_seq fun _K_1 _hK_1 => ?_
  refine W_region ?_
  refine WL_s rfl rfl ?_
  refine s_box rfl fun _b1 _w_2 _m1 _cw_2 _e1 => ?_
  have _cw_2z := _cw_2.size
  have E := E.trans _cw_2
  have _z1 := _m1.lt
  replace _m1 : Blk _w_2 _b1 90 [(.int .i64 a.kind), (.int .i64 a.letter), (.int .i64 a.low), (.int .i64 a.high)] := _m1
  refine WL_s rfl rfl ?_
  refine s_alloc zr57 fun _b2 _w_3 _m2 _cw_3 _e2 => ?_
  have _cw_3z := _cw_3.size
  have E := E.trans _cw_3
  have _z2 := _m2.lt
  replace _m2 : Blk _w_3 _b2 57 [(.int .i64 0), (.int .i64 0), (.int .i64 0), (.int .i64 0)] := _m2
  refine WL_nil ?_
  refine thn_nrm (_hK_1 _ _ ?_)
  clear _hK_1
  refine W_seq fun _K_4 _hK_4 => ?_
  refine W_region ?_
  refine WL_s rfl rfl ?_
  refine s_alloc zr57 fun _b3 _w_5 _m3 _cw_5 _e3 => ?_
  have _cw_5z := _cw_5.size
  have E := E.trans _cw_5
  have _z3 := _m3.lt
  replace _m3 : Blk _w_5 _b3 57 [(.int .i64 0), (.int .i64 0), (.int .i64 0), (.int .i64 0)] := _m3
  refine WL_nil ?_
  refine thn_nrm (_hK_4 _ _ ?_)
  clear _hK_4
  refine W_seq fun _K_6 _hK_6 => ?_
  refine W_region ?_
  refine WL_step rfl rfl (r_fieldAddr fa90_0 rfl) ?_
  have _f_7 := ((_m1.ch0 _cw_3).ch0 _cw_5)
  refine WL_step rfl rfl (r_loadAt _f_7.at_ agg3 rfl rfl) ?_
  refine WL_step rfl rfl (r_fieldAddr fa57_0 rfl) ?_
  refine WL_s rfl rfl ?_
  refine s_store1 (off := 0) _m3 sz3 rfl rfl rfl rfl fun _w_8 _m_9 _cw_8 => ?_
  have _cw_8z := _cw_8.size
  have E := E.step _cw_8 (fun i hi => .inl (by have _h1 := List.mem_singleton.1 hi; omega))
  replace _m_9 : Blk _w_8 _b3 57 [(.int .i64 a.kind), (.int .i64 0), (.int .i64 0), (.int .i64 0)] := _m_9
  refine WL_nil ?_
  refine thn_nrm (_hK_6 _ _ ?_)
  clear _hK_6
  refine W_seq fun _K_10 _hK_10 => ?_
  refine W_region ?_
  refine WL_step rfl rfl (r_fieldAddr fa90_1 rfl) ?_
  have _f_11 := (_f_7.ch _cw_8 (fun hm => by have _h1 := List.mem_singleton.1 hm; omega))
  refine WL_step rfl rfl (r_loadAt _f_11.at_ agg3 rfl rfl) ?_
  refine WL_step rfl rfl (r_fieldAddr fa57_1 rfl) ?_
  refine WL_s rfl rfl ?_
  refine s_store1 (off := 1) _m_9 sz3 rfl rfl rfl rfl fun _w_12 _m_13 _cw_12 => ?_
  have _cw_12z := _cw_12.size
  have E := E.step _cw_12 (fun i hi => .inl (by have _h1 := List.mem_singleton.1 hi; omega))
  replace _m_13 : Blk _w_12 _b3 57 [(.int .i64 a.kind), (.int .i64 a.letter), (.int .i64 0), (.int .i64 0)] := _m_13
  refine WL_nil ?_
  refine thn_nrm (_hK_10 _ _ ?_)
  clear _hK_10
  refine W_seq fun _K_14 _hK_14 => ?_
  refine W_region ?_
  refine WL_step rfl rfl (r_fieldAddr fa90_2 rfl) ?_
  have _f_15 := (_f_11.ch _cw_12 (fun hm => by have _h1 := List.mem_singleton.1 hm; omega))
  refine WL_step rfl rfl (r_loadAt _f_15.at_ agg3 rfl rfl) ?_
  refine WL_step rfl rfl (r_fieldAddr fa57_2 rfl) ?_
  refine WL_s rfl rfl ?_
  refine s_store1 (off := 2) _m_13 sz3 rfl rfl rfl rfl fun _w_16 _m_17 _cw_16 => ?_
  have _cw_16z := _cw_16.size
  have E := E.step _cw_16 (fun i hi => .inl (by have _h1 := List.mem_singleton.1 hi; omega))
  replace _m_17 : Blk _w_16 _b3 57 [(.int .i64 a.kind), (.int .i64 a.letter), (.int .i64 a.low), (.int .i64 0)] := _m_17
  refine WL_nil ?_
  refine thn_nrm (_hK_14 _ _ ?_)
  clear _hK_14
  refine W_seq fun _K_18 _hK_18 => ?_
  refine W_region ?_
  refine WL_step rfl rfl (r_fieldAddr fa90_3 rfl) ?_
  have _f_19 := (_f_15.ch _cw_16 (fun hm => by have _h1 := List.mem_singleton.1 hm; omega))
  refine WL_step rfl rfl (r_loadAt _f_19.at_ agg3 rfl rfl) ?_
  refine WL_step rfl rfl (r_fieldAddr fa57_3 rfl) ?_
  refine WL_s rfl rfl ?_
  refine s_store1 (off := 3) _m_17 sz3 rfl rfl rfl rfl fun _w_20 _m_21 _cw_20 => ?_
  have _cw_20z := _cw_20.size
  have E := E.step _cw_20 (fun i hi => .inl (by have _h1 := List.mem_singleton.1 hi; omega))
  replace _m_21 : Blk _w_20 _b3 57 [(.int .i64 a.kind), (.int .i64 a.letter), (.int .i64 a.low), (.int .i64 a.high)] := _m_21
  refine WL_nil ?_
  refine thn_nrm (_hK_18 _ _ ?_)
  clear _hK_18
  refine W_seq fun _K_22 _hK_22 => ?_
  refine W_region ?_
  refine WL_step rfl rfl (r_loadAtA0 _m_21.at_ agg57 sz57 rfl) ?_
  refine WL_s rfl rfl ?_
  have _f_23 := (((((_m2.ch0 _cw_5).ch _cw_8 (fun hm => by have _h1 := List.mem_singleton.1 hm; omega)).ch _cw_12 (fun hm => by have _h1 := List.mem_singleton.1 hm; omega)).ch _cw_16 (fun hm => by have _h1 := List.mem_singleton.1 hm; omega)).ch _cw_20 (fun hm => by have _h1 := List.mem_singleton.1 hm; omega))
  refine s_storeA (off := 0) 4 _f_23 sz57 rfl (us := [(.int .i64 a.kind), (.int .i64 a.letter), (.int .i64 a.low), (.int .i64 a.high)]) rfl rfl rfl rfl fun _w_24 _m_25 _cw_24 => ?_
  have _cw_24z := _cw_24.size
  have E := E.step _cw_24 (fun i hi => .inl (by have _h1 := List.mem_singleton.1 hi; omega))
  replace _m_25 : Blk _w_24 _b2 57 [(.int .i64 a.kind), (.int .i64 a.letter), (.int .i64 a.low), (.int .i64 a.high)] := _m_25
  refine WL_nil ?_
  refine thn_nrm (_hK_22 _ _ ?_)
  clear _hK_22
  refine W_ret ?_
  exact ret_intro [_] (resOf_loadA _m_25 rfl agg57 sz57 trivial) ⟨by simp [packed, Token.cs], E⟩

/-- laws.toTokenS -/
theorem c_laws_toTokenS {w : World} {_B_a : Nat} {_v_a : Value} {a : List Token} (_h_a : Ls Token.cs 4 w _B_a _v_a a) (hb : a.length ≤ 1048576) :
    Ctr Try.prog 50 #[_v_a] w (fun v w' => Ol Token.cs 57 4 w' v (a) ∧ Lo w.heap.size v ∧ Ch [] w w') := by
  obtain ⟨_A_a, _C_a, _e1_a⟩ := _h_a.val
  subst _e1_a
  have _l_a := _h_a.len
  have _h_a := _h_a.here (by decide)
  have E := Ch.refl [] w
  refine Ctr_of_W (N := 23) (vs0 := [(.slice _A_a a.length _C_a)]) Try.func50 rfl rfl rfl ?_
  refine W_seq fun _K_1 _hK_1 => ?_
  refine W_region ?_
  refine WL_step rfl rfl (r_assign rfl) ?_
  refine WL_nil ?_
  refine thn_nrm (_hK_1 _ _ ?_)
  clear _hK_1
  refine W_seq fun _K_2 _hK_2 => ?_
  refine W_region ?_
  refine WL_step rfl rfl (r_move rfl) ?_
  refine WL_step rfl rfl (r_len (by rw [el22]; rfl) rfl) ?_
  refine WL_s rfl rfl ?_
  refine s_make (cs := Token.cs) (⟨0, 0, 0, 0⟩ : Token) el27 sz57 by57 zr57 Token.len (by decide) rfl rfl (by omega) (by omega) fun _v7 _w_3 _q7 _lo7 _cw_3 => ?_
  have _cw_3z := _cw_3.size
  have E := E.trans _cw_3
  obtain ⟨_Av7, _Cv7, _ev7⟩ := _q7.val
  subst _ev7
  have _lv7 := _q7.len
  have _hiv7 := _q7.lt
  refine WL_step rfl rfl (r_assign rfl) ?_
  refine WL_nil ?_
  refine thn_nrm (_hK_2 _ _ ?_)
  clear _hK_2
  refine W_seq fun _K_4 _hK_4 => ?_
  refine W_seq fun _K_5 _hK_5 => ?_
  refine W_region ?_
  refine WL_step rfl rfl (r_assign rfl) ?_
  refine WL_nil ?_
  refine thn_nrm (_hK_5 _ _ ?_)
  clear _hK_5
  refine W_block ?_
  have _oi_6 : Ol Token.cs 57 4 _w_3 (.slice _Av7 ((List.replicate a.length (⟨0, 0, 0, 0⟩ : Token))).length _Cv7) (a.take 0 ++ List.replicate (a.length - 0) (⟨0, 0, 0, 0⟩ : Token)) := by
    have hx := _q7
    simpa using hx
  refine W_loop (σ := Nat) (fun (k : Nat) => [(0, (.slice _A_a a.length _C_a)), (2, (.slice none 0 0)), (3, (.slice _Av7 ((List.replicate a.length (⟨0, 0, 0, 0⟩ : Token))).length _Cv7)), (4, (.int .i64 ((k : Nat) : Int)))]) (fun (k : Nat) wx => Ch [] w wx ∧ _w_3.heap.size ≤ wx.heap.size ∧ (k ≤ a.length) ∧ Ol Token.cs 57 4 wx (.slice _Av7 ((List.replicate a.length (⟨0, 0, 0, 0⟩ : Token))).length _Cv7) (a.take k ++ List.replicate (a.length - k) (⟨0, 0, 0, 0⟩ : Token))) (fun (k : Nat) => a.length - k) 0 (Sub.cons rfl (Sub.cons rfl (Sub.cons rfl (Sub.cons rfl (Sub.nil _))))) ⟨E, (Nat.le_refl _), (by omega), _oi_6⟩ ?_
  rintro k _wr_7 ⟨E, _zz0, _hk, _o0_3⟩
  have _E0h := E
  have _E0hz := _E0h.size
  refine W_seq fun _K_8 _hK_8 => ?_
  refine W_seq fun _K_9 _hK_9 => ?_
  refine W_region ?_
  refine WL_step rfl rfl (r_move rfl) ?_
  refine WL_step rfl rfl (r_move rfl) ?_
  refine WL_step rfl rfl (r_len (by rw [el22]; rfl) rfl) ?_
  refine WL_step rfl rfl (r_lss rfl rfl) ?_
  refine WL_nil ?_
  refine thn_nrm (_hK_9 _ _ ?_)
  clear _hK_9
  refine W_cond rfl (fun _h11 => ?_) (fun _h11 => ?_)
  · have _kb_10 := _h11
    have _h11 := bt_d _h11
    refine W_skip ?_
    refine thn_nrm (_hK_8 _ _ ?_)
    clear _hK_8
    refine W_seq fun _K_11 _hK_11 => ?_
    refine W_block ?_
    refine W_region ?_
    refine WL_step rfl rfl (r_move rfl) ?_
    refine WL_step rfl rfl (r_move rfl) ?_
    refine WL_step rfl rfl (r_move rfl) ?_
    refine WL_step rfl rfl (r_move rfl) ?_
    refine WL_s rfl rfl ?_
    have _f_12 := (_h_a.ch0 _E0h)
    refine (s_index _f_12 Token.len el22 sz90 rfl rfl rfl (by omega) fun _p18 _y18 _hy18 _a18 => ?_)
    refine WL_step rfl rfl (r_loadAtA0 _a18 agg90 sz90 rfl) ?_
    refine WL_s rfl rfl ?_
    refine Step.call (r_call (xs := [.tmp 19]) fk80 rfl) (c_laws_toToken _y18 ) fun _v20 _w_13 _q20 => ?_
    obtain ⟨rfl, _cw_13⟩ := _q20
    have _cw_13z := _cw_13.size
    have E := E.trans _cw_13
    refine WL_s rfl rfl ?_
    have _f_14 := (_o0_3.ch0 _cw_13)
    refine s_indexO (j := k) _f_14 el27 sz57 rfl rfl rfl (by simp; omega) fun _g21 _o21 _cp21 _q21 => ?_
    refine WL_s rfl rfl ?_
    refine s_storeO (j := k) _y18 _f_14 _q21 Token.len sz57 rfl rfl rfl rfl (by simp; omega) fun _w_15 _o_16 _cw_15 => ?_
    have _cw_15z := _cw_15.size
    have E := E.step _cw_15 (fun i hi => .inl (by have _h1 := _lo7 _ hi; omega))
    refine WL_nil ?_
    refine inB_nrm ?_
    refine thn_nrm (_hK_11 _ _ ?_)
    clear _hK_11
    refine W_region ?_
    refine WL_step rfl rfl (r_move rfl) ?_
    refine WL_step rfl rfl (r_add (by omega) rfl rfl) ?_
    refine WL_step rfl rfl (r_assign rfl) ?_
    refine WL_nil ?_
    have _on_17 : Ol Token.cs 57 4 _w_15 (.slice _Av7 ((List.replicate a.length (⟨0, 0, 0, 0⟩ : Token))).length _Cv7) (a.take (k + 1) ++ List.replicate (a.length - (k + 1)) (⟨0, 0, 0, 0⟩ : Token)) := by
      have hx := _o_16
      rwa [fill_step a (⟨0, 0, 0, 0⟩ : Token) _hy18] at hx
    exact thn_nrm (Exists.intro (k + 1) ⟨⟨E, (by omega), (by omega), _on_17⟩, Sub.cons rfl (Sub.cons rfl (Sub.cons rfl (Sub.cons rfl (Sub.nil _)))), (by first | omega | (dsimp only; omega))⟩)
  · have _kb_10 := _h11
    have _h11 := bf_d _h11
    refine W_exit (thn_exit (thn_exit (inB_hit ?_)))
    refine thn_nrm (_hK_4 _ _ ?_)
    clear _hK_4
    refine W_seq fun _K_18 _hK_18 => ?_
    refine W_region ?_
    refine WL_step rfl rfl (r_move rfl) ?_
    refine WL_step rfl rfl (r_assign rfl) ?_
    refine WL_nil ?_
    refine thn_nrm (_hK_18 _ _ ?_)
    clear _hK_18
    refine W_ret ?_
    clear _hK_8
    have _o_19 : Ol Token.cs 57 4 _wr_7 (.slice _Av7 ((List.replicate a.length (⟨0, 0, 0, 0⟩ : Token))).length _Cv7) (a) := by
      have hx := _o0_3
      simpa [List.take_of_length_le (show a.length ≤ k by omega), show a.length - k = 0 by omega] using hx
    exact ret_intro [_] ⟨rfl, trivial⟩ ⟨_o_19, Lo.down _lo7 (by omega), E⟩

/-- laws.toExpr -/
theorem c_laws_toExpr {w : World} {_B_a : Nat} {_v_a : Value} {a : List Token} (_h_a : Ls Token.cs 4 w _B_a _v_a a) (hb : a.length ≤ 1048576) :
    Ctr Try.prog 16 #[(.agg #[_v_a])] w (fun v w' => ∃ u, v = .agg #[u] ∧ Ol Token.cs 57 4 w' u (a) ∧ Lo w.heap.size u ∧ Ch [] w w') := by
  obtain ⟨_A_a, _C_a, _e1_a⟩ := _h_a.val
  subst _e1_a
  have _l_a := _h_a.len
  have _h_a := _h_a.here (by decide)
  have E := Ch.refl [] w
  refine Ctr_of_W (N := 9) (vs0 := [(.agg #[(.slice _A_a a.length _C_a)])]) Try.func16 rfl rfl rfl ?_
  refine W_seq fun _K_1 _hK_1 => ?_
  refine W_region ?_
  refine WL_s rfl rfl ?_
  refine s_box rfl fun _b1 _w_2 _m1 _cw_2 _e1 => ?_
  have _cw_2z := _cw_2.size
  have E := E.trans _cw_2
  have _z1 := _m1.lt
  replace _m1 : Blk _w_2 _b1 24 [(.slice _A_a a.length _C_a)] := _m1
  refine WL_s rfl rfl ?_
  refine s_alloc zr29 fun _b2 _w_3 _m2 _cw_3 _e2 => ?_
  have _cw_3z := _cw_3.size
  have E := E.trans _cw_3
  have _z2 := _m2.lt
  replace _m2 : Blk _w_3 _b2 29 [(.slice none 0 0)] := _m2
  refine WL_nil ?_
  refine thn_nrm (_hK_1 _ _ ?_)
  clear _hK_1
  refine W_seq fun _K_4 _hK_4 => ?_
  refine W_region ?_
  refine WL_s rfl rfl ?_
  refine s_alloc zr29 fun _b3 _w_5 _m3 _cw_5 _e3 => ?_
  have _cw_5z := _cw_5.size
  have E := E.trans _cw_5
  have _z3 := _m3.lt
  replace _m3 : Blk _w_5 _b3 29 [(.slice none 0 0)] := _m3
  refine WL_nil ?_
  refine thn_nrm (_hK_4 _ _ ?_)
  clear _hK_4
  refine W_seq fun _K_6 _hK_6 => ?_
  refine W_region ?_
  refine WL_step rfl rfl (r_fieldAddr fa24_0 rfl) ?_
  have _f_7 := ((_m1.ch0 _cw_3).ch0 _cw_5)
  refine WL_step rfl rfl (r_loadAt _f_7.at_ agg22 rfl rfl) ?_
  refine WL_s rfl rfl ?_
  have _f_8 := (((_h_a.ch0 _cw_2).ch0 _cw_3).ch0 _cw_5)
  refine Step.call (r_call (xs := [.tmp 5]) fk50 rfl) (c_laws_toTokenS _f_8 (by omega)) fun _v6 _w_9 _q6 => ?_
  obtain ⟨_q6, _lo6, _cw_9⟩ := _q6
  have _cw_9z := _cw_9.size
  have E := E.trans _cw_9
  obtain ⟨_Av6, _Cv6, _ev6⟩ := _q6.val
  subst _ev6
  have _lv6 := _q6.len
  have _hiv6 := _q6.lt
  refine WL_step rfl rfl (r_fieldAddr fa29_0 rfl) ?_
  refine WL_s rfl rfl ?_
  have _f_10 := (_m3.ch0 _cw_9)
  refine s_store1 (off := 0) _f_10 sz27 rfl rfl rfl rfl fun _w_11 _m_12 _cw_11 => ?_
  have _cw_11z := _cw_11.size
  have E := E.step _cw_11 (fun i hi => .inl (by have _h1 := List.mem_singleton.1 hi; omega))
  replace _m_12 : Blk _w_11 _b3 29 [(.slice _Av6 (a).length _Cv6)] := _m_12
  refine WL_nil ?_
  refine thn_nrm (_hK_6 _ _ ?_)
  clear _hK_6
  refine W_seq fun _K_13 _hK_13 => ?_
  refine W_region ?_
  refine WL_step rfl rfl (r_loadAtA0 _m_12.at_ agg29 sz29 rfl) ?_
  refine WL_s rfl rfl ?_
  have _f_14 := (((_m2.ch0 _cw_5).ch0 _cw_9).ch _cw_11 (fun hm => by have _h1 := List.mem_singleton.1 hm; omega))
  refine s_storeA (off := 0) 1 _f_14 sz29 rfl (us := [(.slice _Av6 (a).length _Cv6)]) rfl rfl rfl rfl fun _w_15 _m_16 _cw_15 => ?_
  have _cw_15z := _cw_15.size
  have E := E.step _cw_15 (fun i hi => .inl (by have _h1 := List.mem_singleton.1 hi; omega))
  replace _m_16 : Blk _w_15 _b2 29 [(.slice _Av6 (a).length _Cv6)] := _m_16
  refine WL_nil ?_
  refine thn_nrm (_hK_13 _ _ ?_)
  clear _hK_13
  refine W_ret ?_
  have _f_18 := ((_q6.ch _cw_11 (fun g hg hm => by have _h0 := List.mem_singleton.1 hm; have _h2 := _lo6 _ hg; have _h3 := _hiv6 _ hg; omega)).ch _cw_15 (fun g hg hm => by have _h0 := List.mem_singleton.1 hm; have _h2 := _lo6 _ hg; have _h3 := _hiv6 _ hg; omega))
  have _o_17 : Ol Token.cs 57 4 _w_15 (.slice _Av6 (a).length _Cv6) (a) := by
    have hx := _f_18
    first | exact hx | simpa using hx
  exact ret_intro [_] (resOf_loadA _m_16 rfl agg29 sz29 trivial) ⟨_, rfl, _o_17, Lo.down _lo6 (by omega), E⟩

/-- spec.l1In -/
theorem c_spec_l1In {w : World} (n : Int) (a : Int) (b : Int) :
    Ctr Try.prog 79 #[(.int .i64 n), (.int .i64 a), (.int .i64 b)] w (fun v w' => v = .bool (decide (a ≤ n ∧ n ≤ b)) ∧ Ch [] w w') := by
  have E := Ch.refl [] w
  refine Ctr_of_W (N := 15) (vs0 := [(.int .i64 n), (.int .i64 a), (.int .i64 b)]) Try.func79 rfl rfl rfl ?_
  refine W_seq fun _K_1 _hK_1 => ?_
  refine W_region ?_
  refine WL_step rfl rfl (r_assign rfl) ?_
  refine WL_nil ?_
  refine thn_nrm (_hK_1 _ _ ?_)
  clear _hK_1
  refine W_seq fun _K_2 _hK_2 => ?_
  refine W_region ?_
  refine WL_step rfl rfl (r_move rfl) ?_
  refine WL_step rfl rfl (r_move rfl) ?_
  refine WL_step rfl rfl (r_geq rfl rfl) ?_
  refine WL_step rfl rfl (r_move rfl) ?_
  refine WL_split (d := 10) rfl (fun _h10 => ?_) (fun _h10 => ?_)
  · have _kb_3 := _h10
    have _h10 := bt_d _h10
    refine WL_step rfl rfl (r_move rfl) ?_
    refine WL_step rfl rfl (r_move rfl) ?_
    refine WL_step rfl rfl (r_leq rfl rfl) ?_
    refine WL_step rfl rfl (r_pickT rfl rfl) ?_
    refine WL_step rfl rfl (r_assign rfl) ?_
    refine WL_nil ?_
    refine thn_nrm (_hK_2 _ _ ?_)
    clear _hK_2
    refine W_ret ?_
    exact ret_intro [_] ⟨rfl, trivial⟩ ⟨congrArg Value.bool (by first | rfl | (rw [Bool.eq_iff_iff]; simp <;> omega) | (rw [Bool.eq_iff_iff]; simp_all; done) | simp_all), E⟩
  · have _kb_3 := _h10
    have _h10 := bf_d _h10
    refine WL_skip rfl rfl ?_
    refine WL_skip rfl rfl ?_
    refine WL_skip rfl rfl ?_
    refine WL_step rfl rfl (r_pickF rfl rfl) ?_
    refine WL_step rfl rfl (r_assign rfl) ?_
    refine WL_nil ?_
    refine thn_nrm (_hK_2 _ _ ?_)
    clear _hK_2
    refine W_ret ?_
    exact ret_intro [_] ⟨rfl, trivial⟩ ⟨congrArg Value.bool (by first | rfl | (rw [Bool.eq_iff_iff]; simp <;> omega) | (rw [Bool.eq_iff_iff]; simp_all; done) | simp_all), E⟩

/-- spec.l2Letter -/
theorem c_spec_l2Letter {w : World} (n : Int) :
    Ctr Try.prog 62 #[(.int .i64 n)] w (fun v w' => v = .bool (decide (0 ≤ n ∧ n ≤ 8)) ∧ Ch [] w w') := by
  have E := Ch.refl [] w
  refine Ctr_of_W (N := 5) (vs0 := [(.int .i64 n)]) Try.func62 rfl rfl rfl ?_
  refine W_seq fun _K_1 _hK_1 => ?_
  refine W_region ?_
  refine WL_step rfl rfl (r_assign rfl) ?_
  refine WL_nil ?_
  refine thn_nrm (_hK_1 _ _ ?_)
  clear _hK_1
  refine W_seq fun _K_2 _hK_2 => ?_
  refine W_region ?_
  refine WL_step rfl rfl (r_move rfl) ?_
  refine WL_s rfl rfl ?_
  refine Step.call (r_call (xs := [.tmp 3, .const (Go.Value.int Go.IntKind.i64 0), .const (Go.Value.int Go.IntKind.i64 8)]) fk79 rfl) (c_spec_l1In _ _ _ ) fun _v4 _w_3 _q4 => ?_
  obtain ⟨rfl, _cw_3⟩ := _q4
  have _cw_3z := _cw_3.size
  have E := E.trans _cw_3
  refine WL_step rfl rfl (r_assign rfl) ?_
  refine WL_nil ?_
  refine thn_nrm (_hK_2 _ _ ?_)
  clear _hK_2
  refine W_ret ?_
  exact ret_intro [_] ⟨rfl, trivial⟩ ⟨congrArg Value.bool rfl, E⟩

/-- spec.l8Arity -/
theorem c_spec_l8Arity {w : World} (t : Token) :
    Ctr Try.prog 49 #[(.agg #[(.int .i64 t.kind), (.int .i64 t.letter), (.int .i64 t.low), (.int .i64 t.high)])] w (fun v w' => v = .int .i64 (arT t) ∧ Ch [] w w') := by
  have E := Ch.refl [] w
  refine Ctr_of_W (N := 87) (vs0 := [(.agg #[(.int .i64 t.kind), (.int .i64 t.letter), (.int .i64 t.low), (.int .i64 t.high)])]) Try.func49 rfl rfl rfl ?_
  refine W_seq fun _K_1 _hK_1 => ?_
  refine W_region ?_
  refine WL_s rfl rfl ?_
  refine s_box rfl fun _b1 _w_2 _m1 _cw_2 _e1 => ?_
  have _cw_2z := _cw_2.size
  have E := E.trans _cw_2
  have _z1 := _m1.lt
  replace _m1 : Blk _w_2 _b1 57 [(.int .i64 t.kind), (.int .i64 t.letter), (.int .i64 t.low), (.int .i64 t.high)] := _m1
  refine WL_step rfl rfl (r_assign rfl) ?_
  refine WL_nil ?_
  refine thn_nrm (_hK_1 _ _ ?_)
  clear _hK_1
  refine W_seq fun _K_3 _hK_3 => ?_
  refine W_seq fun _K_4 _hK_4 => ?_
  refine W_region ?_
  refine WL_step rfl rfl (r_fieldAddr fa57_0 rfl) ?_
  refine WL_step rfl rfl (r_loadAt _m1.at_ agg3 rfl rfl) ?_
  refine WL_nil ?_
  refine thn_nrm (_hK_4 _ _ ?_)
  clear _hK_4
  refine W_block ?_
  refine W_seq fun _K_5 _hK_5 => ?_
  refine W_seq fun _K_6 _hK_6 => ?_
  refine W_region ?_
  refine WL_step rfl rfl (r_eql rfl rfl) ?_
  refine WL_step rfl rfl (r_assign rfl) ?_
  refine WL_nil ?_
  refine thn_nrm (_hK_6 _ _ ?_)
  clear _hK_6
  refine W_cond rfl (fun _h5 => ?_) (fun _h5 => ?_)
  · have _kb_7 := _h5
    have _h5 := bt_d _h5
    refine W_skip ?_
    refine thn_nrm (_hK_5 _ _ ?_)
    clear _hK_5
    refine W_condTk rfl _kb_7 ?_
    refine W_seq fun _K_8 _hK_8 => ?_
    refine W_seq fun _K_9 _hK_9 => ?_
    refine W_region ?_
    refine WL_step rfl rfl (r_fieldAddr fa57_1 rfl) ?_
    refine WL_step rfl rfl (r_loadAt _m1.at_ agg3 rfl rfl) ?_
    refine WL_step rfl rfl (r_neq rfl rfl) ?_
    refine WL_step rfl rfl (r_move rfl) ?_
    refine WL_split (d := 11) rfl (fun _h11 => ?_) (fun _h11 => ?_)
    · have _kb_10 := _h11
      have _h11 := bf_d (bt_n _h11)
      refine WL_skip rfl rfl ?_
      refine WL_skip rfl rfl ?_
      refine WL_skip rfl rfl ?_
      refine WL_step rfl rfl (r_pickT rfl rfl) ?_
      refine WL_step rfl rfl (r_move rfl) ?_
      refine WL_skip rfl rfl ?_
      refine WL_skip rfl rfl ?_
      refine WL_skip rfl rfl ?_
      refine WL_step rfl rfl (r_pickT rfl rfl) ?_
      refine WL_nil ?_
      refine thn_nrm (_hK_9 _ _ ?_)
      clear _hK_9
      refine W_condT rfl ?_
      refine W_seq fun _K_11 _hK_11 => ?_
      refine W_region ?_
      refine WL_step rfl rfl (r_assign rfl) ?_
      refine WL_nil ?_
      refine thn_nrm (_hK_11 _ _ ?_)
      clear _hK_11
      refine W_ret (thn_ret (inB_ret (thn_ret ?_)))
      clear _hK_3 _hK_8
      exact ret_intro [_] ⟨rfl, trivial⟩ ⟨congrArg (Value.int .i64) (by unfold arT; repeat (first | rw [if_pos (by omega)] | rw [if_neg (by omega)])), E⟩
    · have _kb_10 := _h11
      have _h11 := bt_d (bf_n _h11)
      refine WL_step rfl rfl (r_fieldAddr fa57_2 rfl) ?_
      refine WL_step rfl rfl (r_loadAt _m1.at_ agg3 rfl rfl) ?_
      refine WL_step rfl rfl (r_neq rfl rfl) ?_
      refine WL_step rfl rfl (r_pickF rfl rfl) ?_
      refine WL_step rfl rfl (r_move rfl) ?_
      refine WL_split (d := 16) rfl (fun _h16 => ?_) (fun _h16 => ?_)
      · have _kb_12 := _h16
        have _h16 := bf_d (bt_n _h16)
        refine WL_skip rfl rfl ?_
        refine WL_skip rfl rfl ?_
        refine WL_skip rfl rfl ?_
        refine WL_step rfl rfl (r_pickT rfl rfl) ?_
        refine WL_nil ?_
        refine thn_nrm (_hK_9 _ _ ?_)
        clear _hK_9
        refine W_condT rfl ?_
        refine W_seq fun _K_13 _hK_13 => ?_
        refine W_region ?_
        refine WL_step rfl rfl (r_assign rfl) ?_
        refine WL_nil ?_
        refine thn_nrm (_hK_13 _ _ ?_)
        clear _hK_13
        refine W_ret (thn_ret (inB_ret (thn_ret ?_)))
        clear _hK_3 _hK_8
        exact ret_intro [_] ⟨rfl, trivial⟩ ⟨congrArg (Value.int .i64) (by unfold arT; repeat (first | rw [if_pos (by omega)] | rw [if_neg (by omega)])), E⟩
      · have _kb_12 := _h16
        have _h16 := bt_d (bf_n _h16)
        refine WL_step rfl rfl (r_fieldAddr fa57_3 rfl) ?_
        refine WL_step rfl rfl (r_loadAt _m1.at_ agg3 rfl rfl) ?_
        refine WL_step rfl rfl (r_neq rfl rfl) ?_
        refine WL_step rfl rfl (r_pickF rfl rfl) ?_
        refine WL_nil ?_
        refine thn_nrm (_hK_9 _ _ ?_)
        clear _hK_9
        refine W_cond rfl (fun _h20 => ?_) (fun _h20 => ?_)
        · have _kb_14 := _h20
          have _h20 := bf_d (bt_n _h20)
          refine W_seq fun _K_15 _hK_15 => ?_
          refine W_region ?_
          refine WL_step rfl rfl (r_assign rfl) ?_
          refine WL_nil ?_
          refine thn_nrm (_hK_15 _ _ ?_)
          clear _hK_15
          refine W_ret (thn_ret (inB_ret (thn_ret ?_)))
          clear _hK_3 _hK_8
          exact ret_intro [_] ⟨rfl, trivial⟩ ⟨congrArg (Value.int .i64) (by unfold arT; repeat (first | rw [if_pos (by omega)] | rw [if_neg (by omega)])), E⟩
        · have _kb_14 := _h20
          have _h20 := bt_d (bf_n _h20)
          refine W_skip ?_
          refine thn_nrm (_hK_8 _ _ ?_)
          clear _hK_8
          refine W_seq fun _K_16 _hK_16 => ?_
          refine W_region ?_
          refine WL_step rfl rfl (r_assign rfl) ?_
          refine WL_nil ?_
          refine thn_nrm (_hK_16 _ _ ?_)
          clear _hK_16
          refine W_ret (inB_ret (thn_ret ?_))
          clear _hK_3
          exact ret_intro [_] ⟨rfl, trivial⟩ ⟨congrArg (Value.int .i64) (by unfold arT; repeat (first | rw [if_pos (by omega)] | rw [if_neg (by omega)])), E⟩
  · have _kb_7 := _h5
    have _h5 := bf_d _h5
    refine W_region ?_
    refine WL_step rfl rfl (r_eql rfl rfl) ?_
    refine WL_step rfl rfl (r_assign rfl) ?_
    refine WL_nil ?_
    refine thn_nrm (_hK_5 _ _ ?_)
    clear _hK_5
    refine W_cond rfl (fun _h5 => ?_) (fun _h5 => ?_)
    · have _kb_17 := _h5
      have _h5 := bt_d _h5
      refine W_seq fun _K_18 _hK_18 => ?_
      refine W_seq fun _K_19 _hK_19 => ?_
      refine W_region ?_
      refine WL_step rfl rfl (r_fieldAddr fa57_1 rfl) ?_
      refine WL_step rfl rfl (r_loadAt _m1.at_ agg3 rfl rfl) ?_
      refine WL_step rfl rfl (r_neq rfl rfl) ?_
      refine WL_step rfl rfl (r_move rfl) ?_
      refine WL_split (d := 11) rfl (fun _h11 => ?_) (fun _h11 => ?_)
      · have _kb_20 := _h11
        have _h11 := bf_d (bt_n _h11)
        refine WL_skip rfl rfl ?_
        refine WL_skip rfl rfl ?_
        refine WL_skip rfl rfl ?_
        refine WL_step rfl rfl (r_pickT rfl rfl) ?_
        refine WL_step rfl rfl (r_move rfl) ?_
        refine WL_skip rfl rfl ?_
        refine WL_skip rfl rfl ?_
        refine WL_skip rfl rfl ?_
        refine WL_step rfl rfl (r_pickT rfl rfl) ?_
        refine WL_nil ?_
        refine thn_nrm (_hK_19 _ _ ?_)
        clear _hK_19
        refine W_condT rfl ?_
        refine W_seq fun _K_21 _hK_21 => ?_
        refine W_region ?_
        refine WL_step rfl rfl (r_assign rfl) ?_
        refine WL_nil ?_
        refine thn_nrm (_hK_21 _ _ ?_)
        clear _hK_21
        refine W_ret (thn_ret (inB_ret (thn_ret ?_)))
        clear _hK_3 _hK_18
        exact ret_intro [_] ⟨rfl, trivial⟩ ⟨congrArg (Value.int .i64) (by unfold arT; repeat (first | rw [if_pos (by omega)] | rw [if_neg (by omega)])), E⟩
      · have _kb_20 := _h11
        have _h11 := bt_d (bf_n _h11)
        refine WL_step rfl rfl (r_fieldAddr fa57_2 rfl) ?_
        refine WL_step rfl rfl (r_loadAt _m1.at_ agg3 rfl rfl) ?_
        refine WL_step rfl rfl (r_neq rfl rfl) ?_
        refine WL_step rfl rfl (r_pickF rfl rfl) ?_
        refine WL_step rfl rfl (r_move rfl) ?_
        refine WL_split (d := 16) rfl (fun _h16 => ?_) (fun _h16 => ?_)
        · have _kb_22 := _h16
          have _h16 := bf_d (bt_n _h16)
          refine WL_skip rfl rfl ?_
          refine WL_skip rfl rfl ?_
          refine WL_skip rfl rfl ?_
          refine WL_step rfl rfl (r_pickT rfl rfl) ?_
          refine WL_nil ?_
          refine thn_nrm (_hK_19 _ _ ?_)
          clear _hK_19
          refine W_condT rfl ?_
          refine W_seq fun _K_23 _hK_23 => ?_
          refine W_region ?_
          refine WL_step rfl rfl (r_assign rfl) ?_
          refine WL_nil ?_
          refine thn_nrm (_hK_23 _ _ ?_)
          clear _hK_23
          refine W_ret (thn_ret (inB_ret (thn_ret ?_)))
          clear _hK_3 _hK_18
          exact ret_intro [_] ⟨rfl, trivial⟩ ⟨congrArg (Value.int .i64) (by unfold arT; repeat (first | rw [if_pos (by omega)] | rw [if_neg (by omega)])), E⟩
        · have _kb_22 := _h16
          have _h16 := bt_d (bf_n _h16)
          refine WL_step rfl rfl (r_fieldAddr fa57_3 rfl) ?_
          refine WL_step rfl rfl (r_loadAt _m1.at_ agg3 rfl rfl) ?_
          refine WL_step rfl rfl (r_neq rfl rfl) ?_
          refine WL_step rfl rfl (r_pickF rfl rfl) ?_
          refine WL_nil ?_
          refine thn_nrm (_hK_19 _ _ ?_)
          clear _hK_19
          refine W_cond rfl (fun _h20 => ?_) (fun _h20 => ?_)
          · have _kb_24 := _h20
            have _h20 := bf_d (bt_n _h20)
            refine W_seq fun _K_25 _hK_25 => ?_
            refine W_region ?_
            refine WL_step rfl rfl (r_assign rfl) ?_
            refine WL_nil ?_
            refine thn_nrm (_hK_25 _ _ ?_)
            clear _hK_25
            refine W_ret (thn_ret (inB_ret (thn_ret ?_)))
            clear _hK_3 _hK_18
            exact ret_intro [_] ⟨rfl, trivial⟩ ⟨congrArg (Value.int .i64) (by unfold arT; repeat (first | rw [if_pos (by omega)] | rw [if_neg (by omega)])), E⟩
          · have _kb_24 := _h20
            have _h20 := bt_d (bf_n _h20)
            refine W_skip ?_
            refine thn_nrm (_hK_18 _ _ ?_)
            clear _hK_18
            refine W_seq fun _K_26 _hK_26 => ?_
            refine W_region ?_
            refine WL_step rfl rfl (r_assign rfl) ?_
            refine WL_nil ?_
            refine thn_nrm (_hK_26 _ _ ?_)
            clear _hK_26
            refine W_ret (inB_ret (thn_ret ?_))
            clear _hK_3
            exact ret_intro [_] ⟨rfl, trivial⟩ ⟨congrArg (Value.int .i64) (by unfold arT; repeat (first | rw [if_pos (by omega)] | rw [if_neg (by omega)])), E⟩
    · have _kb_17 := _h5
      have _h5 := bf_d _h5
      refine W_seq fun _K_27 _hK_27 => ?_
      refine W_region ?_
      refine WL_step rfl rfl (r_eql rfl rfl) ?_
      refine WL_step rfl rfl (r_assign rfl) ?_
      refine WL_nil ?_
      refine thn_nrm (_hK_27 _ _ ?_)
      clear _hK_27
      refine W_cond rfl (fun _h21 => ?_) (fun _h21 => ?_)
      · have _kb_28 := _h21
        have _h21 := bt_d _h21
        refine W_seq fun _K_29 _hK_29 => ?_
        refine W_seq fun _K_30 _hK_30 => ?_
        refine W_region ?_
        refine WL_step rfl rfl (r_fieldAddr fa57_1 rfl) ?_
        refine WL_step rfl rfl (r_loadAt _m1.at_ agg3 rfl rfl) ?_
        refine WL_s rfl rfl ?_
        refine Step.call (r_call (xs := [.tmp 24]) fk62 rfl) (c_spec_l2Letter _ ) fun _v25 _w_31 _q25 => ?_
        obtain ⟨rfl, _cw_31⟩ := _q25
        have _cw_31z := _cw_31.size
        have E := E.trans _cw_31
        refine WL_step rfl rfl (r_not rfl) ?_
        refine WL_step rfl rfl (r_move rfl) ?_
        refine WL_split (d := 27) rfl (fun _h27 => ?_) (fun _h27 => ?_)
        · have _kb_32 := _h27
          have _h27 := bf_d (bt_n _h27)
          refine WL_skip rfl rfl ?_
          refine WL_skip rfl rfl ?_
          refine WL_skip rfl rfl ?_
          refine WL_step rfl rfl (r_pickT rfl rfl) ?_
          refine WL_step rfl rfl (r_move rfl) ?_
          refine WL_skip rfl rfl ?_
          refine WL_skip rfl rfl ?_
          refine WL_skip rfl rfl ?_
          refine WL_step rfl rfl (r_pickT rfl rfl) ?_
          refine WL_nil ?_
          refine thn_nrm (_hK_30 _ _ ?_)
          clear _hK_30
          refine W_condT rfl ?_
          refine W_seq fun _K_33 _hK_33 => ?_
          refine W_region ?_
          refine WL_step rfl rfl (r_assign rfl) ?_
          refine WL_nil ?_
          refine thn_nrm (_hK_33 _ _ ?_)
          clear _hK_33
          refine W_ret (thn_ret (inB_ret (thn_ret ?_)))
          clear _hK_3 _hK_29
          exact ret_intro [_] ⟨rfl, trivial⟩ ⟨congrArg (Value.int .i64) (by unfold arT; repeat (first | rw [if_pos (by omega)] | rw [if_neg (by omega)])), E⟩
        · have _kb_32 := _h27
          have _h27 := bt_d (bf_n _h27)
          refine WL_step rfl rfl (r_fieldAddr fa57_2 rfl) ?_
          have _f_34 := (_m1.ch0 _cw_31)
          refine WL_step rfl rfl (r_loadAt _f_34.at_ agg3 rfl rfl) ?_
          refine WL_step rfl rfl (r_neq rfl rfl) ?_
          refine WL_step rfl rfl (r_pickF rfl rfl) ?_
          refine WL_step rfl rfl (r_move rfl) ?_
          refine WL_split (d := 32) rfl (fun _h32 => ?_) (fun _h32 => ?_)
          · have _kb_35 := _h32
            have _h32 := bf_d (bt_n _h32)
            refine WL_skip rfl rfl ?_
            refine WL_skip rfl rfl ?_
            refine WL_skip rfl rfl ?_
            refine WL_step rfl rfl (r_pickT rfl rfl) ?_
            refine WL_nil ?_
            refine thn_nrm (_hK_30 _ _ ?_)
            clear _hK_30
            refine W_condT rfl ?_
            refine W_seq fun _K_36 _hK_36 => ?_
            refine W_region ?_
            refine WL_step rfl rfl (r_assign rfl) ?_
            refine WL_nil ?_
            refine thn_nrm (_hK_36 _ _ ?_)
            clear _hK_36
            refine W_ret (thn_ret (inB_ret (thn_ret ?_)))
            clear _hK_3 _hK_29
            exact ret_intro [_] ⟨rfl, trivial⟩ ⟨congrArg (Value.int .i64) (by unfold arT; repeat (first | rw [if_pos (by omega)] | rw [if_neg (by omega)])), E⟩
          · have _kb_35 := _h32
            have _h32 := bt_d (bf_n _h32)
            refine WL_step rfl rfl (r_fieldAddr fa57_3 rfl) ?_
            refine WL_step rfl rfl (r_loadAt _f_34.at_ agg3 rfl rfl) ?_
            refine WL_step rfl rfl (r_neq rfl rfl) ?_
            refine WL_step rfl rfl (r_pickF rfl rfl) ?_
            refine WL_nil ?_
            refine thn_nrm (_hK_30 _ _ ?_)
            clear _hK_30
            refine W_cond rfl (fun _h36 => ?_) (fun _h36 => ?_)
            · have _kb_37 := _h36
              have _h36 := bf_d (bt_n _h36)
              refine W_seq fun _K_38 _hK_38 => ?_
              refine W_region ?_
              refine WL_step rfl rfl (r_assign rfl) ?_
              refine WL_nil ?_
              refine thn_nrm (_hK_38 _ _ ?_)
              clear _hK_38
              refine W_ret (thn_ret (inB_ret (thn_ret ?_)))
              clear _hK_3 _hK_29
              exact ret_intro [_] ⟨rfl, trivial⟩ ⟨congrArg (Value.int .i64) (by unfold arT; repeat (first | rw [if_pos (by omega)] | rw [if_neg (by omega)])), E⟩
            · have _kb_37 := _h36
              have _h36 := bt_d (bf_n _h36)
              refine W_skip ?_
              refine thn_nrm (_hK_29 _ _ ?_)
              clear _hK_29
              refine W_seq fun _K_39 _hK_39 => ?_
              refine W_region ?_
              refine WL_step rfl rfl (r_assign rfl) ?_
              refine WL_nil ?_
              refine thn_nrm (_hK_39 _ _ ?_)
              clear _hK_39
              refine W_ret (inB_ret (thn_ret ?_))
              clear _hK_3
              exact ret_intro [_] ⟨rfl, trivial⟩ ⟨congrArg (Value.int .i64) (by unfold arT; repeat (first | rw [if_pos (by omega)] | rw [if_neg (by omega)])), E⟩
      · have _kb_28 := _h21
        have _h21 := bf_d _h21
        refine W_seq fun _K_40 _hK_40 => ?_
        refine W_seq fun _K_41 _hK_41 => ?_
        refine W_region ?_
        refine WL_step rfl rfl (r_eql rfl rfl) ?_
        refine WL_step rfl rfl (r_assign rfl) ?_
        refine WL_nil ?_
        refine thn_nrm (_hK_41 _ _ ?_)
        clear _hK_41
        refine W_cond rfl (fun _h37 => ?_) (fun _h37 => ?_)
        · have _kb_42 := _h37
          have _h37 := bt_d _h37
          refine W_skip ?_
          refine thn_nrm (_hK_40 _ _ ?_)
          clear _hK_40
          refine W_condTk rfl _kb_42 ?_
          refine W_seq fun _K_43 _hK_43 => ?_
          refine W_seq fun _K_44 _hK_44 => ?_
          refine W_region ?_
          refine WL_step rfl rfl (r_fieldAddr fa57_1 rfl) ?_
          refine WL_step rfl rfl (r_loadAt _m1.at_ agg3 rfl rfl) ?_
          refine WL_step rfl rfl (r_neq rfl rfl) ?_
          refine WL_step rfl rfl (r_move rfl) ?_
          refine WL_split (d := 43) rfl (fun _h43 => ?_) (fun _h43 => ?_)
          · have _kb_45 := _h43
            have _h43 := bf_d (bt_n _h43)
            refine WL_skip rfl rfl ?_
            refine WL_skip rfl rfl ?_
            refine WL_skip rfl rfl ?_
            refine WL_step rfl rfl (r_pickT rfl rfl) ?_
            refine WL_step rfl rfl (r_move rfl) ?_
            refine WL_skip rfl rfl ?_
            refine WL_skip rfl rfl ?_
            refine WL_skip rfl rfl ?_
            refine WL_step rfl rfl (r_pickT rfl rfl) ?_
            refine WL_nil ?_
            refine thn_nrm (_hK_44 _ _ ?_)
            clear _hK_44
            refine W_condT rfl ?_
            refine W_seq fun _K_46 _hK_46 => ?_
            refine W_region ?_
            refine WL_step rfl rfl (r_assign rfl) ?_
            refine WL_nil ?_
            refine thn_nrm (_hK_46 _ _ ?_)
            clear _hK_46
            refine W_ret (thn_ret (inB_ret (thn_ret ?_)))
            clear _hK_3 _hK_43
            exact ret_intro [_] ⟨rfl, trivial⟩ ⟨congrArg (Value.int .i64) (by unfold arT; repeat (first | rw [if_pos (by omega)] | rw [if_neg (by omega)])), E⟩
          · have _kb_45 := _h43
            have _h43 := bt_d (bf_n _h43)
            refine WL_step rfl rfl (r_fieldAddr fa57_2 rfl) ?_
            refine WL_step rfl rfl (r_loadAt _m1.at_ agg3 rfl rfl) ?_
            refine WL_step rfl rfl (r_neq rfl rfl) ?_
            refine WL_step rfl rfl (r_pickF rfl rfl) ?_
            refine WL_step rfl rfl (r_move rfl) ?_
            refine WL_split (d := 48) rfl (fun _h48 => ?_) (fun _h48 => ?_)
            · have _kb_47 := _h48
              have _h48 := bf_d (bt_n _h48)
              refine WL_skip rfl rfl ?_
              refine WL_skip rfl rfl ?_
              refine WL_skip rfl rfl ?_
              refine WL_step rfl rfl (r_pickT rfl rfl) ?_
              refine WL_nil ?_
              refine thn_nrm (_hK_44 _ _ ?_)
              clear _hK_44
              refine W_condT rfl ?_
              refine W_seq fun _K_48 _hK_48 => ?_
              refine W_region ?_
              refine WL_step rfl rfl (r_assign rfl) ?_
              refine WL_nil ?_
              refine thn_nrm (_hK_48 _ _ ?_)
              clear _hK_48
              refine W_ret (thn_ret (inB_ret (thn_ret ?_)))
              clear _hK_3 _hK_43
              exact ret_intro [_] ⟨rfl, trivial⟩ ⟨congrArg (Value.int .i64) (by unfold arT; repeat (first | rw [if_pos (by omega)] | rw [if_neg (by omega)])), E⟩
            · have _kb_47 := _h48
              have _h48 := bt_d (bf_n _h48)
              refine WL_step rfl rfl (r_fieldAddr fa57_3 rfl) ?_
              refine WL_step rfl rfl (r_loadAt _m1.at_ agg3 rfl rfl) ?_
              refine WL_step rfl rfl (r_neq rfl rfl) ?_
              refine WL_step rfl rfl (r_pickF rfl rfl) ?_
              refine WL_nil ?_
              refine thn_nrm (_hK_44 _ _ ?_)
              clear _hK_44
              refine W_cond rfl (fun _h52 => ?_) (fun _h52 => ?_)
              · have _kb_49 := _h52
                have _h52 := bf_d (bt_n _h52)
                refine W_seq fun _K_50 _hK_50 => ?_
                refine W_region ?_
                refine WL_step rfl rfl (r_assign rfl) ?_
                refine WL_nil ?_
                refine thn_nrm (_hK_50 _ _ ?_)
                clear _hK_50
                refine W_ret (thn_ret (inB_ret (thn_ret ?_)))
                clear _hK_3 _hK_43
                exact ret_intro [_] ⟨rfl, trivial⟩ ⟨congrArg (Value.int .i64) (by unfold arT; repeat (first | rw [if_pos (by omega)] | rw [if_neg (by omega)])), E⟩
              · have _kb_49 := _h52
                have _h52 := bt_d (bf_n _h52)
                refine W_skip ?_
                refine thn_nrm (_hK_43 _ _ ?_)
                clear _hK_43
                refine W_seq fun _K_51 _hK_51 => ?_
                refine W_region ?_
                refine WL_step rfl rfl (r_assign rfl) ?_
                refine WL_nil ?_
                refine thn_nrm (_hK_51 _ _ ?_)
                clear _hK_51
                refine W_ret (inB_ret (thn_ret ?_))
                clear _hK_3
                exact ret_intro [_] ⟨rfl, trivial⟩ ⟨congrArg (Value.int .i64) (by unfold arT; repeat (first | rw [if_pos (by omega)] | rw [if_neg (by omega)])), E⟩
        · have _kb_42 := _h37
          have _h37 := bf_d _h37
          refine W_region ?_
          refine WL_step rfl rfl (r_eql rfl rfl) ?_
          refine WL_step rfl rfl (r_assign rfl) ?_
          refine WL_nil ?_
          refine thn_nrm (_hK_40 _ _ ?_)
          clear _hK_40
          refine W_cond rfl (fun _h37 => ?_) (fun _h37 => ?_)
          · have _kb_52 := _h37
            have _h37 := bt_d _h37
            refine W_seq fun _K_53 _hK_53 => ?_
            refine W_seq fun _K_54 _hK_54 => ?_
            refine W_region ?_
            refine WL_step rfl rfl (r_fieldAddr fa57_1 rfl) ?_
            refine WL_step rfl rfl (r_loadAt _m1.at_ agg3 rfl rfl) ?_
            refine WL_step rfl rfl (r_neq rfl rfl) ?_
            refine WL_step rfl rfl (r_move rfl) ?_
            refine WL_split (d := 43) rfl (fun _h43 => ?_) (fun _h43 => ?_)
            · have _kb_55 := _h43
              have _h43 := bf_d (bt_n _h43)
              refine WL_skip rfl rfl ?_
              refine WL_skip rfl rfl ?_
              refine WL_skip rfl rfl ?_
              refine WL_step rfl rfl (r_pickT rfl rfl) ?_
              refine WL_step rfl rfl (r_move rfl) ?_
              refine WL_skip rfl rfl ?_
              refine WL_skip rfl rfl ?_
              refine WL_skip rfl rfl ?_
              refine WL_step rfl rfl (r_pickT rfl rfl) ?_
              refine WL_nil ?_
              refine thn_nrm (_hK_54 _ _ ?_)
              clear _hK_54
              refine W_condT rfl ?_
              refine W_seq fun _K_56 _hK_56 => ?_
              refine W_region ?_
              refine WL_step rfl rfl (r_assign rfl) ?_
              refine WL_nil ?_
              refine thn_nrm (_hK_56 _ _ ?_)
              clear _hK_56
              refine W_ret (thn_ret (inB_ret (thn_ret ?_)))
              clear _hK_3 _hK_53
              exact ret_intro [_] ⟨rfl, trivial⟩ ⟨congrArg (Value.int .i64) (by unfold arT; repeat (first | rw [if_pos (by omega)] | rw [if_neg (by omega)])), E⟩
            · have _kb_55 := _h43
              have _h43 := bt_d (bf_n _h43)
              refine WL_step rfl rfl (r_fieldAddr fa57_2 rfl) ?_
              refine WL_step rfl rfl (r_loadAt _m1.at_ agg3 rfl rfl) ?_
              refine WL_step rfl rfl (r_neq rfl rfl) ?_
              refine WL_step rfl rfl (r_pickF rfl rfl) ?_
              refine WL_step rfl rfl (r_move rfl) ?_
              refine WL_split (d := 48) rfl (fun _h48 => ?_) (fun _h48 => ?_)
              · have _kb_57 := _h48
                have _h48 := bf_d (bt_n _h48)
                refine WL_skip rfl rfl ?_
                refine WL_skip rfl rfl ?_
                refine WL_skip rfl rfl ?_
                refine WL_step rfl rfl (r_pickT rfl rfl) ?_
                refine WL_nil ?_
                refine thn_nrm (_hK_54 _ _ ?_)
                clear _hK_54
                refine W_condT rfl ?_
                refine W_seq fun _K_58 _hK_58 => ?_
                refine W_region ?_
                refine WL_step rfl rfl (r_assign rfl) ?_
                refine WL_nil ?_
                refine thn_nrm (_hK_58 _ _ ?_)
                clear _hK_58
                refine W_ret (thn_ret (inB_ret (thn_ret ?_)))
                clear _hK_3 _hK_53
                exact ret_intro [_] ⟨rfl, trivial⟩ ⟨congrArg (Value.int .i64) (by unfold arT; repeat (first | rw [if_pos (by omega)] | rw [if_neg (by omega)])), E⟩
              · have _kb_57 := _h48
                have _h48 := bt_d (bf_n _h48)
                refine WL_step rfl rfl (r_fieldAddr fa57_3 rfl) ?_
                refine WL_step rfl rfl (r_loadAt _m1.at_ agg3 rfl rfl) ?_
                refine WL_step rfl rfl (r_neq rfl rfl) ?_
                refine WL_step rfl rfl (r_pickF rfl rfl) ?_
                refine WL_nil ?_
                refine thn_nrm (_hK_54 _ _ ?_)
                clear _hK_54
                refine W_cond rfl (fun _h52 => ?_) (fun _h52 => ?_)
                · have _kb_59 := _h52
                  have _h52 := bf_d (bt_n _h52)
                  refine W_seq fun _K_60 _hK_60 => ?_
                  refine W_region ?_
                  refine WL_step rfl rfl (r_assign rfl) ?_
                  refine WL_nil ?_
                  refine thn_nrm (_hK_60 _ _ ?_)
                  clear _hK_60
                  refine W_ret (thn_ret (inB_ret (thn_ret ?_)))
                  clear _hK_3 _hK_53
                  exact ret_intro [_] ⟨rfl, trivial⟩ ⟨congrArg (Value.int .i64) (by unfold arT; repeat (first | rw [if_pos (by omega)] | rw [if_neg (by omega)])), E⟩
                · have _kb_59 := _h52
                  have _h52 := bt_d (bf_n _h52)
                  refine W_skip ?_
                  refine thn_nrm (_hK_53 _ _ ?_)
                  clear _hK_53
                  refine W_seq fun _K_61 _hK_61 => ?_
                  refine W_region ?_
                  refine WL_step rfl rfl (r_assign rfl) ?_
                  refine WL_nil ?_
                  refine thn_nrm (_hK_61 _ _ ?_)
                  clear _hK_61
                  refine W_ret (inB_ret (thn_ret ?_))
                  clear _hK_3
                  exact ret_intro [_] ⟨rfl, trivial⟩ ⟨congrArg (Value.int .i64) (by unfold arT; repeat (first | rw [if_pos (by omega)] | rw [if_neg (by omega)])), E⟩
          · have _kb_52 := _h37
            have _h37 := bf_d _h37
            refine W_seq fun _K_62 _hK_62 => ?_
            refine W_region ?_
            refine WL_step rfl rfl (r_eql rfl rfl) ?_
            refine WL_step rfl rfl (r_assign rfl) ?_
            refine WL_nil ?_
            refine thn_nrm (_hK_62 _ _ ?_)
            clear _hK_62
            refine W_cond rfl (fun _h53 => ?_) (fun _h53 => ?_)
            · have _kb_63 := _h53
              have _h53 := bt_d _h53
              refine W_seq fun _K_64 _hK_64 => ?_
              refine W_seq fun _K_65 _hK_65 => ?_
              refine W_region ?_
              refine WL_step rfl rfl (r_fieldAddr fa57_1 rfl) ?_
              refine WL_step rfl rfl (r_loadAt _m1.at_ agg3 rfl rfl) ?_
              refine WL_step rfl rfl (r_neq rfl rfl) ?_
              refine WL_step rfl rfl (r_move rfl) ?_
              refine WL_split (d := 58) rfl (fun _h58 => ?_) (fun _h58 => ?_)
              · have _kb_66 := _h58
                have _h58 := bf_d (bt_n _h58)
                refine WL_skip rfl rfl ?_
                refine WL_skip rfl rfl ?_
                refine WL_skip rfl rfl ?_
                refine WL_step rfl rfl (r_pickT rfl rfl) ?_
                refine WL_step rfl rfl (r_move rfl) ?_
                refine WL_skip rfl rfl ?_
                refine WL_skip rfl rfl ?_
                refine WL_skip rfl rfl ?_
                refine WL_step rfl rfl (r_pickT rfl rfl) ?_
                refine WL_nil ?_
                refine thn_nrm (_hK_65 _ _ ?_)
                clear _hK_65
                refine W_condT rfl ?_
                refine W_seq fun _K_67 _hK_67 => ?_
                refine W_region ?_
                refine WL_step rfl rfl (r_assign rfl) ?_
                refine WL_nil ?_
                refine thn_nrm (_hK_67 _ _ ?_)
                clear _hK_67
                refine W_ret (thn_ret (inB_ret (thn_ret ?_)))
                clear _hK_3 _hK_64
                exact ret_intro [_] ⟨rfl, trivial⟩ ⟨congrArg (Value.int .i64) (by unfold arT; repeat (first | rw [if_pos (by omega)] | rw [if_neg (by omega)])), E⟩
              · have _kb_66 := _h58
                have _h58 := bt_d (bf_n _h58)
                refine WL_step rfl rfl (r_fieldAddr fa57_2 rfl) ?_
                refine WL_step rfl rfl (r_loadAt _m1.at_ agg3 rfl rfl) ?_
                refine WL_step rfl rfl (r_neq rfl rfl) ?_
                refine WL_step rfl rfl (r_pickF rfl rfl) ?_
                refine WL_step rfl rfl (r_move rfl) ?_
                refine WL_split (d := 63) rfl (fun _h63 => ?_) (fun _h63 => ?_)
                · have _kb_68 := _h63
                  have _h63 := bf_d (bt_n _h63)
                  refine WL_skip rfl rfl ?_
                  refine WL_skip rfl rfl ?_
                  refine WL_skip rfl rfl ?_
                  refine WL_step rfl rfl (r_pickT rfl rfl) ?_
                  refine WL_nil ?_
                  refine thn_nrm (_hK_65 _ _ ?_)
                  clear _hK_65
                  refine W_condT rfl ?_
                  refine W_seq fun _K_69 _hK_69 => ?_
                  refine W_region ?_
                  refine WL_step rfl rfl (r_assign rfl) ?_
                  refine WL_nil ?_
                  refine thn_nrm (_hK_69 _ _ ?_)
                  clear _hK_69
                  refine W_ret (thn_ret (inB_ret (thn_ret ?_)))
                  clear _hK_3 _hK_64
                  exact ret_intro [_] ⟨rfl, trivial⟩ ⟨congrArg (Value.int .i64) (by unfold arT; repeat (first | rw [if_pos (by omega)] | rw [if_neg (by omega)])), E⟩
                · have _kb_68 := _h63
                  have _h63 := bt_d (bf_n _h63)
                  refine WL_step rfl rfl (r_fieldAddr fa57_3 rfl) ?_
                  refine WL_step rfl rfl (r_loadAt _m1.at_ agg3 rfl rfl) ?_
                  refine WL_step rfl rfl (r_neq rfl rfl) ?_
                  refine WL_step rfl rfl (r_pickF rfl rfl) ?_
                  refine WL_nil ?_
                  refine thn_nrm (_hK_65 _ _ ?_)
                  clear _hK_65
                  refine W_cond rfl (fun _h67 => ?_) (fun _h67 => ?_)
                  · have _kb_70 := _h67
                    have _h67 := bf_d (bt_n _h67)
                    refine W_seq fun _K_71 _hK_71 => ?_
                    refine W_region ?_
                    refine WL_step rfl rfl (r_assign rfl) ?_
                    refine WL_nil ?_
                    refine thn_nrm (_hK_71 _ _ ?_)
                    clear _hK_71
                    refine W_ret (thn_ret (inB_ret (thn_ret ?_)))
                    clear _hK_3 _hK_64
                    exact ret_intro [_] ⟨rfl, trivial⟩ ⟨congrArg (Value.int .i64) (by unfold arT; repeat (first | rw [if_pos (by omega)] | rw [if_neg (by omega)])), E⟩
                  · have _kb_70 := _h67
                    have _h67 := bt_d (bf_n _h67)
                    refine W_skip ?_
                    refine thn_nrm (_hK_64 _ _ ?_)
                    clear _hK_64
                    refine W_seq fun _K_72 _hK_72 => ?_
                    refine W_region ?_
                    refine WL_step rfl rfl (r_assign rfl) ?_
                    refine WL_nil ?_
                    refine thn_nrm (_hK_72 _ _ ?_)
                    clear _hK_72
                    refine W_ret (inB_ret (thn_ret ?_))
                    clear _hK_3
                    exact ret_intro [_] ⟨rfl, trivial⟩ ⟨congrArg (Value.int .i64) (by unfold arT; repeat (first | rw [if_pos (by omega)] | rw [if_neg (by omega)])), E⟩
            · have _kb_63 := _h53
              have _h53 := bf_d _h53
              refine W_seq fun _K_73 _hK_73 => ?_
              refine W_region ?_
              refine WL_step rfl rfl (r_eql rfl rfl) ?_
              refine WL_step rfl rfl (r_assign rfl) ?_
              refine WL_nil ?_
              refine thn_nrm (_hK_73 _ _ ?_)
              clear _hK_73
              refine W_cond rfl (fun _h68 => ?_) (fun _h68 => ?_)
              · have _kb_74 := _h68
                have _h68 := bt_d _h68
                refine W_seq fun _K_75 _hK_75 => ?_
                refine W_seq fun _K_76 _hK_76 => ?_
                refine W_region ?_
                refine WL_step rfl rfl (r_fieldAddr fa57_1 rfl) ?_
                refine WL_step rfl rfl (r_loadAt _m1.at_ agg3 rfl rfl) ?_
                refine WL_step rfl rfl (r_neq rfl rfl) ?_
                refine WL_step rfl rfl (r_move rfl) ?_
                refine WL_split (d := 73) rfl (fun _h73 => ?_) (fun _h73 => ?_)
                · have _kb_77 := _h73
                  have _h73 := bf_d (bt_n _h73)
                  refine WL_skip rfl rfl ?_
                  refine WL_skip rfl rfl ?_
                  refine WL_skip rfl rfl ?_
                  refine WL_skip rfl rfl ?_
                  refine WL_step rfl rfl (r_pickT rfl rfl) ?_
                  refine WL_step rfl rfl (r_move rfl) ?_
                  refine WL_skip rfl rfl ?_
                  refine WL_skip rfl rfl ?_
                  refine WL_skip rfl rfl ?_
                  refine WL_skip rfl rfl ?_
                  refine WL_skip rfl rfl ?_
                  refine WL_skip rfl rfl ?_
                  refine WL_step rfl rfl (r_pickT rfl rfl) ?_
                  refine WL_nil ?_
                  refine thn_nrm (_hK_76 _ _ ?_)
                  clear _hK_76
                  refine W_condT rfl ?_
                  refine W_seq fun _K_78 _hK_78 => ?_
                  refine W_region ?_
                  refine WL_step rfl rfl (r_assign rfl) ?_
                  refine WL_nil ?_
                  refine thn_nrm (_hK_78 _ _ ?_)
                  clear _hK_78
                  refine W_ret (thn_ret (inB_ret (thn_ret ?_)))
                  clear _hK_3 _hK_75
                  exact ret_intro [_] ⟨rfl, trivial⟩ ⟨congrArg (Value.int .i64) (by unfold arT; repeat (first | rw [if_pos (by omega)] | rw [if_neg (by omega)])), E⟩
                · have _kb_77 := _h73
                  have _h73 := bt_d (bf_n _h73)
                  refine WL_step rfl rfl (r_fieldAddr fa57_3 rfl) ?_
                  refine WL_step rfl rfl (r_loadAt _m1.at_ agg3 rfl rfl) ?_
                  refine WL_s rfl rfl ?_
                  refine Step.call (r_call (xs := [.tmp 75, .const (Go.Value.int Go.IntKind.i64 1), .const (Go.Value.int Go.IntKind.i64 3)]) fk79 rfl) (c_spec_l1In _ _ _ ) fun _v76 _w_79 _q76 => ?_
                  obtain ⟨rfl, _cw_79⟩ := _q76
                  have _cw_79z := _cw_79.size
                  have E := E.trans _cw_79
                  refine WL_step rfl rfl (r_not rfl) ?_
                  refine WL_step rfl rfl (r_pickF rfl rfl) ?_
                  refine WL_step rfl rfl (r_move rfl) ?_
                  refine WL_split (d := 79) rfl (fun _h79 => ?_) (fun _h79 => ?_)
                  · have _kb_80 := _h79
                    have _h79 := bf_d (bt_n _h79)
                    refine WL_skip rfl rfl ?_
                    refine WL_skip rfl rfl ?_
                    refine WL_skip rfl rfl ?_
                    refine WL_skip rfl rfl ?_
                    refine WL_skip rfl rfl ?_
                    refine WL_skip rfl rfl ?_
                    refine WL_step rfl rfl (r_pickT rfl rfl) ?_
                    refine WL_nil ?_
                    refine thn_nrm (_hK_76 _ _ ?_)
                    clear _hK_76
                    refine W_condT rfl ?_
                    refine W_seq fun _K_81 _hK_81 => ?_
                    refine W_region ?_
                    refine WL_step rfl rfl (r_assign rfl) ?_
                    refine WL_nil ?_
                    refine thn_nrm (_hK_81 _ _ ?_)
                    clear _hK_81
                    refine W_ret (thn_ret (inB_ret (thn_ret ?_)))
                    clear _hK_3 _hK_75
                    exact ret_intro [_] ⟨rfl, trivial⟩ ⟨congrArg (Value.int .i64) (by unfold arT; repeat (first | rw [if_pos (by omega)] | rw [if_neg (by omega)])), E⟩
                  · have _kb_80 := _h79
                    have _h79 := bt_d (bf_n _h79)
                    refine WL_step rfl rfl (r_fieldAddr fa57_2 rfl) ?_
                    have _f_82 := (_m1.ch0 _cw_79)
                    refine WL_step rfl rfl (r_loadAt _f_82.at_ agg3 rfl rfl) ?_
                    refine WL_step rfl rfl (r_fieldAddr fa57_3 rfl) ?_
                    refine WL_step rfl rfl (r_loadAt _f_82.at_ agg3 rfl rfl) ?_
                    refine WL_s rfl rfl ?_
                    refine Step.call (r_call (xs := [.tmp 81, .const (Go.Value.int Go.IntKind.i64 0), .tmp 83]) fk79 rfl) (c_spec_l1In _ _ _ ) fun _v84 _w_83 _q84 => ?_
                    obtain ⟨rfl, _cw_83⟩ := _q84
                    have _cw_83z := _cw_83.size
                    have E := E.trans _cw_83
                    refine WL_step rfl rfl (r_not rfl) ?_
                    refine WL_step rfl rfl (r_pickF rfl rfl) ?_
                    refine WL_nil ?_
                    refine thn_nrm (_hK_76 _ _ ?_)
                    clear _hK_76
                    refine W_cond rfl (fun _h86 => ?_) (fun _h86 => ?_)
                    · have _kb_84 := _h86
                      have _h86 := bf_d (bt_n _h86)
                      refine W_seq fun _K_85 _hK_85 => ?_
                      refine W_region ?_
                      refine WL_step rfl rfl (r_assign rfl) ?_
                      refine WL_nil ?_
                      refine thn_nrm (_hK_85 _ _ ?_)
                      clear _hK_85
                      refine W_ret (thn_ret (inB_ret (thn_ret ?_)))
                      clear _hK_3 _hK_75
                      exact ret_intro [_] ⟨rfl, trivial⟩ ⟨congrArg (Value.int .i64) (by unfold arT; repeat (first | rw [if_pos (by omega)] | rw [if_neg (by omega)])), E⟩
                    · have _kb_84 := _h86
                      have _h86 := bt_d (bf_n _h86)
                      refine W_skip ?_
                      refine thn_nrm (_hK_75 _ _ ?_)
                      clear _hK_75
                      refine W_seq fun _K_86 _hK_86 => ?_
                      refine W_region ?_
                      refine WL_step rfl rfl (r_assign rfl) ?_
                      refine WL_nil ?_
                      refine thn_nrm (_hK_86 _ _ ?_)
                      clear _hK_86
                      refine W_ret (inB_ret (thn_ret ?_))
                      clear _hK_3
                      exact ret_intro [_] ⟨rfl, trivial⟩ ⟨congrArg (Value.int .i64) (by unfold arT; repeat (first | rw [if_pos (by omega)] | rw [if_neg (by omega)])), E⟩
              · have _kb_74 := _h68
                have _h68 := bf_d _h68
                refine W_skip ?_
                refine inB_nrm ?_
                refine thn_nrm (_hK_3 _ _ ?_)
                clear _hK_3
                refine W_seq fun _K_87 _hK_87 => ?_
                refine W_region ?_
                refine WL_step rfl rfl (r_assign rfl) ?_
                refine WL_nil ?_
                refine thn_nrm (_hK_87 _ _ ?_)
                clear _hK_87
                refine W_ret ?_
                exact ret_intro [_] ⟨rfl, trivial⟩ ⟨congrArg (Value.int .i64) (by unfold arT; repeat (first | rw [if_pos (by omega)] | rw [if_neg (by omega)])), E⟩

/-- spec.IsExpr -/
theorem c_spec_IsExpr {w : World} {_B_e : Nat} {_v_e : Value} {e : List Token} (_h_e : Ls Token.cs 4 w _B_e _v_e e) :
    Ctr Try.prog 15 #[(.agg #[_v_e])] w (fun v w' => v = .bool (isE e) ∧ Ch [] w w') := by
  obtain ⟨_A_e, _C_e, _e1_e⟩ := _h_e.val
  subst _e1_e
  have _l_e := _h_e.len
  have _h_e := _h_e.here (by decide)
  have E := Ch.refl [] w
  refine Ctr_of_W (N := 32) (vs0 := [(.agg #[(.slice _A_e e.length _C_e)])]) Try.func15 rfl rfl rfl ?_
  refine W_seq fun _K_1 _hK_1 => ?_
  refine W_region ?_
  refine WL_s rfl rfl ?_
  refine s_box rfl fun _b1 _w_2 _m1 _cw_2 _e1 => ?_
  have _cw_2z := _cw_2.size
  have E := E.trans _cw_2
  have _z1 := _m1.lt
  replace _m1 : Blk _w_2 _b1 29 [(.slice _A_e e.length _C_e)] := _m1
  refine WL_step rfl rfl (r_assign rfl) ?_
  refine WL_nil ?_
  refine thn_nrm (_hK_1 _ _ ?_)
  clear _hK_1
  refine W_seq fun _K_3 _hK_3 => ?_
  refine W_region ?_
  refine WL_step rfl rfl (r_assign rfl) ?_
  refine WL_nil ?_
  refine thn_nrm (_hK_3 _ _ ?_)
  clear _hK_3
  refine W_seq fun _K_4 _hK_4 => ?_
  refine W_seq fun _K_5 _hK_5 => ?_
  refine W_region ?_
  refine WL_step rfl rfl (r_assign rfl) ?_
  refine WL_nil ?_
  refine thn_nrm (_hK_5 _ _ ?_)
  clear _hK_5
  refine W_block ?_
  refine W_loop (σ := Nat × Int × List Tr) (fun ⟨i, d, st⟩ => [(1, (.pointer (some ⟨_b1, 0, none⟩))), (3, (.int .i64 d)), (4, (.int .i64 ((i : Nat) : Int)))]) (fun ⟨i, d, st⟩ wx => Ch [] w wx ∧ _w_2.heap.size ≤ wx.heap.size ∧ (i ≤ e.length) ∧ (d = st.length) ∧ (st.length ≤ i) ∧ (prs [] (e.take i) = some st) ∧ Blk wx _b1 29 [(.slice _A_e e.length _C_e)]) (fun ⟨i, d, st⟩ => e.length - i) (0, 0, ([] : List Tr)) (Sub.cons rfl (Sub.cons rfl (Sub.cons rfl (Sub.nil _)))) ⟨E, (Nat.le_refl _), (by omega), rfl, (Nat.le_refl _), rfl, _m1⟩ ?_
  rintro ⟨i, d, st⟩ _wr_6 ⟨E, _zz0, hi, hd, hs, hp, _F0_0⟩
  have _E0h := E
  have _E0hz := _E0h.size
  have _F0_0z := _F0_0.lt
  refine W_seq fun _K_7 _hK_7 => ?_
  refine W_seq fun _K_8 _hK_8 => ?_
  refine W_region ?_
  refine WL_step rfl rfl (r_move rfl) ?_
  refine WL_step rfl rfl (r_fieldAddr fa29_0 rfl) ?_
  refine WL_step rfl rfl (r_loadAt _F0_0.at_ agg27 rfl rfl) ?_
  refine WL_step rfl rfl (r_len (by rw [el27]; rfl) rfl) ?_
  refine WL_step rfl rfl (r_lss rfl rfl) ?_
  refine WL_nil ?_
  refine thn_nrm (_hK_8 _ _ ?_)
  clear _hK_8
  refine W_cond rfl (fun _h10 => ?_) (fun _h10 => ?_)
  · have _kb_9 := _h10
    have _h10 := bt_d _h10
    refine W_skip ?_
    refine thn_nrm (_hK_7 _ _ ?_)
    clear _hK_7
    refine W_seq fun _K_10 _hK_10 => ?_
    refine W_block ?_
    refine W_seq fun _K_11 _hK_11 => ?_
    refine W_region ?_
    refine WL_step rfl rfl (r_fieldAddr fa29_0 rfl) ?_
    refine WL_step rfl rfl (r_loadAt _F0_0.at_ agg27 rfl rfl) ?_
    refine WL_step rfl rfl (r_move rfl) ?_
    refine WL_s rfl rfl ?_
    have _f_12 := (_h_e.ch0 _E0h)
    refine (s_index _f_12 Token.len el27 sz57 rfl rfl rfl (by omega) fun _p16 _y16 _hy16 _a16 => ?_)
    refine WL_step rfl rfl (r_loadAtA0 _a16 agg57 sz57 rfl) ?_
    refine WL_s rfl rfl ?_
    refine Step.call (r_call (xs := [.tmp 17]) fk49 rfl) (c_spec_l8Arity _y16 ) fun _v18 _w_13 _q18 => ?_
    obtain ⟨rfl, _cw_13⟩ := _q18
    have _cw_13z := _cw_13.size
    have E := E.trans _cw_13
    have _a18 := arT_cases _y16
    refine WL_step rfl rfl (r_assign rfl) ?_
    refine WL_nil ?_
    refine thn_nrm (_hK_11 _ _ ?_)
    clear _hK_11
    refine W_seq fun _K_14 _hK_14 => ?_
    refine W_seq fun _K_15 _hK_15 => ?_
    refine W_region ?_
    refine WL_step rfl rfl (r_move rfl) ?_
    refine WL_step rfl rfl (r_lss rfl rfl) ?_
    refine WL_step rfl rfl (r_move rfl) ?_
    refine WL_split (d := 21) rfl (fun _h21 => ?_) (fun _h21 => ?_)
    · have _kb_16 := _h21
      have _h21 := bt_d _h21
      refine WL_skip rfl rfl ?_
      refine WL_skip rfl rfl ?_
      refine WL_skip rfl rfl ?_
      refine WL_step rfl rfl (r_pickT rfl rfl) ?_
      refine WL_nil ?_
      refine thn_nrm (_hK_15 _ _ ?_)
      clear _hK_15
      refine W_condT rfl ?_
      refine W_seq fun _K_17 _hK_17 => ?_
      refine W_region ?_
      refine WL_step rfl rfl (r_assign rfl) ?_
      refine WL_nil ?_
      refine thn_nrm (_hK_17 _ _ ?_)
      clear _hK_17
      refine W_ret (thn_ret (inB_ret (thn_ret (thn_ret (inB_ret (thn_ret ?_))))))
      clear _hK_4 _hK_10 _hK_14
      exact ret_intro [_] ⟨rfl, trivial⟩ ⟨congrArg Value.bool (by first | (rw [isE_end hp (by omega), hd]; done) | exact isE_none (isE_no hp _hy16 (push_no (by omega)))), E⟩
    · have _kb_16 := _h21
      have _h21 := bf_d _h21
      refine WL_step rfl rfl (r_move rfl) ?_
      refine WL_step rfl rfl (r_move rfl) ?_
      refine WL_step rfl rfl (r_gtr rfl rfl) ?_
      refine WL_step rfl rfl (r_pickF rfl rfl) ?_
      refine WL_nil ?_
      refine thn_nrm (_hK_15 _ _ ?_)
      clear _hK_15
      refine W_cond rfl (fun _h25 => ?_) (fun _h25 => ?_)
      · have _kb_18 := _h25
        have _h25 := bt_d _h25
        refine W_seq fun _K_19 _hK_19 => ?_
        refine W_region ?_
        refine WL_step rfl rfl (r_assign rfl) ?_
        refine WL_nil ?_
        refine thn_nrm (_hK_19 _ _ ?_)
        clear _hK_19
        refine W_ret (thn_ret (inB_ret (thn_ret (thn_ret (inB_ret (thn_ret ?_))))))
        clear _hK_4 _hK_10 _hK_14
        exact ret_intro [_] ⟨rfl, trivial⟩ ⟨congrArg Value.bool (by first | (rw [isE_end hp (by omega), hd]; done) | exact isE_none (isE_no hp _hy16 (push_no (by omega)))), E⟩
      · have _kb_18 := _h25
        have _h25 := bf_d _h25
        refine W_skip ?_
        refine thn_nrm (_hK_14 _ _ ?_)
        clear _hK_14
        refine W_region ?_
        refine WL_step rfl rfl (r_move rfl) ?_
        refine WL_step rfl rfl (r_move rfl) ?_
        refine WL_step rfl rfl (r_sub (by omega) rfl rfl) ?_
        refine WL_step rfl rfl (r_add (by omega) rfl rfl) ?_
        refine WL_step rfl rfl (r_assign rfl) ?_
        refine WL_nil ?_
        refine inB_nrm ?_
        refine thn_nrm (_hK_10 _ _ ?_)
        clear _hK_10
        refine W_region ?_
        refine WL_step rfl rfl (r_move rfl) ?_
        refine WL_step rfl rfl (r_add (by omega) rfl rfl) ?_
        refine WL_step rfl rfl (r_assign rfl) ?_
        refine WL_nil ?_
        obtain ⟨s2, _p2, _l2⟩ := push_yes (t := _y16) (st := st) (by omega) (by omega)
        have _f_20 := (_F0_0.ch0 _cw_13)
        exact thn_nrm (Exists.intro ((i + 1), ((d - arT _y16) + 1), s2) ⟨⟨E, (by omega), (by omega), (by omega), (by omega), ((prs_snoc hp _hy16).trans _p2), _f_20⟩, Sub.cons rfl (Sub.cons rfl (Sub.cons rfl (Sub.nil _))), (by first | omega | (dsimp only; omega))⟩)
  · have _kb_9 := _h10
    have _h10 := bf_d _h10
    refine W_exit (thn_exit (thn_exit (inB_hit ?_)))
    refine thn_nrm (_hK_4 _ _ ?_)
    clear _hK_4
    refine W_seq fun _K_21 _hK_21 => ?_
    refine W_region ?_
    refine WL_step rfl rfl (r_move rfl) ?_
    refine WL_step rfl rfl (r_eql rfl rfl) ?_
    refine WL_step rfl rfl (r_assign rfl) ?_
    refine WL_nil ?_
    refine thn_nrm (_hK_21 _ _ ?_)
    clear _hK_21
    refine W_ret ?_
    clear _hK_7
    exact ret_intro [_] ⟨rfl, trivial⟩ ⟨congrArg Value.bool (by first | (rw [isE_end hp (by omega), hd]; done) | exact isE_none (isE_no hp _hy16 (push_no (by omega)))), E⟩

/-- spec.l8Start -/
theorem c_spec_l8Start {w : World} {_B_l : Nat} {_v_l : Value} {l : List Token} (_h_l : Ls Token.cs 4 w _B_l _v_l l) (p : List Token) (t : Tr) (hok : Okd t) (hl : l = p ++ t.flat) :
    Ctr Try.prog 56 #[_v_l] w (fun v w' => v = .int .i64 (((p.length : Nat) : Int)) ∧ Ch [] w w') := by
  obtain ⟨_A_l, _C_l, _e1_l⟩ := _h_l.val
  subst _e1_l
  have _l_l := _h_l.len
  have _h_l := _h_l.here (by decide)
  have E := Ch.refl [] w
  refine Ctr_of_W (N := 20) (vs0 := [(.slice _A_l l.length _C_l)]) Try.func56 rfl rfl rfl ?_
  refine W_seq fun _K_1 _hK_1 => ?_
  refine W_region ?_
  refine WL_step rfl rfl (r_assign rfl) ?_
  refine WL_nil ?_
  refine thn_nrm (_hK_1 _ _ ?_)
  clear _hK_1
  refine W_seq fun _K_2 _hK_2 => ?_
  refine W_region ?_
  refine WL_step rfl rfl (r_assign rfl) ?_
  refine WL_nil ?_
  refine thn_nrm (_hK_2 _ _ ?_)
  clear _hK_2
  refine W_seq fun _K_3 _hK_3 => ?_
  refine W_region ?_
  refine WL_step rfl rfl (r_move rfl) ?_
  refine WL_step rfl rfl (r_len (by rw [el27]; rfl) rfl) ?_
  refine WL_step rfl rfl (r_assign rfl) ?_
  refine WL_nil ?_
  refine thn_nrm (_hK_3 _ _ ?_)
  clear _hK_3
  refine W_seq fun _K_4 _hK_4 => ?_
  refine W_block ?_
  refine W_loop (σ := Int × Int × List Tr) (fun ⟨n, k, ts⟩ => [(0, (.slice _A_l l.length _C_l)), (2, (.int .i64 0)), (3, (.int .i64 n)), (4, (.int .i64 k))]) (fun ⟨n, k, ts⟩ wx => Ch [] w wx ∧ w.heap.size ≤ wx.heap.size ∧ (0 ≤ k) ∧ (k ≤ l.length) ∧ (n = ts.length) ∧ (l.take k.toNat = p ++ flats ts) ∧ (∀ x ∈ ts, Okd x)) (fun ⟨n, k, ts⟩ => k.toNat) (1, (l.length : Int), [t]) (Sub.cons rfl (Sub.cons rfl (Sub.cons rfl (Sub.cons rfl (Sub.nil _))))) ⟨E, (Nat.le_refl _), (by omega), (by omega), rfl, (by rw [show ((l.length : Int)).toNat = l.length from by omega, List.take_length, hl]; simp [flats]), (fun x hx => by rw [List.mem_singleton.1 hx]; exact hok)⟩ ?_
  rintro ⟨n, k, ts⟩ _wr_5 ⟨E, _zz0, _h0, _hk, hn, hp, ho⟩
  have _E0h := E
  have _E0hz := _E0h.size
  have s1 := start_len hp _h0
  refine W_seq fun _K_6 _hK_6 => ?_
  refine W_seq fun _K_7 _hK_7 => ?_
  refine W_region ?_
  refine WL_step rfl rfl (r_move rfl) ?_
  refine WL_step rfl rfl (r_gtr rfl rfl) ?_
  refine WL_nil ?_
  refine thn_nrm (_hK_7 _ _ ?_)
  clear _hK_7
  refine W_cond rfl (fun _h8 => ?_) (fun _h8 => ?_)
  · have _kb_8 := _h8
    have _h8 := bt_d _h8
    refine W_skip ?_
    refine thn_nrm (_hK_6 _ _ ?_)
    clear _hK_6
    refine W_block ?_
    refine W_seq fun _K_9 _hK_9 => ?_
    refine W_region ?_
    refine WL_step rfl rfl (r_move rfl) ?_
    refine WL_step rfl rfl (r_sub (by omega) rfl rfl) ?_
    refine WL_step rfl rfl (r_assign rfl) ?_
    refine WL_nil ?_
    refine thn_nrm (_hK_9 _ _ ?_)
    clear _hK_9
    refine W_region ?_
    refine WL_step rfl rfl (r_move rfl) ?_
    refine WL_step rfl rfl (r_sub (by omega) rfl rfl) ?_
    refine WL_step rfl rfl (r_move rfl) ?_
    refine WL_step rfl rfl (r_move rfl) ?_
    refine WL_s rfl rfl ?_
    have _f_10 := (_h_l.ch0 _E0h)
    refine (s_index (j := (k - 1).toNat) _f_10 Token.len el27 sz57 rfl rfl (by omega) (by omega) fun _p15 _y15 _hy15 _a15 => ?_)
    refine WL_step rfl rfl (r_loadAtA0 _a15 agg57 sz57 rfl) ?_
    refine WL_s rfl rfl ?_
    refine Step.call (r_call (xs := [.tmp 16]) fk49 rfl) (c_spec_l8Arity _y15 ) fun _v17 _w_11 _q17 => ?_
    obtain ⟨rfl, _cw_11⟩ := _q17
    have _cw_11z := _cw_11.size
    have E := E.trans _cw_11
    have _a17 := arT_cases _y15
    obtain ⟨s2, _p2, _l2, _o2⟩ := start_step hp ho (by omega) _h0 _hk _hy15
    have s3 := start_len _p2 (by omega)
    refine WL_step rfl rfl (r_add (by omega) rfl rfl) ?_
    refine WL_step rfl rfl (r_assign rfl) ?_
    refine WL_nil ?_
    refine inB_nrm ?_
    exact thn_nrm (Exists.intro (((n - 1) + arT _y15), (k - 1), s2) ⟨⟨E, (by omega), (by omega), (by omega), (by omega), _p2, _o2⟩, Sub.cons rfl (Sub.cons rfl (Sub.cons rfl (Sub.cons rfl (Sub.nil _)))), (by first | omega | (dsimp only; omega))⟩)
  · have _kb_8 := _h8
    have _h8 := bf_d _h8
    refine W_exit (thn_exit (thn_exit (inB_hit ?_)))
    refine thn_nrm (_hK_4 _ _ ?_)
    clear _hK_4
    refine W_seq fun _K_12 _hK_12 => ?_
    refine W_region ?_
    refine WL_step rfl rfl (r_move rfl) ?_
    refine WL_step rfl rfl (r_assign rfl) ?_
    refine WL_nil ?_
    refine thn_nrm (_hK_12 _ _ ?_)
    clear _hK_12
    refine W_ret ?_
    clear _hK_6
    exact ret_intro [_] ⟨rfl, trivial⟩ ⟨congrArg (Value.int .i64) (start_end hp hn (by omega) _h0 _hk), E⟩

/-- spec.l9Null -/
theorem c_spec_l9Null_n : ∀ (n : Nat) {w : World} {_B_l : Nat} {_v_l : Value} {l : List Token} (_h_l : Ls Token.cs 4 w _B_l _v_l l) (t : Tr) (hok : Okd t) (hl : l = t.flat) (hsz : l.length < n),
    Ctr Try.prog 53 #[_v_l] w (fun v w' => v = .bool (nullT t) ∧ Ch [] w w') := by
  intro n
  induction n with
  | zero => intros; omega
  | succ n ih =>
  intro w _B_l _v_l l _h_l t hok hl hsz
  obtain ⟨_A_l, _C_l, _e1_l⟩ := _h_l.val
  subst _e1_l
  have _l_l := _h_l.len
  have _h_l := _h_l.here (by decide)
  have E := Ch.refl [] w
  have hn1 := t.flat_pos; rw [← hl] at hn1
  refine Ctr_of_W (N := 64) (vs0 := [(.slice _A_l l.length _C_l)]) Try.func53 rfl rfl rfl ?_
  refine W_seq fun _K_1 _hK_1 => ?_
  refine W_region ?_
  refine WL_step rfl rfl (r_assign rfl) ?_
  refine WL_nil ?_
  refine thn_nrm (_hK_1 _ _ ?_)
  clear _hK_1
  refine W_seq fun _K_2 _hK_2 => ?_
  refine W_region ?_
  refine WL_step rfl rfl (r_move rfl) ?_
  refine WL_step rfl rfl (r_len (by rw [el27]; rfl) rfl) ?_
  refine WL_step rfl rfl (r_sub (by omega) rfl rfl) ?_
  refine WL_step rfl rfl (r_assign rfl) ?_
  refine WL_nil ?_
  refine thn_nrm (_hK_2 _ _ ?_)
  clear _hK_2
  refine W_seq fun _K_3 _hK_3 => ?_
  refine W_region ?_
  refine WL_step rfl rfl (r_move rfl) ?_
  refine WL_step rfl rfl (r_move rfl) ?_
  refine WL_s rfl rfl ?_
  refine (s_index (j := (((l.length : Nat) : Int) - 1).toNat) _h_l Token.len el27 sz57 rfl rfl (by omega) (by omega) fun _p12 _y12 _hy12 _a12 => ?_)
  have _ht := last_tok hl (by omega) _hy12
  have htk := congrArg Token.kind _ht
  have htl := congrArg Token.low _ht
  have hth := congrArg Token.high _ht
  refine WL_step rfl rfl (r_loadAtA0 _a12 agg57 sz57 rfl) ?_
  refine WL_s rfl rfl ?_
  refine s_alloc zr57 fun _b4 _w_4 _m4 _cw_4 _e4 => ?_
  have _cw_4z := _cw_4.size
  have E := E.trans _cw_4
  have _z4 := _m4.lt
  replace _m4 : Blk _w_4 _b4 57 [(.int .i64 0), (.int .i64 0), (.int .i64 0), (.int .i64 0)] := _m4
  refine WL_s rfl rfl ?_
  refine s_storeA (off := 0) 4 _m4 sz57 rfl (us := [(.int .i64 _y12.kind), (.int .i64 _y12.letter), (.int .i64 _y12.low), (.int .i64 _y12.high)]) rfl rfl rfl rfl fun _w_5 _m_6 _cw_5 => ?_
  have _cw_5z := _cw_5.size
  have E := E.step _cw_5 (fun i hi => .inl (by have _h1 := List.mem_singleton.1 hi; omega))
  replace _m_6 : Blk _w_5 _b4 57 [(.int .i64 _y12.kind), (.int .i64 _y12.letter), (.int .i64 _y12.low), (.int .i64 _y12.high)] := _m_6
  refine WL_nil ?_
  refine thn_nrm (_hK_3 _ _ ?_)
  clear _hK_3
  refine W_seq fun _K_7 _hK_7 => ?_
  refine W_seq fun _K_8 _hK_8 => ?_
  refine W_region ?_
  refine WL_step rfl rfl (r_fieldAddr fa57_0 rfl) ?_
  refine WL_step rfl rfl (r_loadAt _m_6.at_ agg3 rfl rfl) ?_
  refine WL_nil ?_
  refine thn_nrm (_hK_8 _ _ ?_)
  clear _hK_8
  refine W_block ?_
  refine W_seq fun _K_9 _hK_9 => ?_
  refine W_seq fun _K_10 _hK_10 => ?_
  refine W_region ?_
  refine WL_step rfl rfl (r_eql rfl rfl) ?_
  refine WL_step rfl rfl (r_assign rfl) ?_
  refine WL_nil ?_
  refine thn_nrm (_hK_10 _ _ ?_)
  clear _hK_10
  refine W_cond rfl (fun _h16 => ?_) (fun _h16 => ?_)
  · have _kb_11 := _h16
    have _h16 := bt_d _h16
    refine W_skip ?_
    refine thn_nrm (_hK_9 _ _ ?_)
    clear _hK_9
    refine W_condTk rfl _kb_11 ?_
    refine W_seq fun _K_12 _hK_12 => ?_
    refine W_region ?_
    refine WL_step rfl rfl (r_assign rfl) ?_
    refine WL_nil ?_
    refine thn_nrm (_hK_12 _ _ ?_)
    clear _hK_12
    refine W_ret (inB_ret (thn_ret ?_))
    clear _hK_7
    exact ret_intro [_] ⟨rfl, trivial⟩ ⟨congrArg Value.bool (by first | exact null26 hok (by omega) | exact null0 hok (by omega) | exact null4f hok (by omega) rfl _h29 | exact null4t hok (by omega) rfl rfl _h29 | exact null5t hok (by omega) rfl _h46 | exact null5f hok (by omega) rfl rfl _h46 | exact null7t hok (by omega) (by omega) | exact null7f hok (by omega) rfl (by omega)), E⟩
  · have _kb_11 := _h16
    have _h16 := bf_d _h16
    refine W_region ?_
    refine WL_step rfl rfl (r_eql rfl rfl) ?_
    refine WL_step rfl rfl (r_assign rfl) ?_
    refine WL_nil ?_
    refine thn_nrm (_hK_9 _ _ ?_)
    clear _hK_9
    refine W_cond rfl (fun _h16 => ?_) (fun _h16 => ?_)
    · have _kb_13 := _h16
      have _h16 := bt_d _h16
      refine W_seq fun _K_14 _hK_14 => ?_
      refine W_region ?_
      refine WL_step rfl rfl (r_assign rfl) ?_
      refine WL_nil ?_
      refine thn_nrm (_hK_14 _ _ ?_)
      clear _hK_14
      refine W_ret (inB_ret (thn_ret ?_))
      clear _hK_7
      exact ret_intro [_] ⟨rfl, trivial⟩ ⟨congrArg Value.bool (by first | exact null26 hok (by omega) | exact null0 hok (by omega) | exact null4f hok (by omega) rfl _h29 | exact null4t hok (by omega) rfl rfl _h29 | exact null5t hok (by omega) rfl _h46 | exact null5f hok (by omega) rfl rfl _h46 | exact null7t hok (by omega) (by omega) | exact null7f hok (by omega) rfl (by omega)), E⟩
    · have _kb_13 := _h16
      have _h16 := bf_d _h16
      refine W_seq fun _K_15 _hK_15 => ?_
      refine W_region ?_
      refine WL_step rfl rfl (r_eql rfl rfl) ?_
      refine WL_step rfl rfl (r_assign rfl) ?_
      refine WL_nil ?_
      refine thn_nrm (_hK_15 _ _ ?_)
      clear _hK_15
      refine W_cond rfl (fun _h19 => ?_) (fun _h19 => ?_)
      · have _kb_16 := _h19
        have _h19 := bt_d _h19
        obtain ⟨kt, ta, tb, rfl⟩ := hok.two (by omega)
        have hla : l = ta.flat ++ tb.flat ++ [kt] := hl
        have hn2 := len_2 hla
        refine W_seq fun _K_17 _hK_17 => ?_
        refine W_region ?_
        refine WL_step rfl rfl (r_move rfl) ?_
        refine WL_step rfl rfl (r_move rfl) ?_
        refine WL_s rfl rfl ?_
        have _f_18 := ((_h_l.ch0 _cw_4).ch _cw_5 (fun i hi => by have _h1 := List.mem_singleton.1 hi; omega))
        refine (s_cut (ys := (l.take ((((l.length : Nat) : Int) - 1).toNat))) 0 ((((l.length : Nat) : Int) - 1).toNat) _f_18 Token.len el27 sz57 rfl rfl ⟨_, _, rfl, by omega⟩ (by omega) (by omega) rfl fun _v23 _q23 _bb23 _ln23 => ?_)
        obtain ⟨_A23, _C23, _e23⟩ := _q23.val
        subst _e23
        have _l23 := _q23.len
        refine WL_s rfl rfl ?_
        refine Step.call (r_call (xs := [.tmp 23]) fk56 rfl) (c_spec_l8Start _q23 ta.flat tb hok.2.2 (cut_ab hla (by omega))) fun _v24 _w_19 _q24 => ?_
        obtain ⟨rfl, _cw_19⟩ := _q24
        have _cw_19z := _cw_19.size
        have E := E.trans _cw_19
        refine WL_step rfl rfl (r_assign rfl) ?_
        refine WL_nil ?_
        refine thn_nrm (_hK_17 _ _ ?_)
        clear _hK_17
        refine W_seq fun _K_20 _hK_20 => ?_
        refine W_region ?_
        refine WL_step rfl rfl (r_move rfl) ?_
        refine WL_step rfl rfl (r_move rfl) ?_
        refine WL_s rfl rfl ?_
        have _f_21 := (_f_18.ch0 _cw_19)
        refine (s_cut (ys := (l.take ta.flat.length)) 0 ta.flat.length _f_21 Token.len el27 sz57 rfl rfl ⟨_, _, rfl, by omega⟩ (by omega) (by omega) rfl fun _v27 _q27 _bb27 _ln27 => ?_)
        obtain ⟨_A27, _C27, _e27⟩ := _q27.val
        subst _e27
        have _l27 := _q27.len
        refine WL_s rfl rfl ?_
        refine Step.call (r_call (xs := [.tmp 27]) fk53 rfl) (ih _q27 ta hok.2.1 (cut_a hla (by omega)) (by simp only [List.length_take, List.length_drop]; omega)) fun _v28 _w_22 _q28 => ?_
        obtain ⟨rfl, _cw_22⟩ := _q28
        have _cw_22z := _cw_22.size
        have E := E.trans _cw_22
        refine WL_step rfl rfl (r_move rfl) ?_
        refine WL_split (d := 29) rfl (fun _h29 => ?_) (fun _h29 => ?_)
        · have _kb_23 := _h29
          refine WL_step rfl rfl (r_move rfl) ?_
          refine WL_step rfl rfl (r_move rfl) ?_
          refine WL_step rfl rfl (r_move rfl) ?_
          refine WL_s rfl rfl ?_
          have _f_24 := (_f_21.ch0 _cw_22)
          refine (s_cut (ys := ((l.drop ta.flat.length).take ((((l.length : Nat) : Int) - 1).toNat - ta.flat.length))) ta.flat.length ((((l.length : Nat) : Int) - 1).toNat) _f_24 Token.len el27 sz57 rfl ⟨_, _, rfl, by omega⟩ ⟨_, _, rfl, by omega⟩ (by omega) (by omega) rfl fun _v33 _q33 _bb33 _ln33 => ?_)
          obtain ⟨_A33, _C33, _e33⟩ := _q33.val
          subst _e33
          have _l33 := _q33.len
          refine WL_s rfl rfl ?_
          refine Step.call (r_call (xs := [.tmp 33]) fk53 rfl) (ih _q33 tb hok.2.2 (cut_b hla (by omega) (by omega)) (by simp only [List.length_take, List.length_drop]; omega)) fun _v34 _w_25 _q34 => ?_
          obtain ⟨rfl, _cw_25⟩ := _q34
          have _cw_25z := _cw_25.size
          have E := E.trans _cw_25
          refine WL_step rfl rfl (r_pickT rfl rfl) ?_
          refine WL_step rfl rfl (r_assign rfl) ?_
          refine WL_nil ?_
          refine thn_nrm (_hK_20 _ _ ?_)
          clear _hK_20
          refine W_ret (inB_ret (thn_ret ?_))
          clear _hK_7
          exact ret_intro [_] ⟨rfl, trivial⟩ ⟨congrArg Value.bool (by first | exact null26 hok (by omega) | exact null0 hok (by omega) | exact null4f hok (by omega) rfl _h29 | exact null4t hok (by omega) rfl rfl _h29 | exact null5t hok (by omega) rfl _h46 | exact null5f hok (by omega) rfl rfl _h46 | exact null7t hok (by omega) (by omega) | exact null7f hok (by omega) rfl (by omega)), E⟩
        · have _kb_23 := _h29
          refine WL_skip rfl rfl ?_
          refine WL_skip rfl rfl ?_
          refine WL_skip rfl rfl ?_
          refine WL_skip rfl rfl ?_
          refine WL_skip rfl rfl ?_
          refine WL_step rfl rfl (r_pickF rfl rfl) ?_
          refine WL_step rfl rfl (r_assign rfl) ?_
          refine WL_nil ?_
          refine thn_nrm (_hK_20 _ _ ?_)
          clear _hK_20
          refine W_ret (inB_ret (thn_ret ?_))
          clear _hK_7
          exact ret_intro [_] ⟨rfl, trivial⟩ ⟨congrArg Value.bool (by first | exact null26 hok (by omega) | exact null0 hok (by omega) | exact null4f hok (by omega) rfl _h29 | exact null4t hok (by omega) rfl rfl _h29 | exact null5t hok (by omega) rfl _h46 | exact null5f hok (by omega) rfl rfl _h46 | exact null7t hok (by omega) (by omega) | exact null7f hok (by omega) rfl (by omega)), E⟩
      · have _kb_16 := _h19
        have _h19 := bf_d _h19
        refine W_seq fun _K_26 _hK_26 => ?_
        refine W_region ?_
        refine WL_step rfl rfl (r_eql rfl rfl) ?_
        refine WL_step rfl rfl (r_assign rfl) ?_
        refine WL_nil ?_
        refine thn_nrm (_hK_26 _ _ ?_)
        clear _hK_26
        refine W_cond rfl (fun _h36 => ?_) (fun _h36 => ?_)
        · have _kb_27 := _h36
          have _h36 := bt_d _h36
          obtain ⟨kt, ta, tb, rfl⟩ := hok.two (by omega)
          have hla : l = ta.flat ++ tb.flat ++ [kt] := hl
          have hn2 := len_2 hla
          refine W_seq fun _K_28 _hK_28 => ?_
          refine W_region ?_
          refine WL_step rfl rfl (r_move rfl) ?_
          refine WL_step rfl rfl (r_move rfl) ?_
          refine WL_s rfl rfl ?_
          have _f_29 := ((_h_l.ch0 _cw_4).ch _cw_5 (fun i hi => by have _h1 := List.mem_singleton.1 hi; omega))
          refine (s_cut (ys := (l.take ((((l.length : Nat) : Int) - 1).toNat))) 0 ((((l.length : Nat) : Int) - 1).toNat) _f_29 Token.len el27 sz57 rfl rfl ⟨_, _, rfl, by omega⟩ (by omega) (by omega) rfl fun _v40 _q40 _bb40 _ln40 => ?_)
          obtain ⟨_A40, _C40, _e40⟩ := _q40.val
          subst _e40
          have _l40 := _q40.len
          refine WL_s rfl rfl ?_
          refine Step.call (r_call (xs := [.tmp 40]) fk56 rfl) (c_spec_l8Start _q40 ta.flat tb hok.2.2 (cut_ab hla (by omega))) fun _v41 _w_30 _q41 => ?_
          obtain ⟨rfl, _cw_30⟩ := _q41
          have _cw_30z := _cw_30.size
          have E := E.trans _cw_30
          refine WL_step rfl rfl (r_assign rfl) ?_
          refine WL_nil ?_
          refine thn_nrm (_hK_28 _ _ ?_)
          clear _hK_28
          refine W_seq fun _K_31 _hK_31 => ?_
          refine W_region ?_
          refine WL_step rfl rfl (r_move rfl) ?_
          refine WL_step rfl rfl (r_move rfl) ?_
          refine WL_s rfl rfl ?_
          have _f_32 := (_f_29.ch0 _cw_30)
          refine (s_cut (ys := (l.take ta.flat.length)) 0 ta.flat.length _f_32 Token.len el27 sz57 rfl rfl ⟨_, _, rfl, by omega⟩ (by omega) (by omega) rfl fun _v44 _q44 _bb44 _ln44 => ?_)
          obtain ⟨_A44, _C44, _e44⟩ := _q44.val
          subst _e44
          have _l44 := _q44.len
          refine WL_s rfl rfl ?_
          refine Step.call (r_call (xs := [.tmp 44]) fk53 rfl) (ih _q44 ta hok.2.1 (cut_a hla (by omega)) (by simp only [List.length_take, List.length_drop]; omega)) fun _v45 _w_33 _q45 => ?_
          obtain ⟨rfl, _cw_33⟩ := _q45
          have _cw_33z := _cw_33.size
          have E := E.trans _cw_33
          refine WL_step rfl rfl (r_move rfl) ?_
          refine WL_split (d := 46) rfl (fun _h46 => ?_) (fun _h46 => ?_)
          · have _kb_34 := _h46
            refine WL_skip rfl rfl ?_
            refine WL_skip rfl rfl ?_
            refine WL_skip rfl rfl ?_
            refine WL_skip rfl rfl ?_
            refine WL_skip rfl rfl ?_
            refine WL_step rfl rfl (r_pickT rfl rfl) ?_
            refine WL_step rfl rfl (r_assign rfl) ?_
            refine WL_nil ?_
            refine thn_nrm (_hK_31 _ _ ?_)
            clear _hK_31
            refine W_ret (inB_ret (thn_ret ?_))
            clear _hK_7
            exact ret_intro [_] ⟨rfl, trivial⟩ ⟨congrArg Value.bool (by first | exact null26 hok (by omega) | exact null0 hok (by omega) | exact null4f hok (by omega) rfl _h29 | exact null4t hok (by omega) rfl rfl _h29 | exact null5t hok (by omega) rfl _h46 | exact null5f hok (by omega) rfl rfl _h46 | exact null7t hok (by omega) (by omega) | exact null7f hok (by omega) rfl (by omega)), E⟩
          · have _kb_34 := _h46
            refine WL_step rfl rfl (r_move rfl) ?_
            refine WL_step rfl rfl (r_move rfl) ?_
            refine WL_step rfl rfl (r_move rfl) ?_
            refine WL_s rfl rfl ?_
            have _f_35 := (_f_32.ch0 _cw_33)
            refine (s_cut (ys := ((l.drop ta.flat.length).take ((((l.length : Nat) : Int) - 1).toNat - ta.flat.length))) ta.flat.length ((((l.length : Nat) : Int) - 1).toNat) _f_35 Token.len el27 sz57 rfl ⟨_, _, rfl, by omega⟩ ⟨_, _, rfl, by omega⟩ (by omega) (by omega) rfl fun _v50 _q50 _bb50 _ln50 => ?_)
            obtain ⟨_A50, _C50, _e50⟩ := _q50.val
            subst _e50
            have _l50 := _q50.len
            refine WL_s rfl rfl ?_
            refine Step.call (r_call (xs := [.tmp 50]) fk53 rfl) (ih _q50 tb hok.2.2 (cut_b hla (by omega) (by omega)) (by simp only [List.length_take, List.length_drop]; omega)) fun _v51 _w_36 _q51 => ?_
            obtain ⟨rfl, _cw_36⟩ := _q51
            have _cw_36z := _cw_36.size
            have E := E.trans _cw_36
            refine WL_step rfl rfl (r_pickF rfl rfl) ?_
            refine WL_step rfl rfl (r_assign rfl) ?_
            refine WL_nil ?_
            refine thn_nrm (_hK_31 _ _ ?_)
            clear _hK_31
            refine W_ret (inB_ret (thn_ret ?_))
            clear _hK_7
            exact ret_intro [_] ⟨rfl, trivial⟩ ⟨congrArg Value.bool (by first | exact null26 hok (by omega) | exact null0 hok (by omega) | exact null4f hok (by omega) rfl _h29 | exact null4t hok (by omega) rfl rfl _h29 | exact null5t hok (by omega) rfl _h46 | exact null5f hok (by omega) rfl rfl _h46 | exact null7t hok (by omega) (by omega) | exact null7f hok (by omega) rfl (by omega)), E⟩
        · have _kb_27 := _h36
          have _h36 := bf_d _h36
          refine W_seq fun _K_37 _hK_37 => ?_
          refine W_region ?_
          refine WL_step rfl rfl (r_eql rfl rfl) ?_
          refine WL_step rfl rfl (r_assign rfl) ?_
          refine WL_nil ?_
          refine thn_nrm (_hK_37 _ _ ?_)
          clear _hK_37
          refine W_cond rfl (fun _h53 => ?_) (fun _h53 => ?_)
          · have _kb_38 := _h53
            have _h53 := bt_d _h53
            obtain ⟨kt, ta, rfl⟩ := hok.one (by omega)
            have hla : l = ta.flat ++ [kt] := hl
            have hn2 := len_1 hla
            refine W_seq fun _K_39 _hK_39 => ?_
            refine W_region ?_
            refine WL_step rfl rfl (r_fieldAddr fa57_2 rfl) ?_
            refine WL_step rfl rfl (r_loadAt _m_6.at_ agg3 rfl rfl) ?_
            refine WL_step rfl rfl (r_eql rfl rfl) ?_
            refine WL_step rfl rfl (r_move rfl) ?_
            refine WL_split (d := 58) rfl (fun _h58 => ?_) (fun _h58 => ?_)
            · have _kb_40 := _h58
              have _h58 := bt_d _h58
              refine WL_skip rfl rfl ?_
              refine WL_skip rfl rfl ?_
              refine WL_skip rfl rfl ?_
              refine WL_skip rfl rfl ?_
              refine WL_step rfl rfl (r_pickT rfl rfl) ?_
              refine WL_step rfl rfl (r_assign rfl) ?_
              refine WL_nil ?_
              refine thn_nrm (_hK_39 _ _ ?_)
              clear _hK_39
              refine W_ret (inB_ret (thn_ret ?_))
              clear _hK_7
              exact ret_intro [_] ⟨rfl, trivial⟩ ⟨congrArg Value.bool (by first | exact null26 hok (by omega) | exact null0 hok (by omega) | exact null4f hok (by omega) rfl _h29 | exact null4t hok (by omega) rfl rfl _h29 | exact null5t hok (by omega) rfl _h46 | exact null5f hok (by omega) rfl rfl _h46 | exact null7t hok (by omega) (by omega) | exact null7f hok (by omega) rfl (by omega)), E⟩
            · have _kb_40 := _h58
              have _h58 := bf_d _h58
              refine WL_step rfl rfl (r_move rfl) ?_
              refine WL_step rfl rfl (r_move rfl) ?_
              refine WL_s rfl rfl ?_
              have _f_41 := ((_h_l.ch0 _cw_4).ch _cw_5 (fun i hi => by have _h1 := List.mem_singleton.1 hi; omega))
              refine (s_cut (ys := (l.take ((((l.length : Nat) : Int) - 1).toNat))) 0 ((((l.length : Nat) : Int) - 1).toNat) _f_41 Token.len el27 sz57 rfl rfl ⟨_, _, rfl, by omega⟩ (by omega) (by omega) rfl fun _v61 _q61 _bb61 _ln61 => ?_)
              obtain ⟨_A61, _C61, _e61⟩ := _q61.val
              subst _e61
              have _l61 := _q61.len
              refine WL_s rfl rfl ?_
              refine Step.call (r_call (xs := [.tmp 61]) fk53 rfl) (ih _q61 ta hok.2 (cut_1 hla (by omega)) (by simp only [List.length_take, List.length_drop]; omega)) fun _v62 _w_42 _q62 => ?_
              obtain ⟨rfl, _cw_42⟩ := _q62
              have _cw_42z := _cw_42.size
              have E := E.trans _cw_42
              refine WL_step rfl rfl (r_pickF rfl rfl) ?_
              refine WL_step rfl rfl (r_assign rfl) ?_
              refine WL_nil ?_
              refine thn_nrm (_hK_39 _ _ ?_)
              clear _hK_39
              refine W_ret (inB_ret (thn_ret ?_))
              clear _hK_7
              exact ret_intro [_] ⟨rfl, trivial⟩ ⟨congrArg Value.bool (by first | exact null26 hok (by omega) | exact null0 hok (by omega) | exact null4f hok (by omega) rfl _h29 | exact null4t hok (by omega) rfl rfl _h29 | exact null5t hok (by omega) rfl _h46 | exact null5f hok (by omega) rfl rfl _h46 | exact null7t hok (by omega) (by omega) | exact null7f hok (by omega) rfl (by omega)), E⟩
          · have _kb_38 := _h53
            have _h53 := bf_d _h53
            refine W_skip ?_
            refine inB_nrm ?_
            refine thn_nrm (_hK_7 _ _ ?_)
            clear _hK_7
            refine W_seq fun _K_43 _hK_43 => ?_
            refine W_region ?_
            refine WL_step rfl rfl (r_assign rfl) ?_
            refine WL_nil ?_
            refine thn_nrm (_hK_43 _ _ ?_)
            clear _hK_43
            refine W_ret ?_
            exact ret_intro [_] ⟨rfl, trivial⟩ ⟨congrArg Value.bool (by first | exact null26 hok (by omega) | exact null0 hok (by omega) | exact null4f hok (by omega) rfl _h29 | exact null4t hok (by omega) rfl rfl _h29 | exact null5t hok (by omega) rfl _h46 | exact null5f hok (by omega) rfl rfl _h46 | exact null7t hok (by omega) (by omega) | exact null7f hok (by omega) rfl (by omega)), E⟩
theorem c_spec_l9Null {w : World} {_B_l : Nat} {_v_l : Value} {l : List Token} (_h_l : Ls Token.cs 4 w _B_l _v_l l) (t : Tr) (hok : Okd t) (hl : l = t.flat) :
    Ctr Try.prog 53 #[_v_l] w (fun v w' => v = .bool (nullT t) ∧ Ch [] w w') := c_spec_l9Null_n _ _h_l t hok hl (Nat.lt_succ_self _)

/-- spec.Nullable -/
theorem c_spec_Nullable {w : World} {_B_e : Nat} {_v_e : Value} {e : List Token} (_h_e : Ls Token.cs 4 w _B_e _v_e e) :
    Ctr Try.prog 21 #[(.agg #[_v_e])] w (fun v w' => v = .bool (nullE e) ∧ Ch [] w w') := by
  obtain ⟨_A_e, _C_e, _e1_e⟩ := _h_e.val
  subst _e1_e
  have _l_e := _h_e.len
  have _h_e := _h_e.here (by decide)
  have E := Ch.refl [] w
  refine Ctr_of_W (N := 10) (vs0 := [(.agg #[(.slice _A_e e.length _C_e)])]) Try.func21 rfl rfl rfl ?_
  refine W_seq fun _K_1 _hK_1 => ?_
  refine W_region ?_
  refine WL_s rfl rfl ?_
  refine s_box rfl fun _b1 _w_2 _m1 _cw_2 _e1 => ?_
  have _cw_2z := _cw_2.size
  have E := E.trans _cw_2
  have _z1 := _m1.lt
  replace _m1 : Blk _w_2 _b1 29 [(.slice _A_e e.length _C_e)] := _m1
  refine WL_step rfl rfl (r_assign rfl) ?_
  refine WL_nil ?_
  refine thn_nrm (_hK_1 _ _ ?_)
  clear _hK_1
  refine W_seq fun _K_3 _hK_3 => ?_
  refine W_region ?_
  refine WL_step rfl rfl (r_loadAtA0 _m1.at_ agg29 sz29 rfl) ?_
  refine WL_s rfl rfl ?_
  have _f_4 := (_h_e.ch0 _cw_2)
  refine Step.call (r_call (xs := [.tmp 3]) fk15 rfl) (c_spec_IsExpr _f_4 ) fun _v4 _w_5 _q4 => ?_
  obtain ⟨rfl, _cw_5⟩ := _q4
  have _cw_5z := _cw_5.size
  have E := E.trans _cw_5
  refine WL_step rfl rfl (r_move rfl) ?_
  refine WL_split (d := 5) rfl (fun _h5 => ?_) (fun _h5 => ?_)
  · have _kb_6 := _h5
    obtain ⟨_t5, _e5, _o5, f5⟩ := isE_y _h5
    refine WL_step rfl rfl (r_fieldAddr fa29_0 rfl) ?_
    have _f_7 := (_m1.ch0 _cw_5)
    refine WL_step rfl rfl (r_loadAt _f_7.at_ agg27 rfl rfl) ?_
    refine WL_s rfl rfl ?_
    have _f_8 := (_f_4.ch0 _cw_5)
    refine Step.call (r_call (xs := [.tmp 7]) fk53 rfl) (c_spec_l9Null _f_8 _t5 _o5 f5) fun _v8 _w_9 _q8 => ?_
    obtain ⟨rfl, _cw_9⟩ := _q8
    have _cw_9z := _cw_9.size
    have E := E.trans _cw_9
    refine WL_step rfl rfl (r_pickT rfl rfl) ?_
    refine WL_step rfl rfl (r_assign rfl) ?_
    refine WL_nil ?_
    refine thn_nrm (_hK_3 _ _ ?_)
    clear _hK_3
    refine W_ret ?_
    exact ret_intro [_] ⟨rfl, trivial⟩ ⟨congrArg Value.bool (by first | exact nullE_y _e5 | exact nullE_n (isE_n (by simpa using _h5))), E⟩
  · have _kb_6 := _h5
    refine WL_skip rfl rfl ?_
    refine WL_skip rfl rfl ?_
    refine WL_skip rfl rfl ?_
    refine WL_step rfl rfl (r_pickF rfl rfl) ?_
    refine WL_step rfl rfl (r_assign rfl) ?_
    refine WL_nil ?_
    refine thn_nrm (_hK_3 _ _ ?_)
    clear _hK_3
    refine W_ret ?_
    exact ret_intro [_] ⟨rfl, trivial⟩ ⟨congrArg Value.bool (by first | exact nullE_y _e5 | exact nullE_n (isE_n (by simpa using _h5))), E⟩

/-- laws.FnExactNullable -/
theorem c_laws_FnExactNullable {w : World} {_B_e : Nat} {_v_e : Value} {e : List Token} (_h_e : Ls Token.cs 4 w _B_e _v_e e) :
    Ctr Try.prog 5 #[(.agg #[_v_e])] w (fun v w' => v = .bool (true) ∧ Ch [] w w') := by
  obtain ⟨_A_e, _C_e, _e1_e⟩ := _h_e.val
  subst _e1_e
  have _l_e := _h_e.len
  have _h_e := _h_e.here (by decide)
  have E := Ch.refl [] w
  refine Ctr_of_W (N := 27) (vs0 := [(.agg #[(.slice _A_e e.length _C_e)])]) Try.func5 rfl rfl rfl ?_
  refine W_seq fun _K_1 _hK_1 => ?_
  refine W_region ?_
  refine WL_s rfl rfl ?_
  refine s_box rfl fun _b1 _w_2 _m1 _cw_2 _e1 => ?_
  have _cw_2z := _cw_2.size
  have E := E.trans _cw_2
  have _z1 := _m1.lt
  replace _m1 : Blk _w_2 _b1 24 [(.slice _A_e e.length _C_e)] := _m1
  refine WL_step rfl rfl (r_assign rfl) ?_
  refine WL_nil ?_
  refine thn_nrm (_hK_1 _ _ ?_)
  clear _hK_1
  refine W_seq fun _K_3 _hK_3 => ?_
  refine W_region ?_
  refine WL_step rfl rfl (r_assign rfl) ?_
  refine WL_nil ?_
  refine thn_nrm (_hK_3 _ _ ?_)
  clear _hK_3
  refine W_seq fun _K_4 _hK_4 => ?_
  refine W_region ?_
  refine WL_step rfl rfl (r_loadAtA0 _m1.at_ agg24 sz24 rfl) ?_
  refine WL_step rfl rfl (r_move rfl) ?_
  refine WL_s rfl rfl ?_
  have _f_5 := (_h_e.ch0 _cw_2)
  refine Step.call (r_call (xs := [.tmp 7, .tmp 8]) fk14 rfl) (c_laws_szExpr _f_5 _ (by omega) (by omega)) fun _v9 _w_6 _q9 => ?_
  obtain ⟨rfl, _cw_6⟩ := _q9
  have _cw_6z := _cw_6.size
  have E := E.trans _cw_6
  refine WL_step rfl rfl (r_assign rfl) ?_
  refine WL_nil ?_
  refine thn_nrm (_hK_4 _ _ ?_)
  clear _hK_4
  refine W_seq fun _K_7 _hK_7 => ?_
  refine W_seq fun _K_8 _hK_8 => ?_
  refine W_region ?_
  refine WL_step rfl rfl (r_move rfl) ?_
  refine WL_step rfl rfl (r_lss rfl rfl) ?_
  refine WL_nil ?_
  refine thn_nrm (_hK_8 _ _ ?_)
  clear _hK_8
  refine W_cond rfl (fun _h11 => ?_) (fun _h11 => ?_)
  · have _kb_9 := _h11
    have _h11 := bt_d _h11
    refine W_seq fun _K_10 _hK_10 => ?_
    refine W_region ?_
    refine WL_step rfl rfl (r_assign rfl) ?_
    refine WL_nil ?_
    refine thn_nrm (_hK_10 _ _ ?_)
    clear _hK_10
    refine W_ret (thn_ret ?_)
    clear _hK_7
    exact ret_intro [_] ⟨rfl, trivial⟩ ⟨congrArg Value.bool (by first | rfl | (exfalso; omega) | (exfalso; revert _h11; simp; done) | (exfalso; revert _h11; simp; omega)), E⟩
  · have _kb_9 := _h11
    have _h11 := bf_d _h11
    refine W_skip ?_
    refine thn_nrm (_hK_7 _ _ ?_)
    clear _hK_7
    refine W_seq fun _K_11 _hK_11 => ?_
    refine W_region ?_
    have _f_12 := (_m1.ch0 _cw_6)
    refine WL_step rfl rfl (r_loadAtA0 _f_12.at_ agg24 sz24 rfl) ?_
    refine WL_s rfl rfl ?_
    have _f_13 := (_f_5.ch0 _cw_6)
    refine Step.call (r_call (xs := [.tmp 12]) fk16 rfl) (c_laws_toExpr _f_13 (by omega)) fun _v13 _w_14 _q13 => ?_
    obtain ⟨_u13, rfl, _q13, _lo13, _cw_14⟩ := _q13
    have _cw_14z := _cw_14.size
    have E := E.trans _cw_14
    obtain ⟨_Au13, _Cu13, _eu13⟩ := _q13.val
    subst _eu13
    have _lu13 := _q13.len
    have _hiu13 := _q13.lt
    refine WL_s rfl rfl ?_
    refine Step.call (r_call (xs := [.tmp 13]) fk21 rfl) (c_spec_Nullable _q13.ls ) fun _v14 _w_15 _q14 => ?_
    obtain ⟨rfl, _cw_15⟩ := _q14
    have _cw_15z := _cw_15.size
    have E := E.trans _cw_15
    refine WL_step rfl rfl (r_assign rfl) ?_
    refine WL_nil ?_
    refine thn_nrm (_hK_11 _ _ ?_)
    clear _hK_11
    refine W_seq fun _K_16 _hK_16 => ?_
    refine W_region ?_
    have _f_17 := ((_f_12.ch0 _cw_14).ch0 _cw_15)
    refine WL_step rfl rfl (r_loadAtA0 _f_17.at_ agg24 sz24 rfl) ?_
    refine WL_s rfl rfl ?_
    have _f_18 := ((_f_13.ch0 _cw_14).ch0 _cw_15)
    refine Step.call (r_call (xs := [.tmp 15]) fk16 rfl) (c_laws_toExpr _f_18 (by omega)) fun _v16 _w_19 _q16 => ?_
    obtain ⟨_u16, rfl, _q16, _lo16, _cw_19⟩ := _q16
    have _cw_19z := _cw_19.size
    have E := E.trans _cw_19
    obtain ⟨_Au16, _Cu16, _eu16⟩ := _q16.val
    subst _eu16
    have _lu16 := _q16.len
    have _hiu16 := _q16.lt
    refine WL_s rfl rfl ?_
    refine s_alloc zr29 fun _b5 _w_20 _m5 _cw_20 _e5 => ?_
    have _cw_20z := _cw_20.size
    have E := E.trans _cw_20
    have _z5 := _m5.lt
    replace _m5 : Blk _w_20 _b5 29 [(.slice none 0 0)] := _m5
    refine WL_s rfl rfl ?_
    refine s_storeA (off := 0) 1 _m5 sz29 rfl (us := [(.slice _Au16 (e).length _Cu16)]) rfl rfl rfl rfl fun _w_21 _m_22 _cw_21 => ?_
    have _cw_21z := _cw_21.size
    have E := E.step _cw_21 (fun i hi => .inl (by have _h1 := List.mem_singleton.1 hi; omega))
    replace _m_22 : Blk _w_21 _b5 29 [(.slice _Au16 (e).length _Cu16)] := _m_22
    refine WL_nil ?_
    refine thn_nrm (_hK_16 _ _ ?_)
    clear _hK_16
    refine W_seq fun _K_23 _hK_23 => ?_
    refine W_region ?_
    refine WL_step rfl rfl (r_loadAtA0 _m_22.at_ agg29 sz29 rfl) ?_
    refine WL_s rfl rfl ?_
    have _f_24 := ((_q16.ch0 _cw_20).ch _cw_21 (fun g hg hm => by have _h0 := List.mem_singleton.1 hm; have _h2 := _lo16 _ hg; have _h3 := _hiu16 _ hg; omega))
    refine Step.call (r_call (xs := [.tmp 17]) fk22 rfl) (c_impl_Nullable _f_24.ls (by omega)) fun _v18 _w_25 _q18 => ?_
    obtain ⟨rfl, _cw_25⟩ := _q18
    have _cw_25z := _cw_25.size
    have E := E.trans _cw_25
    refine WL_step rfl rfl (r_assign rfl) ?_
    refine WL_nil ?_
    refine thn_nrm (_hK_23 _ _ ?_)
    clear _hK_23
    refine W_seq fun _K_26 _hK_26 => ?_
    refine W_seq fun _K_27 _hK_27 => ?_
    refine W_region ?_
    refine WL_step rfl rfl (r_move rfl) ?_
    refine WL_step rfl rfl (r_move rfl) ?_
    refine WL_step rfl rfl (r_neqB un4 rfl rfl) ?_
    refine WL_nil ?_
    refine thn_nrm (_hK_27 _ _ ?_)
    clear _hK_27
    refine W_cond rfl (fun _h21 => ?_) (fun _h21 => ?_)
    · have _kb_28 := _h21
      have _h21 := bf_e (bt_n _h21)
      refine W_seq fun _K_29 _hK_29 => ?_
      refine W_region ?_
      refine WL_step rfl rfl (r_assign rfl) ?_
      refine WL_nil ?_
      refine thn_nrm (_hK_29 _ _ ?_)
      clear _hK_29
      refine W_ret (thn_ret ?_)
      clear _hK_26
      exact ret_intro [_] ⟨rfl, trivial⟩ ⟨congrArg Value.bool (by first | rfl | (exfalso; omega) | (exfalso; revert _h21; simp; done) | (exfalso; revert _h21; simp; omega)), E⟩
    · have _kb_28 := _h21
      have _h21 := bt_e (bf_n _h21)
      refine W_skip ?_
      refine thn_nrm (_hK_26 _ _ ?_)
      clear _hK_26
      refine W_seq fun _K_30 _hK_30 => ?_
      refine W_seq fun _K_31 _hK_31 => ?_
      refine W_drawC [] 5 mixed rfl fun _w_32 _cw_32 => ?_
      have _cw_32z := _cw_32.size
      have E := E.trans _cw_32
      have _f_33 := ((_m_22.ch0 _cw_25).ch0 _cw_32)
      refine DR_s 0 rfl (by kernel_rfl) rfl rfl (t_loadAtA0 _f_33.at_ (fun i hi => by first | exact absurd hi (List.not_mem_nil) | (have _h1 := List.mem_singleton.1 hi; omega)) agg29 sz29 rfl ?_)
      have _f_34 := (((((_f_17.ch0 _cw_19).ch0 _cw_20).ch _cw_21 (fun hm => by have _h1 := List.mem_singleton.1 hm; omega)).ch0 _cw_25).ch0 _cw_32)
      refine DR_s 1 rfl (by kernel_rfl) rfl rfl (t_loadAtA0 _f_34.at_ (fun i hi => by first | exact absurd hi (List.not_mem_nil) | (have _h1 := List.mem_singleton.1 hi; omega)) agg24 sz24 rfl ?_)
      refine DR_one 2 (by kernel_rfl) ?_
      refine DO_s rfl rfl rfl ?_
      have _f_35 := (((((_f_18.ch0 _cw_19).ch0 _cw_20).ch _cw_21 (fun i hi => by have _h1 := List.mem_singleton.1 hi; omega)).ch0 _cw_25).ch0 _cw_32)
      refine Step.call (r_call (xs := [.tmp 23]) fk16 rfl) (c_laws_toExpr _f_35 (by omega)) fun _v24 _w_36 _q24 => ?_
      obtain ⟨_u24, rfl, _q24, _lo24, _cw_36⟩ := _q24
      have _cw_36z := _cw_36.size
      have E := E.trans _cw_36
      obtain ⟨_Au24, _Cu24, _eu24⟩ := _q24.val
      subst _eu24
      have _lu24 := _q24.len
      have _hiu24 := _q24.lt
      have _S_37 : Ch [] _w_32 _w_36 := ((Ch.refl _ _).trans _cw_36.of_nil)
      refine ⟨_S_37, ?_⟩
      refine DR_one 3 (by kernel_rfl) ?_
      refine DO_s rfl rfl rfl ?_
      have _f_38 := (((_f_24.ch0 _cw_25).ch0 _cw_32).ch0 _cw_36)
      refine Step.call (r_call (xs := [.tmp 22, .tmp 24]) fk18 rfl) (c_laws_eqExpr _f_38.ls _q24.ls ) fun _v25 _w_39 _q25 => ?_
      obtain ⟨rfl, _cw_39⟩ := _q25
      have _cw_39z := _cw_39.size
      have E := E.trans _cw_39
      have _S_40 : Ch [] _w_32 _w_39 := (_S_37.trans _cw_39.of_nil)
      refine ⟨_S_40, ?_⟩
      refine DR_s 4 rfl (by kernel_rfl) rfl rfl (t_v (fun _ => (r_not rfl)) ?_)
      refine DR_done (by kernel_rfl) ?_
      refine thn_nrm (_hK_31 _ _ ?_)
      clear _hK_31
      refine W_cond rfl (fun _h26 => ?_) (fun _h26 => ?_)
      · have _kb_41 := _h26
        have _h26 := bf_d (bt_n _h26)
        refine W_seq fun _K_42 _hK_42 => ?_
        refine W_region ?_
        refine WL_step rfl rfl (r_assign rfl) ?_
        refine WL_nil ?_
        refine thn_nrm (_hK_42 _ _ ?_)
        clear _hK_42
        refine W_ret (thn_ret ?_)
        clear _hK_30
        exact ret_intro [_] ⟨rfl, trivial⟩ ⟨congrArg Value.bool (by first | rfl | (exfalso; omega) | (exfalso; revert _h26; simp; done) | (exfalso; revert _h26; simp; omega)), E⟩
      · have _kb_41 := _h26
        have _h26 := bt_d (bf_n _h26)
        refine W_skip ?_
        refine thn_nrm (_hK_30 _ _ ?_)
        clear _hK_30
        refine W_seq fun _K_43 _hK_43 => ?_
        refine W_region ?_
        refine WL_step rfl rfl (r_assign rfl) ?_
        refine WL_nil ?_
        refine thn_nrm (_hK_43 _ _ ?_)
        clear _hK_43
        refine W_ret ?_
        exact ret_intro [_] ⟨rfl, trivial⟩ ⟨congrArg Value.bool (by first | rfl | (exfalso; omega) | (exfalso; revert _h26; simp; done) | (exfalso; revert _h26; simp; omega)), E⟩

end Go.Proofs.Ytjjmjmbihonicaa
