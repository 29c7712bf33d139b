/- Walks of functions that FnExactCountRuns reaches: what each returns, and that it leaves the memory that was there alone. -/
import Derived.Test.YtgpmbjchmphhaaaKF
import Derived.Test.YtgpmbjchmphhaaaKG
import Derived.Test.YtgpmbjchmphhaaaKH
import Derived.Test.YtgpmbjchmphhaaaKI
import Derived.Test.YtgpmbjchmphhaaaKJ
import Derived.Test.YtgpmbjchmphhaaaKM
import Derived.Test.YtgpmbjchmphhaaaKN
import Derived.Test.YtgpmbjchmphhaaaKO
import Derived.Test.YtgpmbjchmphhaaaKP
import Derived.Test.YtgpmbjchmphhaaaKQ
import Derived.Test.YtgpmbjchmphhaaaKR
import Derived.Test.YtgpmbjchmphhaaaKS
import Derived.Test.YtgpmbjchmphhaaaKT
import Derived.Test.YtgpmbjchmphhaaaKU
import Derived.Test.YtgpmbjchmphhaaaKV
import Derived.Test.YtgpmbjchmphhaaaKX
import Derived.Test.YtgpmbjchmphhaaaKY
import Derived.Test.YtgpmbjchmphhaaaKZ
import Derived.Test.YtgpmbjchmphhaaaJA
import Derived.Test.YtgpmbjchmphhaaaJB
import Derived.Test.YtgpmbjchmphhaaaJC
import Derived.Test.YtgpmbjchmphhaaaWExactUsefulStates
import Derived.Test.YtgpmbjchmphhaaaWExactTestClosure
import Derived.Test.YtgpmbjchmphhaaaProg
namespace Go.Proofs.Ytgpmbjchmphhaaa
open Go.KLib
set_option maxRecDepth 20000
set_option linter.unusedVariables false
set_option linter.unusedSimpArgs false
namespace TExactCountRuns
theorem agg3 : aggB Try.prog 3 = some false := by kernel_rfl
theorem agg32 : aggB Try.prog 32 = some false := by kernel_rfl
theorem agg37 : aggB Try.prog 37 = some true := by kernel_rfl
theorem agg4 : aggB Try.prog 4 = some false := by kernel_rfl
theorem by3 : bytesB Try.prog 3 = some 8 := by kernel_rfl
theorem el32 : elB Try.prog 32 = some 3 := by kernel_rfl
theorem fa34_0 : faB Try.prog 34 0 = some 0 := by kernel_rfl
theorem fa34_1 : faB Try.prog 34 1 = some 1 := by kernel_rfl
theorem fa34_2 : faB Try.prog 34 2 = some 2 := by kernel_rfl
theorem fa34_3 : faB Try.prog 34 3 = some 3 := by kernel_rfl
theorem fa34_4 : faB Try.prog 34 4 = some 4 := by kernel_rfl
theorem fa37_0 : faB Try.prog 37 0 = some 0 := by kernel_rfl
theorem fa37_1 : faB Try.prog 37 1 = some 1 := by kernel_rfl
theorem fa37_2 : faB Try.prog 37 2 = some 2 := by kernel_rfl
theorem fa37_3 : faB Try.prog 37 3 = some 3 := by kernel_rfl
theorem fa37_4 : faB Try.prog 37 4 = some 4 := by kernel_rfl
theorem fk22 : fnB Try.prog 22 = true := by kernel_rfl
theorem fk25 : fnB Try.prog 25 = true := by kernel_rfl
theorem fk57 : fnB Try.prog 57 = true := by kernel_rfl
theorem fk58 : fnB Try.prog 58 = true := by kernel_rfl
theorem fk59 : fnB Try.prog 59 = true := by kernel_rfl
theorem fk60 : fnB Try.prog 60 = true := by kernel_rfl
theorem fk61 : fnB Try.prog 61 = true := by kernel_rfl
theorem fk62 : fnB Try.prog 62 = true := by kernel_rfl
theorem fk63 : fnB Try.prog 63 = true := by kernel_rfl
theorem fk64 : fnB Try.prog 64 = true := by kernel_rfl
theorem fk65 : fnB Try.prog 65 = true := by kernel_rfl
theorem fk66 : fnB Try.prog 66 = true := by kernel_rfl
theorem fk70 : fnB Try.prog 70 = true := by kernel_rfl
theorem fk97 : fnB Try.prog 97 = true := by kernel_rfl
theorem fk98 : fnB Try.prog 98 = true := by kernel_rfl
theorem fk99 : fnB Try.prog 99 = true := by kernel_rfl
theorem mixed : Try.prog.follows .mixedOrders = true := by kernel_rfl
theorem sz3 : sizeB Try.prog 3 = some 1 := by kernel_rfl
theorem sz32 : sizeB Try.prog 32 = some 1 := by kernel_rfl
theorem sz37 : sizeB Try.prog 37 = some 5 := by kernel_rfl
theorem sz4 : sizeB Try.prog 4 = some 1 := by kernel_rfl
theorem un4 : Try.prog.underlying 4 = some (.bool) := by kernel_rfl
theorem zr3 : zeroB Try.prog 3 = some (.int .i64 0) := by kernel_rfl
theorem zr37 : zeroB Try.prog 37 = some (.agg #[.slice none 0 0, .int .i64 0, .int .i64 0, .slice none 0 0, .bool false]) := by kernel_rfl
end TExactCountRuns
open TExactCountRuns

/-- impl.IsValidPositions$1 -/
theorem c_impl_IsValidPositions_1 {w : World} (s : Int) {b_n t_n : Nat} {n : Int} (_h_n : Blk w b_n t_n [.int .i64 n]) (hn : 0 ≤ n) :
    Ctr Try.prog 98 #[(.int .i64 s), (.pointer (some ⟨b_n, 0, none⟩))] w (fun v w' => v = .bool (tt (inM n s)) ∧ Ch [] w w') := by
  have E := Ch.refl [] w
  refine Ctr_of_W (N := 9) (vs0 := [(.int .i64 s), (.pointer (some ⟨b_n, 0, none⟩))]) Try.func98 rfl rfl rfl ?_
  refine W_seq fun _K_1 _hK_1 => ?_
  refine W_region ?_
  refine WL_step rfl rfl (r_assign rfl) ?_
  refine WL_nil ?_
  refine thn_nrm (_hK_1 _ _ ?_)
  clear _hK_1
  refine W_seq fun _K_2 _hK_2 => ?_
  refine W_region ?_
  refine WL_step rfl rfl (r_move rfl) ?_
  refine WL_step rfl rfl (r_loadAt0 _h_n.at_ agg3 rfl rfl) ?_
  refine WL_step rfl rfl (r_shl (by omega) rfl rfl) ?_
  refine WL_step rfl rfl (r_sub64 rfl rfl) ?_
  refine WL_s rfl rfl ?_
  refine Step.call (r_call (xs := [.tmp 4, .const (Go.Value.int Go.IntKind.i64 0), .tmp 7]) fk70 rfl) (c_impl_within _ _ _ ) fun _v8 _w_3 _q8 => ?_
  obtain ⟨rfl, _cw_3⟩ := _q8
  have _cw_3z := _cw_3.size
  have E := E.trans _cw_3
  refine WL_step rfl rfl (r_assign rfl) ?_
  refine WL_nil ?_
  refine thn_nrm (_hK_2 _ _ ?_)
  clear _hK_2
  refine W_ret ?_
  exact ret_intro [_] ⟨rfl, trivial⟩ ⟨congrArg Value.bool tt_dec, E⟩

/-- impl.IsValidPositions -/
theorem c_impl_IsValidPositions {w : World} {LL_pL _B_pL : Nat} {_v_pL : Value} {pL : List Int} (_h_pL : Ls ics 1 w LL_pL _B_pL _v_pL pL) (pfirst : Int) (plast : Int) {LL_pF _B_pF : Nat} {_v_pF : Value} {pF : List Int} (_h_pF : Ls ics 1 w LL_pF _B_pF _v_pF pF) (pnull : Bool) :
    Ctr Try.prog 62 #[(.agg #[_v_pL, (.int .i64 pfirst), (.int .i64 plast), _v_pF, (.bool pnull)])] w (fun v w' => v = .bool (tt (ValidP pL pfirst plast pF)) ∧ Ch [] w w') := by
  obtain ⟨_A_pL, _C_pL, _e1_pL⟩ := _h_pL.val
  subst _e1_pL
  have _l_pL := _h_pL.len
  have _h_pL := _h_pL.here (by decide)
  obtain ⟨_A_pF, _C_pF, _e1_pF⟩ := _h_pF.val
  subst _e1_pF
  have _l_pF := _h_pF.len
  have _h_pF := _h_pF.here (by decide)
  have E := Ch.refl [] w
  refine Ctr_of_W (N := 52) (vs0 := [(.agg #[(.slice _A_pL pL.length _C_pL), (.int .i64 pfirst), (.int .i64 plast), (.slice _A_pF pF.length _C_pF), (.bool pnull)])]) Try.func62 rfl rfl rfl ?_
  refine W_seq fun _K_1 _hK_1 => ?_
  refine W_region ?_
  refine WL_s rfl rfl ?_
  refine s_box rfl fun _b1 _w_2 _m1 _cw_2 _e1 => ?_
  have _cw_2z := _cw_2.size
  have E := E.trans _cw_2
  have _z1 := _m1.lt
  replace _m1 : Blk _w_2 _b1 37 [(.slice _A_pL pL.length _C_pL), (.int .i64 pfirst), (.int .i64 plast), (.slice _A_pF pF.length _C_pF), (.bool pnull)] := _m1
  refine WL_step rfl rfl (r_assign rfl) ?_
  refine WL_nil ?_
  refine thn_nrm (_hK_1 _ _ ?_)
  clear _hK_1
  refine W_seq fun _K_3 _hK_3 => ?_
  refine W_region ?_
  refine WL_step rfl rfl (r_fieldAddr fa37_0 rfl) ?_
  refine WL_step rfl rfl (r_loadAt _m1.at_ agg32 rfl rfl) ?_
  refine WL_step rfl rfl (r_len (by rw [el32]; rfl) rfl) ?_
  refine WL_s rfl rfl ?_
  refine s_alloc zr3 fun _b3 _w_4 _m3 _cw_4 _e3 => ?_
  have _cw_4z := _cw_4.size
  have E := E.trans _cw_4
  have _z3 := _m3.lt
  replace _m3 : Blk _w_4 _b3 3 [(.int .i64 0)] := _m3
  refine WL_s rfl rfl ?_
  refine s_store1 (off := 0) _m3 sz3 rfl rfl rfl rfl fun _w_5 _m_6 _cw_5 => ?_
  have _cw_5z := _cw_5.size
  have E := E.step _cw_5 (fun i hi => .inl (by have _h1 := List.mem_singleton.1 hi; omega))
  replace _m_6 : Blk _w_5 _b3 3 [(.int .i64 ((pL.length : Nat) : Int))] := _m_6
  refine WL_nil ?_
  refine thn_nrm (_hK_3 _ _ ?_)
  clear _hK_3
  refine W_seq fun _K_7 _hK_7 => ?_
  refine W_seq fun _K_8 _hK_8 => ?_
  refine W_region ?_
  refine WL_step rfl rfl (r_loadAt0 _m_6.at_ agg3 rfl rfl) ?_
  refine WL_step rfl rfl (r_gtr rfl rfl) ?_
  refine WL_step rfl rfl (r_move rfl) ?_
  refine WL_split (d := 12) rfl (fun _h12 => ?_) (fun _h12 => ?_)
  · have _kb_9 := _h12
    have _h12 := bt_d _h12
    refine WL_skip rfl rfl ?_
    refine WL_skip rfl rfl ?_
    refine WL_skip rfl rfl ?_
    refine WL_skip rfl rfl ?_
    refine WL_skip rfl rfl ?_
    refine WL_step rfl rfl (r_pickT rfl rfl) ?_
    refine WL_nil ?_
    refine thn_nrm (_hK_8 _ _ ?_)
    clear _hK_8
    refine W_condT rfl ?_
    refine W_seq fun _K_10 _hK_10 => ?_
    refine W_region ?_
    refine WL_step rfl rfl (r_assign rfl) ?_
    refine WL_nil ?_
    refine thn_nrm (_hK_10 _ _ ?_)
    clear _hK_10
    refine W_ret (thn_ret ?_)
    clear _hK_7
    exact ret_intro [_] ⟨rfl, trivial⟩ ⟨congrArg Value.bool (by first | exact tt_eq ⟨fun e => ⟨by omega, by omega, _h46, e, pos_all _ht (by omega)⟩, fun e => e.2.2.2.1⟩ | exact tt_false (fun e => by first | exact _h46 e.2.2.1 | (have _e1 := e.1; have _e2 := e.2.1; omega) | (have _e2 := val_L e _hy26; unfold isL at _e2; omega) | (have _e2 := val_F e _hy36; exact _h40 _e2))), E⟩
  · have _kb_9 := _h12
    have _h12 := bf_d _h12
    refine WL_step rfl rfl (r_fieldAddr fa37_3 rfl) ?_
    have _f_11 := ((_m1.ch0 _cw_4).ch _cw_5 (fun hm => by have _h1 := List.mem_singleton.1 hm; omega))
    refine WL_step rfl rfl (r_loadAt _f_11.at_ agg32 rfl rfl) ?_
    refine WL_step rfl rfl (r_len (by rw [el32]; rfl) rfl) ?_
    refine WL_step rfl rfl (r_loadAt0 _m_6.at_ agg3 rfl rfl) ?_
    refine WL_step rfl rfl (r_neq rfl rfl) ?_
    refine WL_step rfl rfl (r_pickF rfl rfl) ?_
    refine WL_nil ?_
    refine thn_nrm (_hK_8 _ _ ?_)
    clear _hK_8
    refine W_cond rfl (fun _h18 => ?_) (fun _h18 => ?_)
    · have _kb_12 := _h18
      have _h18 := bf_d (bt_n _h18)
      refine W_seq fun _K_13 _hK_13 => ?_
      refine W_region ?_
      refine WL_step rfl rfl (r_assign rfl) ?_
      refine WL_nil ?_
      refine thn_nrm (_hK_13 _ _ ?_)
      clear _hK_13
      refine W_ret (thn_ret ?_)
      clear _hK_7
      exact ret_intro [_] ⟨rfl, trivial⟩ ⟨congrArg Value.bool (by first | exact tt_eq ⟨fun e => ⟨by omega, by omega, _h46, e, pos_all _ht (by omega)⟩, fun e => e.2.2.2.1⟩ | exact tt_false (fun e => by first | exact _h46 e.2.2.1 | (have _e1 := e.1; have _e2 := e.2.1; omega) | (have _e2 := val_L e _hy26; unfold isL at _e2; omega) | (have _e2 := val_F e _hy36; exact _h40 _e2))), E⟩
    · have _kb_12 := _h18
      have _h18 := bt_d (bf_n _h18)
      refine W_skip ?_
      refine thn_nrm (_hK_7 _ _ ?_)
      clear _hK_7
      refine W_seq fun _K_14 _hK_14 => ?_
      refine W_region ?_
      refine WL_step rfl rfl (r_makeFunc (xs := []) (ys := [.tmp 3]) rfl rfl) ?_
      refine WL_step rfl rfl (r_assign rfl) ?_
      refine WL_nil ?_
      refine thn_nrm (_hK_14 _ _ ?_)
      clear _hK_14
      refine W_seq fun _K_15 _hK_15 => ?_
      refine W_seq fun _K_16 _hK_16 => ?_
      refine W_region ?_
      refine WL_step rfl rfl (r_fieldAddr fa37_0 rfl) ?_
      refine WL_step rfl rfl (r_loadAt _f_11.at_ agg32 rfl rfl) ?_
      refine WL_step rfl rfl (r_len (by rw [el32]; rfl) rfl) ?_
      refine WL_step rfl rfl (r_move rfl) ?_
      refine WL_nil ?_
      refine thn_nrm (_hK_16 _ _ ?_)
      clear _hK_16
      refine W_block ?_
      refine W_loop (σ := Nat) (fun (k : Nat) => [(1, (.pointer (some ⟨_b1, 0, none⟩))), (4, (.func (.func 98) #[] #[(.pointer (some ⟨_b3, 0, none⟩))])), (21, (.slice _A_pL pL.length _C_pL)), (22, (.int .i64 ((pL.length : Nat) : Int))), (23, (.int .i64 ((k : Nat) : Int)))]) (fun (k : Nat) wx => Ch [] w wx ∧ _w_5.heap.size ≤ wx.heap.size ∧ (k ≤ pL.length) ∧ (PosP pL pF pL.length k) ∧ Blk wx _b1 37 [(.slice _A_pL pL.length _C_pL), (.int .i64 pfirst), (.int .i64 plast), (.slice _A_pF pF.length _C_pF), (.bool pnull)] ∧ Blk wx _b3 3 [(.int .i64 ((pL.length : Nat) : Int))]) (fun (k : Nat) => pL.length - k) 0 (Sub.cons rfl (Sub.cons rfl (Sub.cons rfl (Sub.cons rfl (Sub.cons rfl (Sub.nil _)))))) ⟨E, (Nat.le_refl _), (by omega), (pos_zero _ _ _), _f_11, _m_6⟩ ?_
      rintro k _wr_17 ⟨E, _zz0, _hk, _ht, _F0_0, _F0_3⟩
      have _E0h := E
      have _E0hz := _E0h.size
      have _F0_0z := _F0_0.lt
      have _F0_3z := _F0_3.lt
      refine W_seq fun _K_18 _hK_18 => ?_
      refine W_region ?_
      refine WL_step rfl rfl (r_lss rfl rfl) ?_
      refine WL_nil ?_
      refine thn_nrm (_hK_18 _ _ ?_)
      clear _hK_18
      refine W_seq fun _K_19 _hK_19 => ?_
      refine W_cond rfl (fun _h24 => ?_) (fun _h24 => ?_)
      · have _kb_20 := _h24
        have _h24 := bt_d _h24
        refine W_skip ?_
        refine thn_nrm (_hK_19 _ _ ?_)
        clear _hK_19
        refine W_seq fun _K_21 _hK_21 => ?_
        refine W_block ?_
        refine W_seq fun _K_22 _hK_22 => ?_
        refine W_region ?_
        refine WL_step rfl rfl (r_move rfl) ?_
        refine WL_s rfl rfl ?_
        have _f_23 := (_h_pL.ch0 _E0h)
        refine (s_index _f_23 ics_len el32 sz3 rfl rfl rfl (by omega) fun _p26 _y26 _hy26 _a26 => ?_)
        refine WL_step rfl rfl (r_loadAt0 _a26 agg3 rfl rfl) ?_
        refine WL_step rfl rfl (r_assign rfl) ?_
        refine WL_step rfl rfl (r_assign rfl) ?_
        refine WL_nil ?_
        refine thn_nrm (_hK_22 _ _ ?_)
        clear _hK_22
        refine W_seq fun _K_24 _hK_24 => ?_
        refine W_region ?_
        refine WL_step rfl rfl (r_move rfl) ?_
        refine WL_s rfl rfl ?_
        refine Step.call (r_call (xs := [.tmp 28]) fk99 rfl) (c_impl_isLetter _ ) fun _v29 _w_25 _q29 => ?_
        obtain ⟨rfl, _cw_25⟩ := _q29
        have _cw_25z := _cw_25.size
        have E := E.trans _cw_25
        refine WL_step rfl rfl (r_not rfl) ?_
        refine WL_step rfl rfl (r_move rfl) ?_
        refine WL_split (d := 31) rfl (fun _h31 => ?_) (fun _h31 => ?_)
        · have _kb_26 := _h31
          have _h31 := bf_d (bt_n _h31)
          refine WL_skip rfl rfl ?_
          refine WL_skip rfl rfl ?_
          refine WL_skip rfl rfl ?_
          refine WL_skip rfl rfl ?_
          refine WL_skip rfl rfl ?_
          refine WL_skip rfl rfl ?_
          refine WL_skip rfl rfl ?_
          refine WL_skip rfl rfl ?_
          refine WL_step rfl rfl (r_pickT rfl rfl) ?_
          refine WL_nil ?_
          refine thn_nrm (_hK_24 _ _ ?_)
          clear _hK_24
          refine W_condT rfl ?_
          refine W_seq fun _K_27 _hK_27 => ?_
          refine W_region ?_
          refine WL_step rfl rfl (r_assign rfl) ?_
          refine WL_nil ?_
          refine thn_nrm (_hK_27 _ _ ?_)
          clear _hK_27
          refine W_ret (inB_ret (thn_ret (thn_ret (inB_ret (thn_ret ?_)))))
          clear _hK_15 _hK_21
          exact ret_intro [_] ⟨rfl, trivial⟩ ⟨congrArg Value.bool (by first | exact tt_eq ⟨fun e => ⟨by omega, by omega, _h46, e, pos_all _ht (by omega)⟩, fun e => e.2.2.2.1⟩ | exact tt_false (fun e => by first | exact _h46 e.2.2.1 | (have _e1 := e.1; have _e2 := e.2.1; omega) | (have _e2 := val_L e _hy26; unfold isL at _e2; omega) | (have _e2 := val_F e _hy36; exact _h40 _e2))), E⟩
        · have _kb_26 := _h31
          have _h31 := bt_d (bf_n _h31)
          refine WL_step rfl rfl (r_move rfl) ?_
          refine WL_step rfl rfl (r_fieldAddr fa37_3 rfl) ?_
          have _f_28 := (_F0_0.ch0 _cw_25)
          refine WL_step rfl rfl (r_loadAt _f_28.at_ agg32 rfl rfl) ?_
          refine WL_step rfl rfl (r_move rfl) ?_
          refine WL_s rfl rfl ?_
          have _f_29 := ((_h_pF.ch0 _E0h).ch0 _cw_25)
          refine (s_index _f_29 ics_len el32 sz3 rfl rfl rfl (by omega) fun _p36 _y36 _hy36 _a36 => ?_)
          refine WL_step rfl rfl (r_loadAt0 _a36 agg3 rfl rfl) ?_
          refine WL_s rfl rfl ?_
          have _f_30 := (_F0_3.ch0 _cw_25)
          refine Step.call (r_callV (xs := [.tmp 37]) (as' := [(.int .i64 _y36), (.pointer (some ⟨_b3, 0, none⟩))]) fk98 rfl rfl rfl) (c_impl_IsValidPositions_1 _ _f_30 (by omega)) fun _v38 _w_31 _q38 => ?_
          obtain ⟨rfl, _cw_31⟩ := _q38
          have _cw_31z := _cw_31.size
          have E := E.trans _cw_31
          refine WL_step rfl rfl (r_not rfl) ?_
          refine WL_step rfl rfl (r_pickF rfl rfl) ?_
          refine WL_nil ?_
          refine thn_nrm (_hK_24 _ _ ?_)
          clear _hK_24
          refine W_cond rfl (fun _h40 => ?_) (fun _h40 => ?_)
          · have _kb_32 := _h40
            have _h40 := bf_t (bt_n _h40)
            refine W_seq fun _K_33 _hK_33 => ?_
            refine W_region ?_
            refine WL_step rfl rfl (r_assign rfl) ?_
            refine WL_nil ?_
            refine thn_nrm (_hK_33 _ _ ?_)
            clear _hK_33
            refine W_ret (inB_ret (thn_ret (thn_ret (inB_ret (thn_ret ?_)))))
            clear _hK_15 _hK_21
            exact ret_intro [_] ⟨rfl, trivial⟩ ⟨congrArg Value.bool (by first | exact tt_eq ⟨fun e => ⟨by omega, by omega, _h46, e, pos_all _ht (by omega)⟩, fun e => e.2.2.2.1⟩ | exact tt_false (fun e => by first | exact _h46 e.2.2.1 | (have _e1 := e.1; have _e2 := e.2.1; omega) | (have _e2 := val_L e _hy26; unfold isL at _e2; omega) | (have _e2 := val_F e _hy36; exact _h40 _e2))), E⟩
          · have _kb_32 := _h40
            have _h40 := bt_t (bf_n _h40)
            refine W_skip ?_
            refine inB_nrm ?_
            refine thn_nrm (_hK_21 _ _ ?_)
            clear _hK_21
            refine W_region ?_
            refine WL_step rfl rfl (r_add (by omega) rfl rfl) ?_
            refine WL_step rfl rfl (r_move rfl) ?_
            refine WL_nil ?_
            have _f_34 := (_f_28.ch0 _cw_31)
            have _f_35 := (_f_30.ch0 _cw_31)
            exact thn_nrm (Exists.intro (k + 1) ⟨⟨E, (by omega), (by omega), (pos_step _ht _hy26 _hy36 _h31 _h40), _f_34, _f_35⟩, Sub.cons rfl (Sub.cons rfl (Sub.cons rfl (Sub.cons rfl (Sub.cons rfl (Sub.nil _))))), (by first | omega | (dsimp only; omega))⟩)
      · have _kb_20 := _h24
        have _h24 := bf_d _h24
        refine W_exit (thn_exit (thn_exit (inB_hit ?_)))
        refine thn_nrm (_hK_15 _ _ ?_)
        clear _hK_15
        refine W_seq fun _K_36 _hK_36 => ?_
        refine W_region ?_
        refine WL_step rfl rfl (r_move rfl) ?_
        refine WL_step rfl rfl (r_fieldAddr fa37_1 rfl) ?_
        refine WL_step rfl rfl (r_loadAt _F0_0.at_ agg3 rfl rfl) ?_
        refine WL_s rfl rfl ?_
        refine Step.call (r_callV (xs := [.tmp 44]) (as' := [(.int .i64 pfirst), (.pointer (some ⟨_b3, 0, none⟩))]) fk98 rfl rfl rfl) (c_impl_IsValidPositions_1 _ _F0_3 (by omega)) fun _v45 _w_37 _q45 => ?_
        obtain ⟨rfl, _cw_37⟩ := _q45
        have _cw_37z := _cw_37.size
        have E := E.trans _cw_37
        refine WL_step rfl rfl (r_move rfl) ?_
        refine WL_split (d := 46) rfl (fun _h46 => ?_) (fun _h46 => ?_)
        · have _kb_38 := _h46
          have _h46 := bt_t _h46
          refine WL_step rfl rfl (r_move rfl) ?_
          refine WL_step rfl rfl (r_fieldAddr fa37_2 rfl) ?_
          have _f_39 := (_F0_0.ch0 _cw_37)
          refine WL_step rfl rfl (r_loadAt _f_39.at_ agg3 rfl rfl) ?_
          refine WL_s rfl rfl ?_
          have _f_40 := (_F0_3.ch0 _cw_37)
          refine Step.call (r_callV (xs := [.tmp 49]) (as' := [(.int .i64 plast), (.pointer (some ⟨_b3, 0, none⟩))]) fk98 rfl rfl rfl) (c_impl_IsValidPositions_1 _ _f_40 (by omega)) fun _v50 _w_41 _q50 => ?_
          obtain ⟨rfl, _cw_41⟩ := _q50
          have _cw_41z := _cw_41.size
          have E := E.trans _cw_41
          refine WL_step rfl rfl (r_pickT rfl rfl) ?_
          refine WL_step rfl rfl (r_assign rfl) ?_
          refine WL_nil ?_
          refine thn_nrm (_hK_36 _ _ ?_)
          clear _hK_36
          refine W_ret ?_
          clear _hK_19
          exact ret_intro [_] ⟨rfl, trivial⟩ ⟨congrArg Value.bool (by first | exact tt_eq ⟨fun e => ⟨by omega, by omega, _h46, e, pos_all _ht (by omega)⟩, fun e => e.2.2.2.1⟩ | exact tt_false (fun e => by first | exact _h46 e.2.2.1 | (have _e1 := e.1; have _e2 := e.2.1; omega) | (have _e2 := val_L e _hy26; unfold isL at _e2; omega) | (have _e2 := val_F e _hy36; exact _h40 _e2))), E⟩
        · have _kb_38 := _h46
          have _h46 := bf_t _h46
          refine WL_skip rfl rfl ?_
          refine WL_skip rfl rfl ?_
          refine WL_skip rfl rfl ?_
          refine WL_skip rfl rfl ?_
          refine WL_step rfl rfl (r_pickF rfl rfl) ?_
          refine WL_step rfl rfl (r_assign rfl) ?_
          refine WL_nil ?_
          refine thn_nrm (_hK_36 _ _ ?_)
          clear _hK_36
          refine W_ret ?_
          clear _hK_19
          exact ret_intro [_] ⟨rfl, trivial⟩ ⟨congrArg Value.bool (by first | exact tt_eq ⟨fun e => ⟨by omega, by omega, _h46, e, pos_all _ht (by omega)⟩, fun e => e.2.2.2.1⟩ | exact tt_false (fun e => by first | exact _h46 e.2.2.1 | (have _e1 := e.1; have _e2 := e.2.1; omega) | (have _e2 := val_L e _hy26; unfold isL at _e2; omega) | (have _e2 := val_F e _hy36; exact _h40 _e2))), E⟩

/-- impl.IsWord -/
theorem c_impl_IsWord {w : World} {LL_wd _B_wd : Nat} {_v_wd : Value} {wd : List Int} (_h_wd : Ls ics 1 w LL_wd _B_wd _v_wd wd) :
    Ctr Try.prog 63 #[_v_wd] w (fun v w' => v = .bool (tt (IsWd wd)) ∧ Ch [] w w') := by
  obtain ⟨_A_wd, _C_wd, _e1_wd⟩ := _h_wd.val
  subst _e1_wd
  have _l_wd := _h_wd.len
  have _h_wd := _h_wd.here (by decide)
  have E := Ch.refl [] w
  refine Ctr_of_W (N := 18) (vs0 := [(.slice _A_wd wd.length _C_wd)]) Try.func63 rfl rfl rfl ?_
  refine W_seq fun _K_1 _hK_1 => ?_
  refine W_region ?_
  refine WL_step rfl rfl (r_assign rfl) ?_
  refine WL_nil ?_
  refine thn_nrm (_hK_1 _ _ ?_)
  clear _hK_1
  refine W_seq fun _K_2 _hK_2 => ?_
  refine W_seq fun _K_3 _hK_3 => ?_
  refine W_region ?_
  refine WL_step rfl rfl (r_move rfl) ?_
  refine WL_step rfl rfl (r_len (by rw [el32]; rfl) rfl) ?_
  refine WL_step rfl rfl (r_move rfl) ?_
  refine WL_nil ?_
  refine thn_nrm (_hK_3 _ _ ?_)
  clear _hK_3
  refine W_block ?_
  refine W_loop (σ := Nat) (fun (k : Nat) => [(0, (.slice _A_wd wd.length _C_wd)), (5, (.slice _A_wd wd.length _C_wd)), (6, (.int .i64 ((wd.length : Nat) : Int))), (7, (.int .i64 ((k : Nat) : Int)))]) (fun (k : Nat) wx => Ch [] w wx ∧ w.heap.size ≤ wx.heap.size ∧ (k ≤ wd.length) ∧ (WdP wd k)) (fun (k : Nat) => wd.length - k) 0 (Sub.cons rfl (Sub.cons rfl (Sub.cons rfl (Sub.cons rfl (Sub.nil _))))) ⟨E, (Nat.le_refl _), (by omega), (wd_zero _)⟩ ?_
  rintro k _wr_4 ⟨E, _zz0, _hk, _ht⟩
  have _E0h := E
  have _E0hz := _E0h.size
  refine W_seq fun _K_5 _hK_5 => ?_
  refine W_region ?_
  refine WL_step rfl rfl (r_lss rfl rfl) ?_
  refine WL_nil ?_
  refine thn_nrm (_hK_5 _ _ ?_)
  clear _hK_5
  refine W_seq fun _K_6 _hK_6 => ?_
  refine W_cond rfl (fun _h8 => ?_) (fun _h8 => ?_)
  · have _kb_7 := _h8
    have _h8 := bt_d _h8
    refine W_skip ?_
    refine thn_nrm (_hK_6 _ _ ?_)
    clear _hK_6
    refine W_seq fun _K_8 _hK_8 => ?_
    refine W_block ?_
    refine W_seq fun _K_9 _hK_9 => ?_
    refine W_region ?_
    refine WL_s rfl rfl ?_
    have _f_10 := (_h_wd.ch0 _E0h)
    refine (s_index _f_10 ics_len el32 sz3 rfl rfl rfl (by omega) fun _p9 _y9 _hy9 _a9 => ?_)
    refine WL_step rfl rfl (r_loadAt0 _a9 agg3 rfl rfl) ?_
    refine WL_step rfl rfl (r_assign rfl) ?_
    refine WL_nil ?_
    refine thn_nrm (_hK_9 _ _ ?_)
    clear _hK_9
    refine W_seq fun _K_11 _hK_11 => ?_
    refine W_region ?_
    refine WL_step rfl rfl (r_move rfl) ?_
    refine WL_s rfl rfl ?_
    refine Step.call (r_call (xs := [.tmp 11]) fk99 rfl) (c_impl_isLetter _ ) fun _v12 _w_12 _q12 => ?_
    obtain ⟨rfl, _cw_12⟩ := _q12
    have _cw_12z := _cw_12.size
    have E := E.trans _cw_12
    refine WL_step rfl rfl (r_not rfl) ?_
    refine WL_nil ?_
    refine thn_nrm (_hK_11 _ _ ?_)
    clear _hK_11
    refine W_cond rfl (fun _h13 => ?_) (fun _h13 => ?_)
    · have _kb_13 := _h13
      have _h13 := bf_d (bt_n _h13)
      refine W_seq fun _K_14 _hK_14 => ?_
      refine W_region ?_
      refine WL_step rfl rfl (r_assign rfl) ?_
      refine WL_nil ?_
      refine thn_nrm (_hK_14 _ _ ?_)
      clear _hK_14
      refine W_ret (inB_ret (thn_ret (thn_ret (inB_ret (thn_ret ?_)))))
      clear _hK_2 _hK_8
      exact ret_intro [_] ⟨rfl, trivial⟩ ⟨congrArg Value.bool (by first | exact tt_false (fun e => _h13 (wd_val e _hy9)) | (rw [tt_dec]; exact tt_eq ⟨fun e => ⟨wd_all _ht (by omega), by omega⟩, fun e => by have := e.2; omega⟩)), E⟩
    · have _kb_13 := _h13
      have _h13 := bt_d (bf_n _h13)
      refine W_skip ?_
      refine inB_nrm ?_
      refine thn_nrm (_hK_8 _ _ ?_)
      clear _hK_8
      refine W_region ?_
      refine WL_step rfl rfl (r_add (by omega) rfl rfl) ?_
      refine WL_step rfl rfl (r_move rfl) ?_
      refine WL_nil ?_
      exact thn_nrm (Exists.intro (k + 1) ⟨⟨E, (by omega), (by omega), (wd_step _ht _hy9 _h13)⟩, Sub.cons rfl (Sub.cons rfl (Sub.cons rfl (Sub.cons rfl (Sub.nil _)))), (by first | omega | (dsimp only; omega))⟩)
  · have _kb_7 := _h8
    have _h8 := bf_d _h8
    refine W_exit (thn_exit (thn_exit (inB_hit ?_)))
    refine thn_nrm (_hK_2 _ _ ?_)
    clear _hK_2
    refine W_seq fun _K_15 _hK_15 => ?_
    refine W_region ?_
    refine WL_step rfl rfl (r_move rfl) ?_
    refine WL_step rfl rfl (r_len (by rw [el32]; rfl) rfl) ?_
    refine WL_step rfl rfl (r_leq rfl rfl) ?_
    refine WL_step rfl rfl (r_assign rfl) ?_
    refine WL_nil ?_
    refine thn_nrm (_hK_15 _ _ ?_)
    clear _hK_15
    refine W_ret ?_
    clear _hK_6
    exact ret_intro [_] ⟨rfl, trivial⟩ ⟨congrArg Value.bool (by first | exact tt_false (fun e => _h13 (wd_val e _hy9)) | (rw [tt_dec]; exact tt_eq ⟨fun e => ⟨wd_all _ht (by omega), by omega⟩, fun e => by have := e.2; omega⟩)), E⟩

/-- impl.Positions).accepts -/
theorem c_impl_Positions_accepts {w : World} {LL_pL _B_pL : Nat} {_v_pL : Value} {pL : List Int} (_h_pL : Ls ics 1 w LL_pL _B_pL _v_pL pL) (pfirst : Int) (plast : Int) {LL_pF _B_pF : Nat} {_v_pF : Value} {pF : List Int} (_h_pF : Ls ics 1 w LL_pF _B_pF _v_pF pF) (pnull : Bool) (set : Int) :
    Ctr Try.prog 65 #[(.agg #[_v_pL, (.int .i64 pfirst), (.int .i64 plast), _v_pF, (.bool pnull)]), (.int .i64 set)] w (fun v w' => v = .bool (accB plast pnull set) ∧ Ch [] w w') := by
  obtain ⟨_A_pL, _C_pL, _e1_pL⟩ := _h_pL.val
  subst _e1_pL
  have _l_pL := _h_pL.len
  have _h_pL := _h_pL.here (by decide)
  obtain ⟨_A_pF, _C_pF, _e1_pF⟩ := _h_pF.val
  subst _e1_pF
  have _l_pF := _h_pF.len
  have _h_pF := _h_pF.here (by decide)
  have E := Ch.refl [] w
  refine Ctr_of_W (N := 20) (vs0 := [(.agg #[(.slice _A_pL pL.length _C_pL), (.int .i64 pfirst), (.int .i64 plast), (.slice _A_pF pF.length _C_pF), (.bool pnull)]), (.int .i64 set)]) Try.func65 rfl rfl rfl ?_
  refine W_seq fun _K_1 _hK_1 => ?_
  refine W_region ?_
  refine WL_s rfl rfl ?_
  refine s_box rfl fun _b2 _w_2 _m2 _cw_2 _e2 => ?_
  have _cw_2z := _cw_2.size
  have E := E.trans _cw_2
  have _z2 := _m2.lt
  replace _m2 : Blk _w_2 _b2 37 [(.slice _A_pL pL.length _C_pL), (.int .i64 pfirst), (.int .i64 plast), (.slice _A_pF pF.length _C_pF), (.bool pnull)] := _m2
  refine WL_step rfl rfl (r_assign rfl) ?_
  refine WL_nil ?_
  refine thn_nrm (_hK_1 _ _ ?_)
  clear _hK_1
  refine W_seq fun _K_3 _hK_3 => ?_
  refine W_region ?_
  refine WL_step rfl rfl (r_move rfl) ?_
  refine WL_step rfl rfl (r_and rfl rfl) ?_
  refine WL_step rfl rfl (r_eql rfl rfl) ?_
  refine WL_step rfl rfl (r_move rfl) ?_
  refine WL_split (d := 8) rfl (fun _h8 => ?_) (fun _h8 => ?_)
  · have _kb_4 := _h8
    have _h8 := bt_d _h8
    refine WL_step rfl rfl (r_fieldAddr fa37_4 rfl) ?_
    refine WL_step rfl rfl (r_loadAt _m2.at_ agg4 rfl rfl) ?_
    refine WL_step rfl rfl (r_pickT rfl rfl) ?_
    refine WL_step rfl rfl (r_move rfl) ?_
    refine WL_split (d := 12) rfl (fun _h12 => ?_) (fun _h12 => ?_)
    · have _kb_5 := _h12
      refine WL_skip rfl rfl ?_
      refine WL_skip rfl rfl ?_
      refine WL_skip rfl rfl ?_
      refine WL_skip rfl rfl ?_
      refine WL_skip rfl rfl ?_
      refine WL_skip rfl rfl ?_
      refine WL_step rfl rfl (r_pickT rfl rfl) ?_
      refine WL_step rfl rfl (r_assign rfl) ?_
      refine WL_nil ?_
      refine thn_nrm (_hK_3 _ _ ?_)
      clear _hK_3
      refine W_ret ?_
      exact ret_intro [_] ⟨rfl, trivial⟩ ⟨congrArg Value.bool (by unfold accB; simp_all), E⟩
    · have _kb_5 := _h12
      refine WL_step rfl rfl (r_move rfl) ?_
      refine WL_step rfl rfl (r_shr (by omega) rfl rfl) ?_
      refine WL_step rfl rfl (r_fieldAddr fa37_2 rfl) ?_
      refine WL_step rfl rfl (r_loadAt _m2.at_ agg3 rfl rfl) ?_
      refine WL_step rfl rfl (r_and rfl rfl) ?_
      refine WL_step rfl rfl (r_neq rfl rfl) ?_
      refine WL_step rfl rfl (r_pickF rfl rfl) ?_
      refine WL_step rfl rfl (r_assign rfl) ?_
      refine WL_nil ?_
      refine thn_nrm (_hK_3 _ _ ?_)
      clear _hK_3
      refine W_ret ?_
      exact ret_intro [_] ⟨rfl, trivial⟩ ⟨congrArg Value.bool (by unfold accB; simp_all), E⟩
  · have _kb_4 := _h8
    have _h8 := bf_d _h8
    refine WL_skip rfl rfl ?_
    refine WL_skip rfl rfl ?_
    refine WL_step rfl rfl (r_pickF rfl rfl) ?_
    refine WL_step rfl rfl (r_move rfl) ?_
    refine WL_step rfl rfl (r_move rfl) ?_
    refine WL_step rfl rfl (r_shr (by omega) rfl rfl) ?_
    refine WL_step rfl rfl (r_fieldAddr fa37_2 rfl) ?_
    refine WL_step rfl rfl (r_loadAt _m2.at_ agg3 rfl rfl) ?_
    refine WL_step rfl rfl (r_and rfl rfl) ?_
    refine WL_step rfl rfl (r_neq rfl rfl) ?_
    refine WL_step rfl rfl (r_pickF rfl rfl) ?_
    refine WL_step rfl rfl (r_assign rfl) ?_
    refine WL_nil ?_
    refine thn_nrm (_hK_3 _ _ ?_)
    clear _hK_3
    refine W_ret ?_
    exact ret_intro [_] ⟨rfl, trivial⟩ ⟨congrArg Value.bool (by unfold accB; simp_all), E⟩

/-- impl.Positions).after -/
theorem c_impl_Positions_after {w : World} {LL_pL _B_pL : Nat} {_v_pL : Value} {pL : List Int} (_h_pL : Ls ics 1 w LL_pL _B_pL _v_pL pL) (pfirst : Int) (plast : Int) {LL_pF _B_pF : Nat} {_v_pF : Value} {pF : List Int} (_h_pF : Ls ics 1 w LL_pF _B_pF _v_pF pF) (pnull : Bool) (set : Int) (letter : Int) (hF : pF.length = pL.length) (hn : pL.length ≤ 20) :
    Ctr Try.prog 64 #[(.agg #[_v_pL, (.int .i64 pfirst), (.int .i64 plast), _v_pF, (.bool pnull)]), (.int .i64 set), (.int .i64 letter)] w (fun v w' => v = .int .i64 (afterP pL pfirst pF set letter) ∧ Ch [] w w') := by
  obtain ⟨_A_pL, _C_pL, _e1_pL⟩ := _h_pL.val
  subst _e1_pL
  have _l_pL := _h_pL.len
  have _h_pL := _h_pL.here (by decide)
  obtain ⟨_A_pF, _C_pF, _e1_pF⟩ := _h_pF.val
  subst _e1_pF
  have _l_pF := _h_pF.len
  have _h_pF := _h_pF.here (by decide)
  have E := Ch.refl [] w
  refine Ctr_of_W (N := 61) (vs0 := [(.agg #[(.slice _A_pL pL.length _C_pL), (.int .i64 pfirst), (.int .i64 plast), (.slice _A_pF pF.length _C_pF), (.bool pnull)]), (.int .i64 set), (.int .i64 letter)]) Try.func64 rfl rfl rfl ?_
  refine W_seq fun _K_1 _hK_1 => ?_
  refine W_region ?_
  refine WL_s rfl rfl ?_
  refine s_box rfl fun _b3 _w_2 _m3 _cw_2 _e3 => ?_
  have _cw_2z := _cw_2.size
  have E := E.trans _cw_2
  have _z3 := _m3.lt
  replace _m3 : Blk _w_2 _b3 37 [(.slice _A_pL pL.length _C_pL), (.int .i64 pfirst), (.int .i64 plast), (.slice _A_pF pF.length _C_pF), (.bool pnull)] := _m3
  refine WL_step rfl rfl (r_assign rfl) ?_
  refine WL_nil ?_
  refine thn_nrm (_hK_1 _ _ ?_)
  clear _hK_1
  refine W_seq fun _K_3 _hK_3 => ?_
  refine W_region ?_
  refine WL_step rfl rfl (r_assign rfl) ?_
  refine WL_nil ?_
  refine thn_nrm (_hK_3 _ _ ?_)
  clear _hK_3
  refine W_seq fun _K_4 _hK_4 => ?_
  refine W_seq fun _K_5 _hK_5 => ?_
  refine W_region ?_
  refine WL_step rfl rfl (r_move rfl) ?_
  refine WL_step rfl rfl (r_and rfl rfl) ?_
  refine WL_step rfl rfl (r_eql rfl rfl) ?_
  refine WL_nil ?_
  refine thn_nrm (_hK_5 _ _ ?_)
  clear _hK_5
  refine W_cond rfl (fun _h15 => ?_) (fun _h15 => ?_)
  · have _kb_6 := _h15
    have _h15 := bt_d _h15
    refine W_region ?_
    refine WL_step rfl rfl (r_fieldAddr fa37_1 rfl) ?_
    refine WL_step rfl rfl (r_loadAt _m3.at_ agg3 rfl rfl) ?_
    refine WL_step rfl rfl (r_assign rfl) ?_
    refine WL_nil ?_
    refine thn_nrm (_hK_4 _ _ ?_)
    clear _hK_4
    refine W_seq fun _K_7 _hK_7 => ?_
    refine W_seq fun _K_8 _hK_8 => ?_
    refine W_region ?_
    refine WL_step rfl rfl (r_fieldAddr fa37_3 rfl) ?_
    refine WL_step rfl rfl (r_loadAt _m3.at_ agg32 rfl rfl) ?_
    refine WL_step rfl rfl (r_len (by rw [el32]; rfl) rfl) ?_
    refine WL_step rfl rfl (r_move rfl) ?_
    refine WL_nil ?_
    refine thn_nrm (_hK_8 _ _ ?_)
    clear _hK_8
    refine W_block ?_
    refine W_loop (σ := Nat × Int) (fun ⟨k, m⟩ => [(1, (.int .i64 set)), (2, (.int .i64 letter)), (3, (.pointer (some ⟨_b3, 0, none⟩))), (6, (.int .i64 0)), (7, (.int .i64 m)), (19, (.slice _A_pF pF.length _C_pF)), (20, (.int .i64 ((pF.length : Nat) : Int))), (21, (.int .i64 ((k : Nat) : Int)))]) (fun ⟨k, m⟩ wx => Ch [] w wx ∧ _w_2.heap.size ≤ wx.heap.size ∧ (k ≤ pL.length) ∧ (m = nxt pF set (if iand set 1 = 1 then pfirst else 0) k) ∧ Blk wx _b3 37 [(.slice _A_pL pL.length _C_pL), (.int .i64 pfirst), (.int .i64 plast), (.slice _A_pF pF.length _C_pF), (.bool pnull)]) (fun ⟨k, m⟩ => pL.length - k) (0, pfirst) (Sub.cons rfl (Sub.cons rfl (Sub.cons rfl (Sub.cons rfl (Sub.cons rfl (Sub.cons rfl (Sub.cons rfl (Sub.cons rfl (Sub.nil _))))))))) ⟨E, (Nat.le_refl _), (by omega), (by first | exact (if_pos _h15).symm | exact (if_neg _h15).symm), _m3⟩ ?_
    rintro ⟨k, m⟩ _wr_9 ⟨E, _zz0, _hk, hm, _F0_0⟩
    have _E0h := E
    have _E0hz := _E0h.size
    have _F0_0z := _F0_0.lt
    refine W_seq fun _K_10 _hK_10 => ?_
    refine W_region ?_
    refine WL_step rfl rfl (r_lss rfl rfl) ?_
    refine WL_nil ?_
    refine thn_nrm (_hK_10 _ _ ?_)
    clear _hK_10
    refine W_seq fun _K_11 _hK_11 => ?_
    refine W_cond rfl (fun _h22 => ?_) (fun _h22 => ?_)
    · have _kb_12 := _h22
      have _h22 := bt_d _h22
      refine W_skip ?_
      refine thn_nrm (_hK_11 _ _ ?_)
      clear _hK_11
      refine W_seq fun _K_13 _hK_13 => ?_
      refine W_block ?_
      refine W_seq fun _K_14 _hK_14 => ?_
      refine W_region ?_
      refine WL_step rfl rfl (r_move rfl) ?_
      refine WL_s rfl rfl ?_
      have _f_15 := (_h_pF.ch0 _E0h)
      refine (s_index _f_15 ics_len el32 sz3 rfl rfl rfl (by omega) fun _p24 _y24 _hy24 _a24 => ?_)
      refine WL_step rfl rfl (r_loadAt0 _a24 agg3 rfl rfl) ?_
      refine WL_step rfl rfl (r_assign rfl) ?_
      refine WL_step rfl rfl (r_assign rfl) ?_
      refine WL_nil ?_
      refine thn_nrm (_hK_14 _ _ ?_)
      clear _hK_14
      refine W_seq fun _K_16 _hK_16 => ?_
      refine W_region ?_
      refine WL_step rfl rfl (r_move rfl) ?_
      refine WL_step rfl rfl (r_move rfl) ?_
      refine WL_step rfl rfl (r_add (by omega) rfl rfl) ?_
      refine WL_step rfl rfl (r_shr (by omega) rfl rfl) ?_
      refine WL_step rfl rfl (r_and rfl rfl) ?_
      refine WL_step rfl rfl (r_eql rfl rfl) ?_
      refine WL_nil ?_
      refine thn_nrm (_hK_16 _ _ ?_)
      clear _hK_16
      refine W_cond rfl (fun _h31 => ?_) (fun _h31 => ?_)
      · have _kb_17 := _h31
        have _h31 := bt_d _h31
        refine W_region ?_
        refine WL_step rfl rfl (r_move rfl) ?_
        refine WL_step rfl rfl (r_move rfl) ?_
        refine WL_step rfl rfl (r_or rfl rfl) ?_
        refine WL_step rfl rfl (r_assign rfl) ?_
        refine WL_nil ?_
        refine inB_nrm ?_
        refine thn_nrm (_hK_13 _ _ ?_)
        clear _hK_13
        refine W_region ?_
        refine WL_step rfl rfl (r_add (by omega) rfl rfl) ?_
        refine WL_step rfl rfl (r_move rfl) ?_
        refine WL_nil ?_
        exact thn_nrm (Exists.intro ((k + 1), (ior m _y24)) ⟨⟨E, (by omega), (by omega), (by first | exact nxt_y _h31 hm _hy24 | exact nxt_n _h31 hm), _F0_0⟩, Sub.cons rfl (Sub.cons rfl (Sub.cons rfl (Sub.cons rfl (Sub.cons rfl (Sub.cons rfl (Sub.cons rfl (Sub.cons rfl (Sub.nil _)))))))), (by first | omega | (dsimp only; omega))⟩)
      · have _kb_17 := _h31
        have _h31 := bf_d _h31
        refine W_skip ?_
        refine inB_nrm ?_
        refine thn_nrm (_hK_13 _ _ ?_)
        clear _hK_13
        refine W_region ?_
        refine WL_step rfl rfl (r_add (by omega) rfl rfl) ?_
        refine WL_step rfl rfl (r_move rfl) ?_
        refine WL_nil ?_
        exact thn_nrm (Exists.intro ((k + 1), m) ⟨⟨E, (by omega), (by omega), (by first | exact nxt_y _h31 hm _hy24 | exact nxt_n _h31 hm), _F0_0⟩, Sub.cons rfl (Sub.cons rfl (Sub.cons rfl (Sub.cons rfl (Sub.cons rfl (Sub.cons rfl (Sub.cons rfl (Sub.cons rfl (Sub.nil _)))))))), (by first | omega | (dsimp only; omega))⟩)
    · have _kb_12 := _h22
      have _h22 := bf_d _h22
      refine W_exit (thn_exit (thn_exit (inB_hit ?_)))
      refine thn_nrm (_hK_7 _ _ ?_)
      clear _hK_7
      refine W_seq fun _K_18 _hK_18 => ?_
      refine W_region ?_
      refine WL_step rfl rfl (r_assign rfl) ?_
      refine WL_nil ?_
      refine thn_nrm (_hK_18 _ _ ?_)
      clear _hK_18
      refine W_seq fun _K_19 _hK_19 => ?_
      refine W_seq fun _K_20 _hK_20 => ?_
      refine W_region ?_
      refine WL_step rfl rfl (r_fieldAddr fa37_0 rfl) ?_
      refine WL_step rfl rfl (r_loadAt _F0_0.at_ agg32 rfl rfl) ?_
      refine WL_step rfl rfl (r_len (by rw [el32]; rfl) rfl) ?_
      refine WL_step rfl rfl (r_move rfl) ?_
      refine WL_nil ?_
      refine thn_nrm (_hK_20 _ _ ?_)
      clear _hK_20
      refine W_block ?_
      refine W_loop (σ := Nat × Int) (fun ⟨q, o⟩ => [(2, (.int .i64 letter)), (6, (.int .i64 0)), (7, (.int .i64 m)), (10, (.int .i64 o)), (37, (.slice _A_pL pL.length _C_pL)), (38, (.int .i64 ((pL.length : Nat) : Int))), (39, (.int .i64 ((q : Nat) : Int)))]) (fun ⟨q, o⟩ wx => Ch [] w wx ∧ _wr_9.heap.size ≤ wx.heap.size ∧ (q ≤ pL.length) ∧ (o = outP pL (nxt pF set (if iand set 1 = 1 then pfirst else 0) pL.length) letter q)) (fun ⟨q, o⟩ => pL.length - q) (0, 0) (Sub.cons rfl (Sub.cons rfl (Sub.cons rfl (Sub.cons rfl (Sub.cons rfl (Sub.cons rfl (Sub.cons rfl (Sub.nil _)))))))) ⟨E, (Nat.le_refl _), (by omega), rfl⟩ ?_
      rintro ⟨q, o⟩ _wr_21 ⟨E, _zz1, hq, ho⟩
      have _E1h := E
      have _E1hz := _E1h.size
      have hm2 : m = nxt pF set (if iand set 1 = 1 then pfirst else 0) pL.length := by rw [hm, show k = pL.length by omega]
      refine W_seq fun _K_22 _hK_22 => ?_
      refine W_region ?_
      refine WL_step rfl rfl (r_lss rfl rfl) ?_
      refine WL_nil ?_
      refine thn_nrm (_hK_22 _ _ ?_)
      clear _hK_22
      refine W_seq fun _K_23 _hK_23 => ?_
      refine W_cond rfl (fun _h40 => ?_) (fun _h40 => ?_)
      · have _kb_24 := _h40
        have _h40 := bt_d _h40
        refine W_skip ?_
        refine thn_nrm (_hK_23 _ _ ?_)
        clear _hK_23
        refine W_seq fun _K_25 _hK_25 => ?_
        refine W_block ?_
        refine W_seq fun _K_26 _hK_26 => ?_
        refine W_region ?_
        refine WL_step rfl rfl (r_move rfl) ?_
        refine WL_s rfl rfl ?_
        have _f_27 := (_h_pL.ch0 _E1h)
        refine (s_index _f_27 ics_len el32 sz3 rfl rfl rfl (by omega) fun _p42 _y42 _hy42 _a42 => ?_)
        refine WL_step rfl rfl (r_loadAt0 _a42 agg3 rfl rfl) ?_
        refine WL_step rfl rfl (r_assign rfl) ?_
        refine WL_step rfl rfl (r_assign rfl) ?_
        refine WL_nil ?_
        refine thn_nrm (_hK_26 _ _ ?_)
        clear _hK_26
        refine W_seq fun _K_28 _hK_28 => ?_
        refine W_region ?_
        refine WL_step rfl rfl (r_move rfl) ?_
        refine WL_step rfl rfl (r_move rfl) ?_
        refine WL_step rfl rfl (r_eql rfl rfl) ?_
        refine WL_step rfl rfl (r_move rfl) ?_
        refine WL_split (d := 47) rfl (fun _h47 => ?_) (fun _h47 => ?_)
        · have _kb_29 := _h47
          have _h47 := bt_d _h47
          refine WL_step rfl rfl (r_move rfl) ?_
          refine WL_step rfl rfl (r_move rfl) ?_
          refine WL_step rfl rfl (r_shr (by omega) rfl rfl) ?_
          refine WL_step rfl rfl (r_and rfl rfl) ?_
          refine WL_step rfl rfl (r_eql rfl rfl) ?_
          refine WL_step rfl rfl (r_pickT rfl rfl) ?_
          refine WL_nil ?_
          refine thn_nrm (_hK_28 _ _ ?_)
          clear _hK_28
          refine W_cond rfl (fun _h53 => ?_) (fun _h53 => ?_)
          · have _kb_30 := _h53
            have _h53 := bt_d _h53
            refine W_region ?_
            refine WL_step rfl rfl (r_move rfl) ?_
            refine WL_step rfl rfl (r_move rfl) ?_
            refine WL_step rfl rfl (r_add (by omega) rfl rfl) ?_
            refine WL_step rfl rfl (r_shl (by omega) rfl rfl) ?_
            refine WL_step rfl rfl (r_or rfl rfl) ?_
            refine WL_step rfl rfl (r_assign rfl) ?_
            refine WL_nil ?_
            refine inB_nrm ?_
            refine thn_nrm (_hK_25 _ _ ?_)
            clear _hK_25
            refine W_region ?_
            refine WL_step rfl rfl (r_add (by omega) rfl rfl) ?_
            refine WL_step rfl rfl (r_move rfl) ?_
            refine WL_nil ?_
            exact thn_nrm (Exists.intro ((q + 1), (ior o (ishl 1 (((q : Nat) : Int) + 1)))) ⟨⟨E, (by omega), (by omega), (by first | exact out_y _hy42 _h47 (by rw [← hm2]; exact _h53) ho | exact out_n2 _hy42 _h47 ho | exact out_n1 (by rw [← hm2]; exact _h53) ho)⟩, Sub.cons rfl (Sub.cons rfl (Sub.cons rfl (Sub.cons rfl (Sub.cons rfl (Sub.cons rfl (Sub.cons rfl (Sub.nil _))))))), (by first | omega | (dsimp only; omega))⟩)
          · have _kb_30 := _h53
            have _h53 := bf_d _h53
            refine W_skip ?_
            refine inB_nrm ?_
            refine thn_nrm (_hK_25 _ _ ?_)
            clear _hK_25
            refine W_region ?_
            refine WL_step rfl rfl (r_add (by omega) rfl rfl) ?_
            refine WL_step rfl rfl (r_move rfl) ?_
            refine WL_nil ?_
            exact thn_nrm (Exists.intro ((q + 1), o) ⟨⟨E, (by omega), (by omega), (by first | exact out_y _hy42 _h47 (by rw [← hm2]; exact _h53) ho | exact out_n2 _hy42 _h47 ho | exact out_n1 (by rw [← hm2]; exact _h53) ho)⟩, Sub.cons rfl (Sub.cons rfl (Sub.cons rfl (Sub.cons rfl (Sub.cons rfl (Sub.cons rfl (Sub.cons rfl (Sub.nil _))))))), (by first | omega | (dsimp only; omega))⟩)
        · have _kb_29 := _h47
          have _h47 := bf_d _h47
          refine WL_skip rfl rfl ?_
          refine WL_skip rfl rfl ?_
          refine WL_skip rfl rfl ?_
          refine WL_skip rfl rfl ?_
          refine WL_skip rfl rfl ?_
          refine WL_step rfl rfl (r_pickF rfl rfl) ?_
          refine WL_nil ?_
          refine thn_nrm (_hK_28 _ _ ?_)
          clear _hK_28
          refine W_condF rfl ?_
          refine W_skip ?_
          refine inB_nrm ?_
          refine thn_nrm (_hK_25 _ _ ?_)
          clear _hK_25
          refine W_region ?_
          refine WL_step rfl rfl (r_add (by omega) rfl rfl) ?_
          refine WL_step rfl rfl (r_move rfl) ?_
          refine WL_nil ?_
          exact thn_nrm (Exists.intro ((q + 1), o) ⟨⟨E, (by omega), (by omega), (by first | exact out_y _hy42 _h47 (by rw [← hm2]; exact _h53) ho | exact out_n2 _hy42 _h47 ho | exact out_n1 (by rw [← hm2]; exact _h53) ho)⟩, Sub.cons rfl (Sub.cons rfl (Sub.cons rfl (Sub.cons rfl (Sub.cons rfl (Sub.cons rfl (Sub.cons rfl (Sub.nil _))))))), (by first | omega | (dsimp only; omega))⟩)
      · have _kb_24 := _h40
        have _h40 := bf_d _h40
        refine W_exit (thn_exit (thn_exit (inB_hit ?_)))
        refine thn_nrm (_hK_19 _ _ ?_)
        clear _hK_19
        refine W_seq fun _K_31 _hK_31 => ?_
        refine W_region ?_
        refine WL_step rfl rfl (r_move rfl) ?_
        refine WL_step rfl rfl (r_assign rfl) ?_
        refine WL_nil ?_
        refine thn_nrm (_hK_31 _ _ ?_)
        clear _hK_31
        refine W_ret ?_
        clear _hK_11 _hK_23
        exact ret_intro [_] ⟨rfl, trivial⟩ ⟨congrArg (Value.int .i64) (by unfold afterP; rw [ho, show q = pL.length by omega]), E⟩
  · have _kb_6 := _h15
    have _h15 := bf_d _h15
    refine W_skip ?_
    refine thn_nrm (_hK_4 _ _ ?_)
    clear _hK_4
    refine W_seq fun _K_32 _hK_32 => ?_
    refine W_seq fun _K_33 _hK_33 => ?_
    refine W_region ?_
    refine WL_step rfl rfl (r_fieldAddr fa37_3 rfl) ?_
    refine WL_step rfl rfl (r_loadAt _m3.at_ agg32 rfl rfl) ?_
    refine WL_step rfl rfl (r_len (by rw [el32]; rfl) rfl) ?_
    refine WL_step rfl rfl (r_move rfl) ?_
    refine WL_nil ?_
    refine thn_nrm (_hK_33 _ _ ?_)
    clear _hK_33
    refine W_block ?_
    refine W_loop (σ := Nat × Int) (fun ⟨k, m⟩ => [(1, (.int .i64 set)), (2, (.int .i64 letter)), (3, (.pointer (some ⟨_b3, 0, none⟩))), (6, (.int .i64 0)), (7, (.int .i64 m)), (19, (.slice _A_pF pF.length _C_pF)), (20, (.int .i64 ((pF.length : Nat) : Int))), (21, (.int .i64 ((k : Nat) : Int)))]) (fun ⟨k, m⟩ wx => Ch [] w wx ∧ _w_2.heap.size ≤ wx.heap.size ∧ (k ≤ pL.length) ∧ (m = nxt pF set (if iand set 1 = 1 then pfirst else 0) k) ∧ Blk wx _b3 37 [(.slice _A_pL pL.length _C_pL), (.int .i64 pfirst), (.int .i64 plast), (.slice _A_pF pF.length _C_pF), (.bool pnull)]) (fun ⟨k, m⟩ => pL.length - k) (0, 0) (Sub.cons rfl (Sub.cons rfl (Sub.cons rfl (Sub.cons rfl (Sub.cons rfl (Sub.cons rfl (Sub.cons rfl (Sub.cons rfl (Sub.nil _))))))))) ⟨E, (Nat.le_refl _), (by omega), (by first | exact (if_pos _h15).symm | exact (if_neg _h15).symm), _m3⟩ ?_
    rintro ⟨k, m⟩ _wr_34 ⟨E, _zz0, _hk, hm, _F0_0⟩
    have _E0h := E
    have _E0hz := _E0h.size
    have _F0_0z := _F0_0.lt
    refine W_seq fun _K_35 _hK_35 => ?_
    refine W_region ?_
    refine WL_step rfl rfl (r_lss rfl rfl) ?_
    refine WL_nil ?_
    refine thn_nrm (_hK_35 _ _ ?_)
    clear _hK_35
    refine W_seq fun _K_36 _hK_36 => ?_
    refine W_cond rfl (fun _h22 => ?_) (fun _h22 => ?_)
    · have _kb_37 := _h22
      have _h22 := bt_d _h22
      refine W_skip ?_
      refine thn_nrm (_hK_36 _ _ ?_)
      clear _hK_36
      refine W_seq fun _K_38 _hK_38 => ?_
      refine W_block ?_
      refine W_seq fun _K_39 _hK_39 => ?_
      refine W_region ?_
      refine WL_step rfl rfl (r_move rfl) ?_
      refine WL_s rfl rfl ?_
      have _f_40 := (_h_pF.ch0 _E0h)
      refine (s_index _f_40 ics_len el32 sz3 rfl rfl rfl (by omega) fun _p24 _y24 _hy24 _a24 => ?_)
      refine WL_step rfl rfl (r_loadAt0 _a24 agg3 rfl rfl) ?_
      refine WL_step rfl rfl (r_assign rfl) ?_
      refine WL_step rfl rfl (r_assign rfl) ?_
      refine WL_nil ?_
      refine thn_nrm (_hK_39 _ _ ?_)
      clear _hK_39
      refine W_seq fun _K_41 _hK_41 => ?_
      refine W_region ?_
      refine WL_step rfl rfl (r_move rfl) ?_
      refine WL_step rfl rfl (r_move rfl) ?_
      refine WL_step rfl rfl (r_add (by omega) rfl rfl) ?_
      refine WL_step rfl rfl (r_shr (by omega) rfl rfl) ?_
      refine WL_step rfl rfl (r_and rfl rfl) ?_
      refine WL_step rfl rfl (r_eql rfl rfl) ?_
      refine WL_nil ?_
      refine thn_nrm (_hK_41 _ _ ?_)
      clear _hK_41
      refine W_cond rfl (fun _h31 => ?_) (fun _h31 => ?_)
      · have _kb_42 := _h31
        have _h31 := bt_d _h31
        refine W_region ?_
        refine WL_step rfl rfl (r_move rfl) ?_
        refine WL_step rfl rfl (r_move rfl) ?_
        refine WL_step rfl rfl (r_or rfl rfl) ?_
        refine WL_step rfl rfl (r_assign rfl) ?_
        refine WL_nil ?_
        refine inB_nrm ?_
        refine thn_nrm (_hK_38 _ _ ?_)
        clear _hK_38
        refine W_region ?_
        refine WL_step rfl rfl (r_add (by omega) rfl rfl) ?_
        refine WL_step rfl rfl (r_move rfl) ?_
        refine WL_nil ?_
        exact thn_nrm (Exists.intro ((k + 1), (ior m _y24)) ⟨⟨E, (by omega), (by omega), (by first | exact nxt_y _h31 hm _hy24 | exact nxt_n _h31 hm), _F0_0⟩, Sub.cons rfl (Sub.cons rfl (Sub.cons rfl (Sub.cons rfl (Sub.cons rfl (Sub.cons rfl (Sub.cons rfl (Sub.cons rfl (Sub.nil _)))))))), (by first | omega | (dsimp only; omega))⟩)
      · have _kb_42 := _h31
        have _h31 := bf_d _h31
        refine W_skip ?_
        refine inB_nrm ?_
        refine thn_nrm (_hK_38 _ _ ?_)
        clear _hK_38
        refine W_region ?_
        refine WL_step rfl rfl (r_add (by omega) rfl rfl) ?_
        refine WL_step rfl rfl (r_move rfl) ?_
        refine WL_nil ?_
        exact thn_nrm (Exists.intro ((k + 1), m) ⟨⟨E, (by omega), (by omega), (by first | exact nxt_y _h31 hm _hy24 | exact nxt_n _h31 hm), _F0_0⟩, Sub.cons rfl (Sub.cons rfl (Sub.cons rfl (Sub.cons rfl (Sub.cons rfl (Sub.cons rfl (Sub.cons rfl (Sub.cons rfl (Sub.nil _)))))))), (by first | omega | (dsimp only; omega))⟩)
    · have _kb_37 := _h22
      have _h22 := bf_d _h22
      refine W_exit (thn_exit (thn_exit (inB_hit ?_)))
      refine thn_nrm (_hK_32 _ _ ?_)
      clear _hK_32
      refine W_seq fun _K_43 _hK_43 => ?_
      refine W_region ?_
      refine WL_step rfl rfl (r_assign rfl) ?_
      refine WL_nil ?_
      refine thn_nrm (_hK_43 _ _ ?_)
      clear _hK_43
      refine W_seq fun _K_44 _hK_44 => ?_
      refine W_seq fun _K_45 _hK_45 => ?_
      refine W_region ?_
      refine WL_step rfl rfl (r_fieldAddr fa37_0 rfl) ?_
      refine WL_step rfl rfl (r_loadAt _F0_0.at_ agg32 rfl rfl) ?_
      refine WL_step rfl rfl (r_len (by rw [el32]; rfl) rfl) ?_
      refine WL_step rfl rfl (r_move rfl) ?_
      refine WL_nil ?_
      refine thn_nrm (_hK_45 _ _ ?_)
      clear _hK_45
      refine W_block ?_
      refine W_loop (σ := Nat × Int) (fun ⟨q, o⟩ => [(2, (.int .i64 letter)), (6, (.int .i64 0)), (7, (.int .i64 m)), (10, (.int .i64 o)), (37, (.slice _A_pL pL.length _C_pL)), (38, (.int .i64 ((pL.length : Nat) : Int))), (39, (.int .i64 ((q : Nat) : Int)))]) (fun ⟨q, o⟩ wx => Ch [] w wx ∧ _wr_34.heap.size ≤ wx.heap.size ∧ (q ≤ pL.length) ∧ (o = outP pL (nxt pF set (if iand set 1 = 1 then pfirst else 0) pL.length) letter q)) (fun ⟨q, o⟩ => pL.length - q) (0, 0) (Sub.cons rfl (Sub.cons rfl (Sub.cons rfl (Sub.cons rfl (Sub.cons rfl (Sub.cons rfl (Sub.cons rfl (Sub.nil _)))))))) ⟨E, (Nat.le_refl _), (by omega), rfl⟩ ?_
      rintro ⟨q, o⟩ _wr_46 ⟨E, _zz1, hq, ho⟩
      have _E1h := E
      have _E1hz := _E1h.size
      have hm2 : m = nxt pF set (if iand set 1 = 1 then pfirst else 0) pL.length := by rw [hm, show k = pL.length by omega]
      refine W_seq fun _K_47 _hK_47 => ?_
      refine W_region ?_
      refine WL_step rfl rfl (r_lss rfl rfl) ?_
      refine WL_nil ?_
      refine thn_nrm (_hK_47 _ _ ?_)
      clear _hK_47
      refine W_seq fun _K_48 _hK_48 => ?_
      refine W_cond rfl (fun _h40 => ?_) (fun _h40 => ?_)
      · have _kb_49 := _h40
        have _h40 := bt_d _h40
        refine W_skip ?_
        refine thn_nrm (_hK_48 _ _ ?_)
        clear _hK_48
        refine W_seq fun _K_50 _hK_50 => ?_
        refine W_block ?_
        refine W_seq fun _K_51 _hK_51 => ?_
        refine W_region ?_
        refine WL_step rfl rfl (r_move rfl) ?_
        refine WL_s rfl rfl ?_
        have _f_52 := (_h_pL.ch0 _E1h)
        refine (s_index _f_52 ics_len el32 sz3 rfl rfl rfl (by omega) fun _p42 _y42 _hy42 _a42 => ?_)
        refine WL_step rfl rfl (r_loadAt0 _a42 agg3 rfl rfl) ?_
        refine WL_step rfl rfl (r_assign rfl) ?_
        refine WL_step rfl rfl (r_assign rfl) ?_
        refine WL_nil ?_
        refine thn_nrm (_hK_51 _ _ ?_)
        clear _hK_51
        refine W_seq fun _K_53 _hK_53 => ?_
        refine W_region ?_
        refine WL_step rfl rfl (r_move rfl) ?_
        refine WL_step rfl rfl (r_move rfl) ?_
        refine WL_step rfl rfl (r_eql rfl rfl) ?_
        refine WL_step rfl rfl (r_move rfl) ?_
        refine WL_split (d := 47) rfl (fun _h47 => ?_) (fun _h47 => ?_)
        · have _kb_54 := _h47
          have _h47 := bt_d _h47
          refine WL_step rfl rfl (r_move rfl) ?_
          refine WL_step rfl rfl (r_move rfl) ?_
          refine WL_step rfl rfl (r_shr (by omega) rfl rfl) ?_
          refine WL_step rfl rfl (r_and rfl rfl) ?_
          refine WL_step rfl rfl (r_eql rfl rfl) ?_
          refine WL_step rfl rfl (r_pickT rfl rfl) ?_
          refine WL_nil ?_
          refine thn_nrm (_hK_53 _ _ ?_)
          clear _hK_53
          refine W_cond rfl (fun _h53 => ?_) (fun _h53 => ?_)
          · have _kb_55 := _h53
            have _h53 := bt_d _h53
            refine W_region ?_
            refine WL_step rfl rfl (r_move rfl) ?_
            refine WL_step rfl rfl (r_move rfl) ?_
            refine WL_step rfl rfl (r_add (by omega) rfl rfl) ?_
            refine WL_step rfl rfl (r_shl (by omega) rfl rfl) ?_
            refine WL_step rfl rfl (r_or rfl rfl) ?_
            refine WL_step rfl rfl (r_assign rfl) ?_
            refine WL_nil ?_
            refine inB_nrm ?_
            refine thn_nrm (_hK_50 _ _ ?_)
            clear _hK_50
            refine W_region ?_
            refine WL_step rfl rfl (r_add (by omega) rfl rfl) ?_
            refine WL_step rfl rfl (r_move rfl) ?_
            refine WL_nil ?_
            exact thn_nrm (Exists.intro ((q + 1), (ior o (ishl 1 (((q : Nat) : Int) + 1)))) ⟨⟨E, (by omega), (by omega), (by first | exact out_y _hy42 _h47 (by rw [← hm2]; exact _h53) ho | exact out_n2 _hy42 _h47 ho | exact out_n1 (by rw [← hm2]; exact _h53) ho)⟩, Sub.cons rfl (Sub.cons rfl (Sub.cons rfl (Sub.cons rfl (Sub.cons rfl (Sub.cons rfl (Sub.cons rfl (Sub.nil _))))))), (by first | omega | (dsimp only; omega))⟩)
          · have _kb_55 := _h53
            have _h53 := bf_d _h53
            refine W_skip ?_
            refine inB_nrm ?_
            refine thn_nrm (_hK_50 _ _ ?_)
            clear _hK_50
            refine W_region ?_
            refine WL_step rfl rfl (r_add (by omega) rfl rfl) ?_
            refine WL_step rfl rfl (r_move rfl) ?_
            refine WL_nil ?_
            exact thn_nrm (Exists.intro ((q + 1), o) ⟨⟨E, (by omega), (by omega), (by first | exact out_y _hy42 _h47 (by rw [← hm2]; exact _h53) ho | exact out_n2 _hy42 _h47 ho | exact out_n1 (by rw [← hm2]; exact _h53) ho)⟩, Sub.cons rfl (Sub.cons rfl (Sub.cons rfl (Sub.cons rfl (Sub.cons rfl (Sub.cons rfl (Sub.cons rfl (Sub.nil _))))))), (by first | omega | (dsimp only; omega))⟩)
        · have _kb_54 := _h47
          have _h47 := bf_d _h47
          refine WL_skip rfl rfl ?_
          refine WL_skip rfl rfl ?_
          refine WL_skip rfl rfl ?_
          refine WL_skip rfl rfl ?_
          refine WL_skip rfl rfl ?_
          refine WL_step rfl rfl (r_pickF rfl rfl) ?_
          refine WL_nil ?_
          refine thn_nrm (_hK_53 _ _ ?_)
          clear _hK_53
          refine W_condF rfl ?_
          refine W_skip ?_
          refine inB_nrm ?_
          refine thn_nrm (_hK_50 _ _ ?_)
          clear _hK_50
          refine W_region ?_
          refine WL_step rfl rfl (r_add (by omega) rfl rfl) ?_
          refine WL_step rfl rfl (r_move rfl) ?_
          refine WL_nil ?_
          exact thn_nrm (Exists.intro ((q + 1), o) ⟨⟨E, (by omega), (by omega), (by first | exact out_y _hy42 _h47 (by rw [← hm2]; exact _h53) ho | exact out_n2 _hy42 _h47 ho | exact out_n1 (by rw [← hm2]; exact _h53) ho)⟩, Sub.cons rfl (Sub.cons rfl (Sub.cons rfl (Sub.cons rfl (Sub.cons rfl (Sub.cons rfl (Sub.cons rfl (Sub.nil _))))))), (by first | omega | (dsimp only; omega))⟩)
      · have _kb_49 := _h40
        have _h40 := bf_d _h40
        refine W_exit (thn_exit (thn_exit (inB_hit ?_)))
        refine thn_nrm (_hK_44 _ _ ?_)
        clear _hK_44
        refine W_seq fun _K_56 _hK_56 => ?_
        refine W_region ?_
        refine WL_step rfl rfl (r_move rfl) ?_
        refine WL_step rfl rfl (r_assign rfl) ?_
        refine WL_nil ?_
        refine thn_nrm (_hK_56 _ _ ?_)
        clear _hK_56
        refine W_ret ?_
        clear _hK_36 _hK_48
        exact ret_intro [_] ⟨rfl, trivial⟩ ⟨congrArg (Value.int .i64) (by unfold afterP; rw [ho, show q = pL.length by omega]), E⟩

/-- impl.CountRuns -/
theorem c_impl_CountRuns {w : World} {LL_pL _B_pL : Nat} {_v_pL : Value} {pL : List Int} (_h_pL : Ls ics 1 w LL_pL _B_pL _v_pL pL) (pfirst : Int) (plast : Int) {LL_pF _B_pF : Nat} {_v_pF : Value} {pF : List Int} (_h_pF : Ls ics 1 w LL_pF _B_pF _v_pF pF) (pnull : Bool) {LL_wd _B_wd : Nat} {_v_wd : Value} {wd : List Int} (_h_wd : Ls ics 1 w LL_wd _B_wd _v_wd wd) :
    Ctr Try.prog 23 #[(.agg #[_v_pL, (.int .i64 pfirst), (.int .i64 plast), _v_pF, (.bool pnull)]), _v_wd] w (fun v w' => v = .int .i64 (crR pL pfirst plast pF pnull wd) ∧ Ch [] w w') := by
  obtain ⟨_A_pL, _C_pL, _e1_pL⟩ := _h_pL.val
  subst _e1_pL
  have _l_pL := _h_pL.len
  have _h_pL := _h_pL.here (by decide)
  obtain ⟨_A_pF, _C_pF, _e1_pF⟩ := _h_pF.val
  subst _e1_pF
  have _l_pF := _h_pF.len
  have _h_pF := _h_pF.here (by decide)
  obtain ⟨_A_wd, _C_wd, _e1_wd⟩ := _h_wd.val
  subst _e1_wd
  have _l_wd := _h_wd.len
  have _h_wd := _h_wd.here (by decide)
  have E := Ch.refl [] w
  refine Ctr_of_W (N := 95) (vs0 := [(.agg #[(.slice _A_pL pL.length _C_pL), (.int .i64 pfirst), (.int .i64 plast), (.slice _A_pF pF.length _C_pF), (.bool pnull)]), (.slice _A_wd wd.length _C_wd)]) Try.func23 rfl rfl rfl ?_
  refine W_seq fun _K_1 _hK_1 => ?_
  refine W_region ?_
  refine WL_s rfl rfl ?_
  refine s_box rfl fun _b2 _w_2 _m2 _cw_2 _e2 => ?_
  have _cw_2z := _cw_2.size
  have E := E.trans _cw_2
  have _z2 := _m2.lt
  replace _m2 : Blk _w_2 _b2 37 [(.slice _A_pL pL.length _C_pL), (.int .i64 pfirst), (.int .i64 plast), (.slice _A_pF pF.length _C_pF), (.bool pnull)] := _m2
  refine WL_step rfl rfl (r_assign rfl) ?_
  refine WL_nil ?_
  refine thn_nrm (_hK_1 _ _ ?_)
  clear _hK_1
  refine W_seq fun _K_3 _hK_3 => ?_
  refine W_seq fun _K_4 _hK_4 => ?_
  refine W_region ?_
  refine WL_step rfl rfl (r_loadAtA0 _m2.at_ agg37 sz37 rfl) ?_
  refine WL_s rfl rfl ?_
  have _f_5 := (_h_pL.ch0 _cw_2)
  have _f_6 := (_h_pF.ch0 _cw_2)
  refine Step.call (r_call (xs := [.tmp 16]) fk62 rfl) (c_impl_IsValidPositions _f_5 _ _ _f_6 _ ) fun _v17 _w_7 _q17 => ?_
  obtain ⟨rfl, _cw_7⟩ := _q17
  have _cw_7z := _cw_7.size
  have E := E.trans _cw_7
  refine WL_step rfl rfl (r_not rfl) ?_
  refine WL_step rfl rfl (r_move rfl) ?_
  refine WL_split (d := 19) rfl (fun _h19 => ?_) (fun _h19 => ?_)
  · have _kb_8 := _h19
    have _h19 := bf_t (bt_n _h19)
    first | have _v20 := _h19.1 | skip
    first | have w20 := _h23.2 | skip
    refine WL_skip rfl rfl ?_
    refine WL_skip rfl rfl ?_
    refine WL_skip rfl rfl ?_
    refine WL_step rfl rfl (r_pickT rfl rfl) ?_
    refine WL_nil ?_
    refine thn_nrm (_hK_4 _ _ ?_)
    clear _hK_4
    refine W_condT rfl ?_
    refine W_seq fun _K_9 _hK_9 => ?_
    refine W_region ?_
    refine WL_step rfl rfl (r_assign rfl) ?_
    refine WL_nil ?_
    refine thn_nrm (_hK_9 _ _ ?_)
    clear _hK_9
    refine W_ret (thn_ret ?_)
    clear _hK_3
    exact ret_intro [_] ⟨rfl, trivial⟩ ⟨congrArg (Value.int .i64) (by first | exact crr_n (fun e => _h19 e.1) | exact crr_n (fun e => _h23 e.2) | exact crr_y _h19 _h23 _ht (by omega) (by omega)), E⟩
  · have _kb_8 := _h19
    have _h19 := bt_t (bf_n _h19)
    first | have _v20 := _h19.1 | skip
    first | have w20 := _h23.2 | skip
    refine WL_step rfl rfl (r_move rfl) ?_
    refine WL_s rfl rfl ?_
    have _f_10 := ((_h_wd.ch0 _cw_2).ch0 _cw_7)
    refine Step.call (r_call (xs := [.tmp 20]) fk63 rfl) (c_impl_IsWord _f_10 ) fun _v21 _w_11 _q21 => ?_
    obtain ⟨rfl, _cw_11⟩ := _q21
    have _cw_11z := _cw_11.size
    have E := E.trans _cw_11
    refine WL_step rfl rfl (r_not rfl) ?_
    refine WL_step rfl rfl (r_pickF rfl rfl) ?_
    refine WL_nil ?_
    refine thn_nrm (_hK_4 _ _ ?_)
    clear _hK_4
    refine W_cond rfl (fun _h23 => ?_) (fun _h23 => ?_)
    · have _kb_12 := _h23
      have _h23 := bf_t (bt_n _h23)
      refine W_seq fun _K_13 _hK_13 => ?_
      refine W_region ?_
      refine WL_step rfl rfl (r_assign rfl) ?_
      refine WL_nil ?_
      refine thn_nrm (_hK_13 _ _ ?_)
      clear _hK_13
      refine W_ret (thn_ret ?_)
      clear _hK_3
      exact ret_intro [_] ⟨rfl, trivial⟩ ⟨congrArg (Value.int .i64) (by first | exact crr_n (fun e => _h19 e.1) | exact crr_n (fun e => _h23 e.2) | exact crr_y _h19 _h23 _ht (by omega) (by omega)), E⟩
    · have _kb_12 := _h23
      have _h23 := bt_t (bf_n _h23)
      refine W_skip ?_
      refine thn_nrm (_hK_3 _ _ ?_)
      clear _hK_3
      refine W_seq fun _K_14 _hK_14 => ?_
      refine W_region ?_
      refine WL_step rfl rfl (r_fieldAddr fa37_0 rfl) ?_
      have _f_15 := ((_m2.ch0 _cw_7).ch0 _cw_11)
      refine WL_step rfl rfl (r_loadAt _f_15.at_ agg32 rfl rfl) ?_
      refine WL_step rfl rfl (r_len (by rw [el32]; rfl) rfl) ?_
      refine WL_step rfl rfl (r_add (by omega) rfl rfl) ?_
      refine WL_step rfl rfl (r_assign rfl) ?_
      refine WL_nil ?_
      refine thn_nrm (_hK_14 _ _ ?_)
      clear _hK_14
      refine W_seq fun _K_16 _hK_16 => ?_
      refine W_region ?_
      refine WL_step rfl rfl (r_move rfl) ?_
      refine WL_s rfl rfl ?_
      refine s_make (cs := ics) (n := (pL.length + 1)) (0 : Int) el32 sz3 by3 zr3 ics_len (by decide) rfl rfl (by omega) (by omega) fun _v29 _w_17 _q29 _lo29 _cw_17 => ?_
      have _cw_17z := _cw_17.size
      have E := E.trans _cw_17
      obtain ⟨_Av29, _Cv29, _ev29⟩ := _q29.val
      subst _ev29
      have _lv29 := _q29.len
      have _hiv29 := _q29.lt
      refine WL_step rfl rfl (r_assign rfl) ?_
      refine WL_nil ?_
      refine thn_nrm (_hK_16 _ _ ?_)
      clear _hK_16
      refine W_seq fun _K_18 _hK_18 => ?_
      refine W_region ?_
      refine WL_step rfl rfl (r_move rfl) ?_
      refine WL_s rfl rfl ?_
      refine s_indexO (j := 0) _q29 el32 sz3 rfl rfl rfl (by (first | omega | (simp only [List.length_replicate, List.length_set, crN_len, crS_len, crK_len]; omega))) fun _g31 _o31 _cp31 _q31 => ?_
      refine WL_s rfl rfl ?_
      refine s_storeO (j := 0) 1 _q29 _q31 ics_len sz3 rfl rfl rfl rfl (by (first | omega | (simp only [List.length_replicate, List.length_set, crN_len, crS_len, crK_len]; omega))) fun _w_19 _o_20 _cw_19 => ?_
      have _cw_19z := _cw_19.size
      have E := E.step _cw_19 (fun i hi => .inl (by have _h1 := _lo29 _ hi; omega))
      refine WL_nil ?_
      refine thn_nrm (_hK_18 _ _ ?_)
      clear _hK_18
      refine W_seq fun _K_21 _hK_21 => ?_
      refine W_seq fun _K_22 _hK_22 => ?_
      refine W_region ?_
      refine WL_step rfl rfl (r_move rfl) ?_
      refine WL_step rfl rfl (r_len (by rw [el32]; rfl) rfl) ?_
      refine WL_step rfl rfl (r_move rfl) ?_
      refine WL_nil ?_
      refine thn_nrm (_hK_22 _ _ ?_)
      clear _hK_22
      refine W_block ?_
      have _oi_23 : Ol ics 3 1 _w_19 (.slice _Av29 ((List.replicate (pL.length + 1) (0 : Int))).length _Cv29) (crN pL pfirst pF wd 0) := by
        have hx := _o_20
        exact hx
      have _f_24 := ((_f_15.ch0 _cw_17).ch _cw_19 (fun hm => by have _h1 := _lo29 _ hm; have _h2 := _hiv29 _ hm; omega))
      have _f_25 := ((((_f_5.ch0 _cw_7).ch0 _cw_11).ch0 _cw_17).ch _cw_19 (fun i hi => by have _h1 := _lo29 _ hi; omega))
      have _f_26 := ((((_f_6.ch0 _cw_7).ch0 _cw_11).ch0 _cw_17).ch _cw_19 (fun i hi => by have _h1 := _lo29 _ hi; omega))
      have _f_27 := (((_f_10.ch0 _cw_11).ch0 _cw_17).ch _cw_19 (fun i hi => by have _h1 := _lo29 _ hi; omega))
      refine W_loop (σ := Nat × Value) (fun ⟨i, nv⟩ => [(2, (.pointer (some ⟨_b2, 0, none⟩))), (4, (.int .i64 0)), (5, (.int .i64 (((pL.length : Nat) : Int) + 1))), (6, nv), (32, (.slice _A_wd wd.length _C_wd)), (33, (.int .i64 ((wd.length : Nat) : Int))), (34, (.int .i64 ((i : Nat) : Int)))]) (fun ⟨i, nv⟩ wx => Ch [] w wx ∧ _w_19.heap.size ≤ wx.heap.size ∧ (i ≤ wd.length) ∧ Blk wx _b2 37 [(.slice _A_pL pL.length _C_pL), (.int .i64 pfirst), (.int .i64 plast), (.slice _A_pF pF.length _C_pF), (.bool pnull)] ∧ Ls ics 1 wx LL_pL w.heap.size (.slice _A_pL pL.length _C_pL) pL ∧ Ls ics 1 wx LL_pF w.heap.size (.slice _A_pF pF.length _C_pF) pF ∧ Ls ics 1 wx LL_wd w.heap.size (.slice _A_wd wd.length _C_wd) wd ∧ Ol ics 3 1 wx nv (crN pL pfirst pF wd i) ∧ Lo _w_11.heap.size nv) (fun ⟨i, nv⟩ => wd.length - i) (0, (.slice _Av29 ((List.replicate (pL.length + 1) (0 : Int))).length _Cv29)) (Sub.cons rfl (Sub.cons rfl (Sub.cons rfl (Sub.cons rfl (Sub.cons rfl (Sub.cons rfl (Sub.cons rfl (Sub.nil _)))))))) ⟨E, (Nat.le_refl _), (by omega), _f_24, _f_25, _f_26, _f_27, _oi_23, _lo29⟩ ?_
      rintro ⟨i, nv⟩ _wr_28 ⟨E, _zz0, hi, _F0_0, _F0_1, _F0_2, _F0_3, _o0_6, _lo0_6⟩
      have _E0h := E
      have _E0hz := _E0h.size
      have _F0_0z := _F0_0.lt
      obtain ⟨Anv, Cnv, env⟩ := _o0_6.val
      subst env
      have lnv := _o0_6.len
      have hinv := _o0_6.lt
      have nn := crN_len pL pfirst pF wd i
      have _v20 := _h19.1
      refine W_seq fun _K_29 _hK_29 => ?_
      refine W_region ?_
      refine WL_step rfl rfl (r_lss rfl rfl) ?_
      refine WL_nil ?_
      refine thn_nrm (_hK_29 _ _ ?_)
      clear _hK_29
      refine W_seq fun _K_30 _hK_30 => ?_
      refine W_cond rfl (fun _h35 => ?_) (fun _h35 => ?_)
      · have _kb_31 := _h35
        have _h35 := bt_d _h35
        refine W_skip ?_
        refine thn_nrm (_hK_30 _ _ ?_)
        clear _hK_30
        refine W_seq fun _K_32 _hK_32 => ?_
        refine W_block ?_
        refine W_seq fun _K_33 _hK_33 => ?_
        refine W_region ?_
        refine WL_s rfl rfl ?_
        refine (s_index _F0_3 ics_len el32 sz3 rfl rfl rfl (by omega) fun _p36 _y36 _hy36 _a36 => ?_)
        refine WL_step rfl rfl (r_loadAt0 _a36 agg3 rfl rfl) ?_
        refine WL_step rfl rfl (r_assign rfl) ?_
        refine WL_nil ?_
        refine thn_nrm (_hK_33 _ _ ?_)
        clear _hK_33
        refine W_seq fun _K_34 _hK_34 => ?_
        refine W_region ?_
        refine WL_step rfl rfl (r_move rfl) ?_
        refine WL_s rfl rfl ?_
        refine s_make (cs := ics) (n := (pL.length + 1)) (0 : Int) el32 sz3 by3 zr3 ics_len (by decide) rfl rfl (by omega) (by omega) fun _v39 _w_35 _q39 _lo39 _cw_35 => ?_
        have _cw_35z := _cw_35.size
        have E := E.trans _cw_35
        obtain ⟨_Av39, _Cv39, _ev39⟩ := _q39.val
        subst _ev39
        have _lv39 := _q39.len
        have _hiv39 := _q39.lt
        refine WL_step rfl rfl (r_assign rfl) ?_
        refine WL_nil ?_
        refine thn_nrm (_hK_34 _ _ ?_)
        clear _hK_34
        refine W_seq fun _K_36 _hK_36 => ?_
        refine W_seq fun _K_37 _hK_37 => ?_
        refine W_region ?_
        refine WL_step rfl rfl (r_move rfl) ?_
        refine WL_step rfl rfl (r_len (by rw [el32]; rfl) rfl) ?_
        refine WL_step rfl rfl (r_move rfl) ?_
        refine WL_nil ?_
        refine thn_nrm (_hK_37 _ _ ?_)
        clear _hK_37
        refine W_block ?_
        have _oi_38 : Ol ics 3 1 _w_35 (.slice _Av39 ((List.replicate (pL.length + 1) (0 : Int))).length _Cv39) (crS pL pfirst pF wd i 0) := by
          have hx := _q39
          exact hx
        have _f_39 := (_F0_0.ch0 _cw_35)
        have _f_40 := (_F0_1.ch0 _cw_35)
        have _f_41 := (_F0_2.ch0 _cw_35)
        have _f_42 := (_F0_3.ch0 _cw_35)
        have _f_43 := (_o0_6.ch0 _cw_35)
        refine W_loop (σ := Nat) (fun (s : Nat) => [(2, (.pointer (some ⟨_b2, 0, none⟩))), (4, (.int .i64 0)), (5, (.int .i64 (((pL.length : Nat) : Int) + 1))), (6, (.slice Anv (crN pL pfirst pF wd i).length Cnv)), (8, (.int .i64 _y36)), (9, (.slice _Av39 ((List.replicate (pL.length + 1) (0 : Int))).length _Cv39)), (32, (.slice _A_wd wd.length _C_wd)), (33, (.int .i64 ((wd.length : Nat) : Int))), (34, (.int .i64 ((i : Nat) : Int))), (35, (.bool (decide (((i : Nat) : Int) < ((wd.length : Nat) : Int))))), (40, (.slice Anv (crN pL pfirst pF wd i).length Cnv)), (41, (.int .i64 (((crN pL pfirst pF wd i).length : Nat) : Int))), (42, (.int .i64 ((s : Nat) : Int)))]) (fun (s : Nat) wx => Ch [] w wx ∧ _w_35.heap.size ≤ wx.heap.size ∧ (s ≤ pL.length + 1) ∧ Blk wx _b2 37 [(.slice _A_pL pL.length _C_pL), (.int .i64 pfirst), (.int .i64 plast), (.slice _A_pF pF.length _C_pF), (.bool pnull)] ∧ Ls ics 1 wx LL_pL w.heap.size (.slice _A_pL pL.length _C_pL) pL ∧ Ls ics 1 wx LL_pF w.heap.size (.slice _A_pF pF.length _C_pF) pF ∧ Ls ics 1 wx LL_wd w.heap.size (.slice _A_wd wd.length _C_wd) wd ∧ Ol ics 3 1 wx (.slice Anv (crN pL pfirst pF wd i).length Cnv) (crN pL pfirst pF wd i) ∧ Ol ics 3 1 wx (.slice _Av39 ((List.replicate (pL.length + 1) (0 : Int))).length _Cv39) (crS pL pfirst pF wd i s)) (fun (s : Nat) => pL.length + 1 - s) 0 (Sub.cons rfl (Sub.cons rfl (Sub.cons rfl (Sub.cons rfl (Sub.cons rfl (Sub.cons rfl (Sub.cons rfl (Sub.cons rfl (Sub.cons rfl (Sub.cons rfl (Sub.cons rfl (Sub.cons rfl (Sub.cons rfl (Sub.nil _)))))))))))))) ⟨E, (Nat.le_refl _), (by omega), _f_39, _f_40, _f_41, _f_42, _f_43, _oi_38⟩ ?_
        rintro s _wr_44 ⟨E, _zz1, hs, _F1_0, _F1_1, _F1_2, _F1_3, _F1_4, _o1_9⟩
        have _E1h := E
        have _E1hz := _E1h.size
        have _F1_0z := _F1_0.lt
        have ns := crS_len pL pfirst pF wd i s
        refine W_seq fun _K_45 _hK_45 => ?_
        refine W_region ?_
        refine WL_step rfl rfl (r_lss rfl rfl) ?_
        refine WL_nil ?_
        refine thn_nrm (_hK_45 _ _ ?_)
        clear _hK_45
        refine W_seq fun _K_46 _hK_46 => ?_
        refine W_cond rfl (fun _h43 => ?_) (fun _h43 => ?_)
        · have _kb_47 := _h43
          have _h43 := bt_d _h43
          refine W_skip ?_
          refine thn_nrm (_hK_46 _ _ ?_)
          clear _hK_46
          refine W_seq fun _K_48 _hK_48 => ?_
          refine W_block ?_
          refine W_seq fun _K_49 _hK_49 => ?_
          refine W_region ?_
          refine WL_step rfl rfl (r_move rfl) ?_
          refine WL_s rfl rfl ?_
          refine (s_index _F1_4.ls ics_len el32 sz3 rfl rfl rfl (by omega) fun _p45 _y45 _hy45 _a45 => ?_)
          have c45 := crn_val _hy45
          refine WL_step rfl rfl (r_loadAt0 _a45 agg3 rfl rfl) ?_
          refine WL_step rfl rfl (r_assign rfl) ?_
          refine WL_step rfl rfl (r_assign rfl) ?_
          refine WL_nil ?_
          refine thn_nrm (_hK_49 _ _ ?_)
          clear _hK_49
          refine W_seq fun _K_50 _hK_50 => ?_
          refine W_region ?_
          refine WL_step rfl rfl (r_assign rfl) ?_
          refine WL_nil ?_
          refine thn_nrm (_hK_50 _ _ ?_)
          clear _hK_50
          refine W_block ?_
          have _oi_51 : Ol ics 3 1 _wr_44 (.slice _Av39 ((List.replicate (pL.length + 1) (0 : Int))).length _Cv39) (crK pL pfirst pF wd i s 0) := by
            have hx := _o1_9
            exact hx
          refine W_loop (σ := Nat) (fun (k : Nat) => [(2, (.pointer (some ⟨_b2, 0, none⟩))), (4, (.int .i64 0)), (5, (.int .i64 (((pL.length : Nat) : Int) + 1))), (6, (.slice Anv (crN pL pfirst pF wd i).length Cnv)), (8, (.int .i64 _y36)), (9, (.slice _Av39 ((List.replicate (pL.length + 1) (0 : Int))).length _Cv39)), (10, (.int .i64 ((s : Nat) : Int))), (11, (.int .i64 _y45)), (12, (.int .i64 ((k : Nat) : Int))), (32, (.slice _A_wd wd.length _C_wd)), (33, (.int .i64 ((wd.length : Nat) : Int))), (34, (.int .i64 ((i : Nat) : Int))), (35, (.bool (decide (((i : Nat) : Int) < ((wd.length : Nat) : Int))))), (40, (.slice Anv (crN pL pfirst pF wd i).length Cnv)), (41, (.int .i64 (((crN pL pfirst pF wd i).length : Nat) : Int))), (42, (.int .i64 ((s : Nat) : Int))), (43, (.bool (decide (((s : Nat) : Int) < (((crN pL pfirst pF wd i).length : Nat) : Int)))))]) (fun (k : Nat) wx => Ch [] w wx ∧ _wr_44.heap.size ≤ wx.heap.size ∧ (k ≤ pL.length + 1) ∧ Blk wx _b2 37 [(.slice _A_pL pL.length _C_pL), (.int .i64 pfirst), (.int .i64 plast), (.slice _A_pF pF.length _C_pF), (.bool pnull)] ∧ Ls ics 1 wx LL_pL w.heap.size (.slice _A_pL pL.length _C_pL) pL ∧ Ls ics 1 wx LL_pF w.heap.size (.slice _A_pF pF.length _C_pF) pF ∧ Ls ics 1 wx LL_wd w.heap.size (.slice _A_wd wd.length _C_wd) wd ∧ Ol ics 3 1 wx (.slice Anv (crN pL pfirst pF wd i).length Cnv) (crN pL pfirst pF wd i) ∧ Ol ics 3 1 wx (.slice _Av39 ((List.replicate (pL.length + 1) (0 : Int))).length _Cv39) (crK pL pfirst pF wd i s k)) (fun (k : Nat) => pL.length + 1 - k) 0 (Sub.cons rfl (Sub.cons rfl (Sub.cons rfl (Sub.cons rfl (Sub.cons rfl (Sub.cons rfl (Sub.cons rfl (Sub.cons rfl (Sub.cons rfl (Sub.cons rfl (Sub.cons rfl (Sub.cons rfl (Sub.cons rfl (Sub.cons rfl (Sub.cons rfl (Sub.cons rfl (Sub.cons rfl (Sub.nil _)))))))))))))))))) ⟨E, (Nat.le_refl _), (by omega), _F1_0, _F1_1, _F1_2, _F1_3, _F1_4, _oi_51⟩ ?_
          rintro k _wr_52 ⟨E, _zz2, _hk, _F2_0, _F2_1, _F2_2, _F2_3, _F2_4, _o2_9⟩
          have _E2h := E
          have _E2hz := _E2h.size
          have _F2_0z := _F2_0.lt
          have nk := crK_len pL pfirst pF wd i s k
          refine W_seq fun _K_53 _hK_53 => ?_
          refine W_seq fun _K_54 _hK_54 => ?_
          refine W_region ?_
          refine WL_step rfl rfl (r_move rfl) ?_
          refine WL_step rfl rfl (r_gtr rfl rfl) ?_
          refine WL_step rfl rfl (r_move rfl) ?_
          refine WL_split (d := 49) rfl (fun _h49 => ?_) (fun _h49 => ?_)
          · have _kb_55 := _h49
            have _h49 := bt_d _h49
            refine WL_step rfl rfl (r_move rfl) ?_
            refine WL_step rfl rfl (r_move rfl) ?_
            refine WL_step rfl rfl (r_lss rfl rfl) ?_
            refine WL_step rfl rfl (r_pickT rfl rfl) ?_
            refine WL_nil ?_
            refine thn_nrm (_hK_54 _ _ ?_)
            clear _hK_54
            refine W_cond rfl (fun _h53 => ?_) (fun _h53 => ?_)
            · have _kb_56 := _h53
              have _h53 := bt_d _h53
              refine W_skip ?_
              refine thn_nrm (_hK_53 _ _ ?_)
              clear _hK_53
              refine W_seq fun _K_57 _hK_57 => ?_
              refine W_block ?_
              refine W_seq fun _K_58 _hK_58 => ?_
              refine W_drawC [] 9 mixed rfl fun _w_59 _cw_59 => ?_
              have _cw_59z := _cw_59.size
              have E := E.trans _cw_59
              have _f_60 := (_F2_0.ch0 _cw_59)
              refine DR_s 0 rfl (by kernel_rfl) rfl rfl (t_loadAtA0 _f_60.at_ (fun i hi => absurd hi List.not_mem_nil) agg37 sz37 rfl ?_)
              refine DR_s 1 rfl (by kernel_rfl) rfl rfl (t_v (fun _ => (r_move rfl)) ?_)
              refine DR_s 2 rfl (by kernel_rfl) rfl rfl (t_v (fun _ => (r_shl (by omega) rfl rfl)) ?_)
              refine DR_s 3 rfl (by kernel_rfl) rfl rfl (t_v (fun _ => (r_move rfl)) ?_)
              refine DR_s 5 rfl (by kernel_rfl) rfl rfl (t_v (fun _ => (r_move rfl)) ?_)
              refine DR_one 4 (by kernel_rfl) ?_
              refine DO_s rfl rfl rfl ?_
              have _f_61 := (_F2_1.ch0 _cw_59)
              have _f_62 := (_F2_2.ch0 _cw_59)
              refine Step.call (r_call (xs := [.tmp 56, .tmp 58, .tmp 59]) fk64 rfl) (c_impl_Positions_after _f_61 _ _ _f_62 _ _ _ _h19.2.1 _h19.1) fun _v60 _w_63 _q60 => ?_
              obtain ⟨rfl, _cw_63⟩ := _q60
              have _cw_63z := _cw_63.size
              have E := E.trans _cw_63
              have _S_64 : Ch [] _w_59 _w_63 := ((Ch.refl _ _).trans _cw_63)
              refine ⟨_S_64, ?_⟩
              refine DR_s 6 rfl (by kernel_rfl) rfl rfl (t_v (fun _ => (r_shr (by omega) rfl rfl)) ?_)
              refine DR_s 7 rfl (by kernel_rfl) rfl rfl (t_v (fun _ => (r_and rfl rfl)) ?_)
              refine DR_s 8 rfl (by kernel_rfl) rfl rfl (t_v (fun _ => (r_eql rfl rfl)) ?_)
              refine DR_done (by kernel_rfl) ?_
              refine thn_nrm (_hK_58 _ _ ?_)
              clear _hK_58
              refine W_cond rfl (fun _h64 => ?_) (fun _h64 => ?_)
              · have _kb_65 := _h64
                have _h64 := bt_d _h64
                refine W_region ?_
                refine WL_step rfl rfl (r_move rfl) ?_
                refine WL_step rfl rfl (r_move rfl) ?_
                refine WL_step rfl rfl (r_move rfl) ?_
                refine WL_step rfl rfl (r_move rfl) ?_
                refine WL_s rfl rfl ?_
                have _f_66 := ((_o2_9.ch0 _cw_59).ch0 _cw_63)
                refine (s_index _f_66.ls ics_len el32 sz3 rfl rfl rfl (by omega) fun _p69 _y69 _hy69 _a69 => ?_)
                have c69 := crk_val _hy69
                refine WL_step rfl rfl (r_loadAt0 _a69 agg3 rfl rfl) ?_
                refine WL_step rfl rfl (r_move rfl) ?_
                refine WL_step rfl rfl (r_add (by omega) rfl rfl) ?_
                refine WL_step rfl rfl (r_min rfl rfl) ?_
                refine WL_s rfl rfl ?_
                refine s_indexO (j := k) _f_66 el32 sz3 rfl rfl rfl (by (first | omega | (simp only [List.length_replicate, List.length_set, crN_len, crS_len, crK_len]; omega))) fun _g74 _o74 _cp74 _q74 => ?_
                refine WL_s rfl rfl ?_
                refine s_storeO (j := k) (if (_y69 + _y45) < 1000000 then (_y69 + _y45) else 1000000) _f_66 _q74 ics_len sz3 rfl rfl rfl rfl (by (first | omega | (simp only [List.length_replicate, List.length_set, crN_len, crS_len, crK_len]; omega))) fun _w_67 _o_68 _cw_67 => ?_
                have _cw_67z := _cw_67.size
                have E := E.step _cw_67 (fun i hi => .inl (by have _h1 := _lo39 _ hi; omega))
                refine WL_nil ?_
                refine inB_nrm ?_
                refine thn_nrm (_hK_57 _ _ ?_)
                clear _hK_57
                refine W_region ?_
                refine WL_step rfl rfl (r_move rfl) ?_
                refine WL_step rfl rfl (r_add (by omega) rfl rfl) ?_
                refine WL_step rfl rfl (r_assign rfl) ?_
                refine WL_nil ?_
                have _on_69 : Ol ics 3 1 _w_67 (.slice _Av39 ((List.replicate (pL.length + 1) (0 : Int))).length _Cv39) (crK pL pfirst pF wd i s (k + 1)) := by
                  have hx := _o_68
                  first | exact hx.eq (crk_y _hy36 _hy45 _hy69 (by omega) _h64) | exact hx.eq (crk_n _hy36 _hy45 _h64)
                have _f_70 := ((_f_60.ch0 _cw_63).ch _cw_67 (fun hm => by have _h1 := _lo39 _ hm; have _h2 := _hiv39 _ hm; omega))
                have _f_71 := ((_f_61.ch0 _cw_63).ch _cw_67 (fun i hi => by have _h1 := _lo39 _ hi; omega))
                have _f_72 := ((_f_62.ch0 _cw_63).ch _cw_67 (fun i hi => by have _h1 := _lo39 _ hi; omega))
                have _f_73 := (((_F2_3.ch0 _cw_59).ch0 _cw_63).ch _cw_67 (fun i hi => by have _h1 := _lo39 _ hi; omega))
                have _f_74 := (((_F2_4.ch0 _cw_59).ch0 _cw_63).ch _cw_67 (fun g hg hm => by have _h1 := _lo39 _ hm; have _h2 := _hiv39 _ hm; have _h3 := _lo0_6 _ hg; have _h4 := hinv _ hg; omega))
                exact thn_nrm (Exists.intro (k + 1) ⟨⟨E, (by omega), (by omega), _f_70, _f_71, _f_72, _f_73, _f_74, _on_69⟩, Sub.cons rfl (Sub.cons rfl (Sub.cons rfl (Sub.cons rfl (Sub.cons rfl (Sub.cons rfl (Sub.cons rfl (Sub.cons rfl (Sub.cons rfl (Sub.cons rfl (Sub.cons rfl (Sub.cons rfl (Sub.cons rfl (Sub.cons rfl (Sub.cons rfl (Sub.cons rfl (Sub.cons rfl (Sub.nil _))))))))))))))))), (by first | omega | (dsimp only; omega))⟩)
              · have _kb_65 := _h64
                have _h64 := bf_d _h64
                refine W_skip ?_
                refine inB_nrm ?_
                refine thn_nrm (_hK_57 _ _ ?_)
                clear _hK_57
                refine W_region ?_
                refine WL_step rfl rfl (r_move rfl) ?_
                refine WL_step rfl rfl (r_add (by omega) rfl rfl) ?_
                refine WL_step rfl rfl (r_assign rfl) ?_
                refine WL_nil ?_
                have _f_76 := ((_o2_9.ch0 _cw_59).ch0 _cw_63)
                have _on_75 : Ol ics 3 1 _w_63 (.slice _Av39 ((List.replicate (pL.length + 1) (0 : Int))).length _Cv39) (crK pL pfirst pF wd i s (k + 1)) := by
                  have hx := _f_76
                  first | exact hx.eq (crk_y _hy36 _hy45 _hy69 (by omega) _h64) | exact hx.eq (crk_n _hy36 _hy45 _h64)
                have _f_77 := (_f_60.ch0 _cw_63)
                have _f_78 := (_f_61.ch0 _cw_63)
                have _f_79 := (_f_62.ch0 _cw_63)
                have _f_80 := ((_F2_3.ch0 _cw_59).ch0 _cw_63)
                have _f_81 := ((_F2_4.ch0 _cw_59).ch0 _cw_63)
                exact thn_nrm (Exists.intro (k + 1) ⟨⟨E, (by omega), (by omega), _f_77, _f_78, _f_79, _f_80, _f_81, _on_75⟩, Sub.cons rfl (Sub.cons rfl (Sub.cons rfl (Sub.cons rfl (Sub.cons rfl (Sub.cons rfl (Sub.cons rfl (Sub.cons rfl (Sub.cons rfl (Sub.cons rfl (Sub.cons rfl (Sub.cons rfl (Sub.cons rfl (Sub.cons rfl (Sub.cons rfl (Sub.cons rfl (Sub.cons rfl (Sub.nil _))))))))))))))))), (by first | omega | (dsimp only; omega))⟩)
            · have _kb_56 := _h53
              have _h53 := bf_d _h53
              refine W_exit (thn_exit (thn_exit (inB_hit ?_)))
              refine inB_nrm ?_
              refine thn_nrm (_hK_48 _ _ ?_)
              clear _hK_48
              refine W_region ?_
              refine WL_step rfl rfl (r_add (by omega) rfl rfl) ?_
              refine WL_step rfl rfl (r_move rfl) ?_
              refine WL_nil ?_
              have _on_82 : Ol ics 3 1 _wr_52 (.slice _Av39 ((List.replicate (pL.length + 1) (0 : Int))).length _Cv39) (crS pL pfirst pF wd i (s + 1)) := by
                have hx := _o2_9
                first | exact hx.eq (crs_end1 (by omega)) | exact hx.eq (crs_end2 _hy45 (by omega))
              exact thn_nrm (Exists.intro (s + 1) ⟨⟨E, (by omega), (by omega), _F2_0, _F2_1, _F2_2, _F2_3, _F2_4, _on_82⟩, Sub.cons rfl (Sub.cons rfl (Sub.cons rfl (Sub.cons rfl (Sub.cons rfl (Sub.cons rfl (Sub.cons rfl (Sub.cons rfl (Sub.cons rfl (Sub.cons rfl (Sub.cons rfl (Sub.cons rfl (Sub.cons rfl (Sub.nil _))))))))))))), (by first | omega | (dsimp only; omega))⟩)
          · have _kb_55 := _h49
            have _h49 := bf_d _h49
            refine WL_skip rfl rfl ?_
            refine WL_skip rfl rfl ?_
            refine WL_skip rfl rfl ?_
            refine WL_step rfl rfl (r_pickF rfl rfl) ?_
            refine WL_nil ?_
            refine thn_nrm (_hK_54 _ _ ?_)
            clear _hK_54
            refine W_condF rfl ?_
            refine W_exit (thn_exit (thn_exit (inB_hit ?_)))
            refine inB_nrm ?_
            refine thn_nrm (_hK_48 _ _ ?_)
            clear _hK_48
            refine W_region ?_
            refine WL_step rfl rfl (r_add (by omega) rfl rfl) ?_
            refine WL_step rfl rfl (r_move rfl) ?_
            refine WL_nil ?_
            have _on_83 : Ol ics 3 1 _wr_52 (.slice _Av39 ((List.replicate (pL.length + 1) (0 : Int))).length _Cv39) (crS pL pfirst pF wd i (s + 1)) := by
              have hx := _o2_9
              first | exact hx.eq (crs_end1 (by omega)) | exact hx.eq (crs_end2 _hy45 (by omega))
            exact thn_nrm (Exists.intro (s + 1) ⟨⟨E, (by omega), (by omega), _F2_0, _F2_1, _F2_2, _F2_3, _F2_4, _on_83⟩, Sub.cons rfl (Sub.cons rfl (Sub.cons rfl (Sub.cons rfl (Sub.cons rfl (Sub.cons rfl (Sub.cons rfl (Sub.cons rfl (Sub.cons rfl (Sub.cons rfl (Sub.cons rfl (Sub.cons rfl (Sub.cons rfl (Sub.nil _))))))))))))), (by first | omega | (dsimp only; omega))⟩)
        · have _kb_47 := _h43
          have _h43 := bf_d _h43
          refine W_exit (thn_exit (thn_exit (inB_hit ?_)))
          refine thn_nrm (_hK_36 _ _ ?_)
          clear _hK_36
          refine W_region ?_
          refine WL_step rfl rfl (r_move rfl) ?_
          refine WL_step rfl rfl (r_assign rfl) ?_
          refine WL_nil ?_
          refine inB_nrm ?_
          refine thn_nrm (_hK_32 _ _ ?_)
          clear _hK_32
          refine W_region ?_
          refine WL_step rfl rfl (r_add (by omega) rfl rfl) ?_
          refine WL_step rfl rfl (r_move rfl) ?_
          refine WL_nil ?_
          have _on_84 : Ol ics 3 1 _wr_44 (.slice _Av39 ((List.replicate (pL.length + 1) (0 : Int))).length _Cv39) (crN pL pfirst pF wd (i + 1)) := by
            have hx := _o1_9
            exact hx.eq (crn_end (by omega))
          exact thn_nrm (Exists.intro ((i + 1), (.slice _Av39 ((List.replicate (pL.length + 1) (0 : Int))).length _Cv39)) ⟨⟨E, (by omega), (by omega), _F1_0, _F1_1, _F1_2, _F1_3, _on_84, (Lo.down _lo39 (by omega))⟩, Sub.cons rfl (Sub.cons rfl (Sub.cons rfl (Sub.cons rfl (Sub.cons rfl (Sub.cons rfl (Sub.cons rfl (Sub.nil _))))))), (by first | omega | (dsimp only; omega))⟩)
      · have _kb_31 := _h35
        have _h35 := bf_d _h35
        refine W_exit (thn_exit (thn_exit (inB_hit ?_)))
        refine thn_nrm (_hK_21 _ _ ?_)
        clear _hK_21
        refine W_seq fun _K_85 _hK_85 => ?_
        refine W_region ?_
        refine WL_step rfl rfl (r_assign rfl) ?_
        refine WL_nil ?_
        refine thn_nrm (_hK_85 _ _ ?_)
        clear _hK_85
        refine W_seq fun _K_86 _hK_86 => ?_
        refine W_seq fun _K_87 _hK_87 => ?_
        refine W_region ?_
        refine WL_step rfl rfl (r_move rfl) ?_
        refine WL_step rfl rfl (r_len (by rw [el32]; rfl) rfl) ?_
        refine WL_step rfl rfl (r_move rfl) ?_
        refine WL_nil ?_
        refine thn_nrm (_hK_87 _ _ ?_)
        clear _hK_87
        refine W_block ?_
        refine W_loop (σ := Nat × Int) (fun ⟨q, tt9⟩ => [(2, (.pointer (some ⟨_b2, 0, none⟩))), (4, (.int .i64 0)), (13, (.int .i64 tt9)), (78, (.slice Anv (crN pL pfirst pF wd i).length Cnv)), (79, (.int .i64 (((crN pL pfirst pF wd i).length : Nat) : Int))), (80, (.int .i64 ((q : Nat) : Int)))]) (fun ⟨q, tt9⟩ wx => Ch [] w wx ∧ _wr_28.heap.size ≤ wx.heap.size ∧ (q ≤ pL.length + 1) ∧ (tt9 = crSum plast pnull (crN pL pfirst pF wd i) q) ∧ (0 ≤ tt9 ∧ tt9 ≤ 1000000) ∧ Blk wx _b2 37 [(.slice _A_pL pL.length _C_pL), (.int .i64 pfirst), (.int .i64 plast), (.slice _A_pF pF.length _C_pF), (.bool pnull)] ∧ Ls ics 1 wx LL_pL w.heap.size (.slice _A_pL pL.length _C_pL) pL ∧ Ls ics 1 wx LL_pF w.heap.size (.slice _A_pF pF.length _C_pF) pF ∧ Ol ics 3 1 wx (.slice Anv (crN pL pfirst pF wd i).length Cnv) (crN pL pfirst pF wd i)) (fun ⟨q, tt9⟩ => pL.length + 1 - q) (0, 0) (Sub.cons rfl (Sub.cons rfl (Sub.cons rfl (Sub.cons rfl (Sub.cons rfl (Sub.cons rfl (Sub.nil _))))))) ⟨E, (Nat.le_refl _), (by omega), rfl, (by omega), _F0_0, _F0_1, _F0_2, _o0_6⟩ ?_
        rintro ⟨q, tt9⟩ _wr_88 ⟨E, _zz3, hq, _ht, hr, _F3_0, _F3_1, _F3_2, _F3_3⟩
        have _E3h := E
        have _E3hz := _E3h.size
        have _F3_0z := _F3_0.lt
        refine W_seq fun _K_89 _hK_89 => ?_
        refine W_region ?_
        refine WL_step rfl rfl (r_lss rfl rfl) ?_
        refine WL_nil ?_
        refine thn_nrm (_hK_89 _ _ ?_)
        clear _hK_89
        refine W_seq fun _K_90 _hK_90 => ?_
        refine W_cond rfl (fun _h81 => ?_) (fun _h81 => ?_)
        · have _kb_91 := _h81
          have _h81 := bt_d _h81
          refine W_skip ?_
          refine thn_nrm (_hK_90 _ _ ?_)
          clear _hK_90
          refine W_seq fun _K_92 _hK_92 => ?_
          refine W_block ?_
          refine W_seq fun _K_93 _hK_93 => ?_
          refine W_region ?_
          refine WL_step rfl rfl (r_move rfl) ?_
          refine WL_s rfl rfl ?_
          refine (s_index _F3_3.ls ics_len el32 sz3 rfl rfl rfl (by omega) fun _p83 _y83 _hy83 _a83 => ?_)
          have c83 := crn_val _hy83
          refine WL_step rfl rfl (r_loadAt0 _a83 agg3 rfl rfl) ?_
          refine WL_step rfl rfl (r_assign rfl) ?_
          refine WL_step rfl rfl (r_assign rfl) ?_
          refine WL_nil ?_
          refine thn_nrm (_hK_93 _ _ ?_)
          clear _hK_93
          refine W_seq fun _K_94 _hK_94 => ?_
          refine W_drawC [] 4 mixed rfl fun _w_95 _cw_95 => ?_
          have _cw_95z := _cw_95.size
          have E := E.trans _cw_95
          have _f_96 := (_F3_0.ch0 _cw_95)
          refine DR_s 0 rfl (by kernel_rfl) rfl rfl (t_loadAtA0 _f_96.at_ (fun i hi => absurd hi List.not_mem_nil) agg37 sz37 rfl ?_)
          refine DR_s 1 rfl (by kernel_rfl) rfl rfl (t_v (fun _ => (r_move rfl)) ?_)
          refine DR_s 2 rfl (by kernel_rfl) rfl rfl (t_v (fun _ => (r_shl (by omega) rfl rfl)) ?_)
          refine DR_one 3 (by kernel_rfl) ?_
          refine DO_s rfl rfl rfl ?_
          have _f_97 := (_F3_1.ch0 _cw_95)
          have _f_98 := (_F3_2.ch0 _cw_95)
          refine Step.call (r_call (xs := [.tmp 85, .tmp 87]) fk65 rfl) (c_impl_Positions_accepts _f_97 _ _ _f_98 _ _ ) fun _v88 _w_99 _q88 => ?_
          obtain ⟨rfl, _cw_99⟩ := _q88
          have _cw_99z := _cw_99.size
          have E := E.trans _cw_99
          have _S_100 : Ch [] _w_95 _w_99 := ((Ch.refl _ _).trans _cw_99)
          refine ⟨_S_100, ?_⟩
          refine DR_done (by kernel_rfl) ?_
          refine thn_nrm (_hK_94 _ _ ?_)
          clear _hK_94
          refine W_cond rfl (fun _h88 => ?_) (fun _h88 => ?_)
          · have _kb_101 := _h88
            refine W_region ?_
            refine WL_step rfl rfl (r_move rfl) ?_
            refine WL_step rfl rfl (r_move rfl) ?_
            refine WL_step rfl rfl (r_add (by omega) rfl rfl) ?_
            refine WL_step rfl rfl (r_min rfl rfl) ?_
            refine WL_step rfl rfl (r_assign rfl) ?_
            refine WL_nil ?_
            refine inB_nrm ?_
            refine thn_nrm (_hK_92 _ _ ?_)
            clear _hK_92
            refine W_region ?_
            refine WL_step rfl rfl (r_add (by omega) rfl rfl) ?_
            refine WL_step rfl rfl (r_move rfl) ?_
            refine WL_nil ?_
            have _f_102 := (_f_96.ch0 _cw_99)
            have _f_103 := (_f_97.ch0 _cw_99)
            have _f_104 := (_f_98.ch0 _cw_99)
            have _f_105 := ((_F3_3.ch0 _cw_95).ch0 _cw_99)
            exact thn_nrm (Exists.intro ((q + 1), (if (tt9 + _y83) < 1000000 then (tt9 + _y83) else 1000000)) ⟨⟨E, (by omega), (by omega), (by first | exact crsum_y _ht _hy83 _h88 | exact crsum_n _ht _h88), (by first | exact hr | (have _v9 := crn_val _hy83; split <;> omega)), _f_102, _f_103, _f_104, _f_105⟩, Sub.cons rfl (Sub.cons rfl (Sub.cons rfl (Sub.cons rfl (Sub.cons rfl (Sub.cons rfl (Sub.nil _)))))), (by first | omega | (dsimp only; omega))⟩)
          · have _kb_101 := _h88
            refine W_skip ?_
            refine inB_nrm ?_
            refine thn_nrm (_hK_92 _ _ ?_)
            clear _hK_92
            refine W_region ?_
            refine WL_step rfl rfl (r_add (by omega) rfl rfl) ?_
            refine WL_step rfl rfl (r_move rfl) ?_
            refine WL_nil ?_
            have _f_106 := (_f_96.ch0 _cw_99)
            have _f_107 := (_f_97.ch0 _cw_99)
            have _f_108 := (_f_98.ch0 _cw_99)
            have _f_109 := ((_F3_3.ch0 _cw_95).ch0 _cw_99)
            exact thn_nrm (Exists.intro ((q + 1), tt9) ⟨⟨E, (by omega), (by omega), (by first | exact crsum_y _ht _hy83 _h88 | exact crsum_n _ht _h88), (by first | exact hr | (have _v9 := crn_val _hy83; split <;> omega)), _f_106, _f_107, _f_108, _f_109⟩, Sub.cons rfl (Sub.cons rfl (Sub.cons rfl (Sub.cons rfl (Sub.cons rfl (Sub.cons rfl (Sub.nil _)))))), (by first | omega | (dsimp only; omega))⟩)
        · have _kb_91 := _h81
          have _h81 := bf_d _h81
          refine W_exit (thn_exit (thn_exit (inB_hit ?_)))
          refine thn_nrm (_hK_86 _ _ ?_)
          clear _hK_86
          refine W_seq fun _K_110 _hK_110 => ?_
          refine W_region ?_
          refine WL_step rfl rfl (r_move rfl) ?_
          refine WL_step rfl rfl (r_assign rfl) ?_
          refine WL_nil ?_
          refine thn_nrm (_hK_110 _ _ ?_)
          clear _hK_110
          refine W_ret ?_
          clear _hK_30 _hK_90
          exact ret_intro [_] ⟨rfl, trivial⟩ ⟨congrArg (Value.int .i64) (by first | exact crr_n (fun e => _h19 e.1) | exact crr_n (fun e => _h23 e.2) | exact crr_y _h19 _h23 _ht (by omega) (by omega)), E⟩

/-- laws.eqPositions -/
theorem c_laws_eqPositions {w : World} {LL_aL _B_aL : Nat} {_v_aL : Value} {aL : List Int} (_h_aL : Ls ics 1 w LL_aL _B_aL _v_aL aL) (afirst : Int) (alast : Int) {LL_aF _B_aF : Nat} {_v_aF : Value} {aF : List Int} (_h_aF : Ls ics 1 w LL_aF _B_aF _v_aF aF) (anull : Bool) {LL_bL _B_bL : Nat} {_v_bL : Value} {bL : List Int} (_h_bL : Ls ics 1 w LL_bL _B_bL _v_bL bL) (bfirst : Int) (blast : Int) {LL_bF _B_bF : Nat} {_v_bF : Value} {bF : List Int} (_h_bF : Ls ics 1 w LL_bF _B_bF _v_bF bF) (bnull : Bool) :
    Ctr Try.prog 24 #[(.agg #[_v_aL, (.int .i64 afirst), (.int .i64 alast), _v_aF, (.bool anull)]), (.agg #[_v_bL, (.int .i64 bfirst), (.int .i64 blast), _v_bF, (.bool bnull)])] w (fun v w' => v = .bool (tt (aL = bL ∧ afirst = bfirst ∧ alast = blast ∧ aF = bF ∧ anull = bnull)) ∧ Ch [] w w') := by
  obtain ⟨_A_aL, _C_aL, _e1_aL⟩ := _h_aL.val
  subst _e1_aL
  have _l_aL := _h_aL.len
  have _h_aL := _h_aL.here (by decide)
  obtain ⟨_A_aF, _C_aF, _e1_aF⟩ := _h_aF.val
  subst _e1_aF
  have _l_aF := _h_aF.len
  have _h_aF := _h_aF.here (by decide)
  obtain ⟨_A_bL, _C_bL, _e1_bL⟩ := _h_bL.val
  subst _e1_bL
  have _l_bL := _h_bL.len
  have _h_bL := _h_bL.here (by decide)
  obtain ⟨_A_bF, _C_bF, _e1_bF⟩ := _h_bF.val
  subst _e1_bF
  have _l_bF := _h_bF.len
  have _h_bF := _h_bF.here (by decide)
  have E := Ch.refl [] w
  refine Ctr_of_W (N := 32) (vs0 := [(.agg #[(.slice _A_aL aL.length _C_aL), (.int .i64 afirst), (.int .i64 alast), (.slice _A_aF aF.length _C_aF), (.bool anull)]), (.agg #[(.slice _A_bL bL.length _C_bL), (.int .i64 bfirst), (.int .i64 blast), (.slice _A_bF bF.length _C_bF), (.bool bnull)])]) Try.func24 rfl rfl rfl ?_
  refine W_seq fun _K_1 _hK_1 => ?_
  refine W_region ?_
  refine WL_s rfl rfl ?_
  refine s_box rfl fun _b2 _w_2 _m2 _cw_2 _e2 => ?_
  have _cw_2z := _cw_2.size
  have E := E.trans _cw_2
  have _z2 := _m2.lt
  replace _m2 : Blk _w_2 _b2 37 [(.slice _A_aL aL.length _C_aL), (.int .i64 afirst), (.int .i64 alast), (.slice _A_aF aF.length _C_aF), (.bool anull)] := _m2
  refine WL_s rfl rfl ?_
  refine s_box rfl fun _b3 _w_3 _m3 _cw_3 _e3 => ?_
  have _cw_3z := _cw_3.size
  have E := E.trans _cw_3
  have _z3 := _m3.lt
  replace _m3 : Blk _w_3 _b3 37 [(.slice _A_bL bL.length _C_bL), (.int .i64 bfirst), (.int .i64 blast), (.slice _A_bF bF.length _C_bF), (.bool bnull)] := _m3
  refine WL_step rfl rfl (r_assign rfl) ?_
  refine WL_nil ?_
  refine thn_nrm (_hK_1 _ _ ?_)
  clear _hK_1
  refine W_seq fun _K_4 _hK_4 => ?_
  refine W_seq fun _K_5 _hK_5 => ?_
  refine W_region ?_
  refine WL_step rfl rfl (r_fieldAddr fa37_0 rfl) ?_
  have _f_6 := (_m2.ch0 _cw_3)
  refine WL_step rfl rfl (r_loadAt _f_6.at_ agg32 rfl rfl) ?_
  refine WL_step rfl rfl (r_fieldAddr fa37_0 rfl) ?_
  refine WL_step rfl rfl (r_loadAt _m3.at_ agg32 rfl rfl) ?_
  refine WL_s rfl rfl ?_
  have _f_7 := ((_h_aL.ch0 _cw_2).ch0 _cw_3)
  have _f_8 := ((_h_bL.ch0 _cw_2).ch0 _cw_3)
  refine Step.call (r_call (xs := [.tmp 6, .tmp 8]) fk25 rfl) (c_laws_eqIntS _f_7 _f_8 ) fun _v9 _w_9 _q9 => ?_
  obtain ⟨rfl, _cw_9⟩ := _q9
  have _cw_9z := _cw_9.size
  have E := E.trans _cw_9
  refine WL_step rfl rfl (r_not rfl) ?_
  refine WL_nil ?_
  refine thn_nrm (_hK_5 _ _ ?_)
  clear _hK_5
  refine W_cond rfl (fun _h10 => ?_) (fun _h10 => ?_)
  · have _kb_10 := _h10
    have _h10 := bf_d (bt_n _h10)
    refine W_seq fun _K_11 _hK_11 => ?_
    refine W_region ?_
    refine WL_step rfl rfl (r_assign rfl) ?_
    refine WL_nil ?_
    refine thn_nrm (_hK_11 _ _ ?_)
    clear _hK_11
    refine W_ret (thn_ret ?_)
    clear _hK_4
    exact ret_intro [_] ⟨rfl, trivial⟩ ⟨congrArg Value.bool (tt_false (fun e => _h10 e.1)), E⟩
  · have _kb_10 := _h10
    have _h10 := bt_d (bf_n _h10)
    refine W_skip ?_
    refine thn_nrm (_hK_4 _ _ ?_)
    clear _hK_4
    refine W_seq fun _K_12 _hK_12 => ?_
    refine W_seq fun _K_13 _hK_13 => ?_
    refine W_region ?_
    refine WL_step rfl rfl (r_fieldAddr fa37_1 rfl) ?_
    have _f_14 := (_f_6.ch0 _cw_9)
    refine WL_step rfl rfl (r_loadAt _f_14.at_ agg3 rfl rfl) ?_
    refine WL_step rfl rfl (r_fieldAddr fa37_1 rfl) ?_
    have _f_15 := (_m3.ch0 _cw_9)
    refine WL_step rfl rfl (r_loadAt _f_15.at_ agg3 rfl rfl) ?_
    refine WL_step rfl rfl (r_neq rfl rfl) ?_
    refine WL_nil ?_
    refine thn_nrm (_hK_13 _ _ ?_)
    clear _hK_13
    refine W_cond rfl (fun _h15 => ?_) (fun _h15 => ?_)
    · have _kb_16 := _h15
      have _h15 := bf_d (bt_n _h15)
      refine W_seq fun _K_17 _hK_17 => ?_
      refine W_region ?_
      refine WL_step rfl rfl (r_assign rfl) ?_
      refine WL_nil ?_
      refine thn_nrm (_hK_17 _ _ ?_)
      clear _hK_17
      refine W_ret (thn_ret ?_)
      clear _hK_12
      exact ret_intro [_] ⟨rfl, trivial⟩ ⟨congrArg Value.bool (tt_false (fun e => _h15 e.2.1)), E⟩
    · have _kb_16 := _h15
      have _h15 := bt_d (bf_n _h15)
      refine W_skip ?_
      refine thn_nrm (_hK_12 _ _ ?_)
      clear _hK_12
      refine W_seq fun _K_18 _hK_18 => ?_
      refine W_seq fun _K_19 _hK_19 => ?_
      refine W_region ?_
      refine WL_step rfl rfl (r_fieldAddr fa37_2 rfl) ?_
      refine WL_step rfl rfl (r_loadAt _f_14.at_ agg3 rfl rfl) ?_
      refine WL_step rfl rfl (r_fieldAddr fa37_2 rfl) ?_
      refine WL_step rfl rfl (r_loadAt _f_15.at_ agg3 rfl rfl) ?_
      refine WL_step rfl rfl (r_neq rfl rfl) ?_
      refine WL_nil ?_
      refine thn_nrm (_hK_19 _ _ ?_)
      clear _hK_19
      refine W_cond rfl (fun _h20 => ?_) (fun _h20 => ?_)
      · have _kb_20 := _h20
        have _h20 := bf_d (bt_n _h20)
        refine W_seq fun _K_21 _hK_21 => ?_
        refine W_region ?_
        refine WL_step rfl rfl (r_assign rfl) ?_
        refine WL_nil ?_
        refine thn_nrm (_hK_21 _ _ ?_)
        clear _hK_21
        refine W_ret (thn_ret ?_)
        clear _hK_18
        exact ret_intro [_] ⟨rfl, trivial⟩ ⟨congrArg Value.bool (tt_false (fun e => _h20 e.2.2.1)), E⟩
      · have _kb_20 := _h20
        have _h20 := bt_d (bf_n _h20)
        refine W_skip ?_
        refine thn_nrm (_hK_18 _ _ ?_)
        clear _hK_18
        refine W_seq fun _K_22 _hK_22 => ?_
        refine W_seq fun _K_23 _hK_23 => ?_
        refine W_region ?_
        refine WL_step rfl rfl (r_fieldAddr fa37_3 rfl) ?_
        refine WL_step rfl rfl (r_loadAt _f_14.at_ agg32 rfl rfl) ?_
        refine WL_step rfl rfl (r_fieldAddr fa37_3 rfl) ?_
        refine WL_step rfl rfl (r_loadAt _f_15.at_ agg32 rfl rfl) ?_
        refine WL_s rfl rfl ?_
        have _f_24 := (((_h_aF.ch0 _cw_2).ch0 _cw_3).ch0 _cw_9)
        have _f_25 := (((_h_bF.ch0 _cw_2).ch0 _cw_3).ch0 _cw_9)
        refine Step.call (r_call (xs := [.tmp 22, .tmp 24]) fk25 rfl) (c_laws_eqIntS _f_24 _f_25 ) fun _v25 _w_26 _q25 => ?_
        obtain ⟨rfl, _cw_26⟩ := _q25
        have _cw_26z := _cw_26.size
        have E := E.trans _cw_26
        refine WL_step rfl rfl (r_not rfl) ?_
        refine WL_nil ?_
        refine thn_nrm (_hK_23 _ _ ?_)
        clear _hK_23
        refine W_cond rfl (fun _h26 => ?_) (fun _h26 => ?_)
        · have _kb_27 := _h26
          have _h26 := bf_d (bt_n _h26)
          refine W_seq fun _K_28 _hK_28 => ?_
          refine W_region ?_
          refine WL_step rfl rfl (r_assign rfl) ?_
          refine WL_nil ?_
          refine thn_nrm (_hK_28 _ _ ?_)
          clear _hK_28
          refine W_ret (thn_ret ?_)
          clear _hK_22
          exact ret_intro [_] ⟨rfl, trivial⟩ ⟨congrArg Value.bool (tt_false (fun e => _h26 e.2.2.2.1)), E⟩
        · have _kb_27 := _h26
          have _h26 := bt_d (bf_n _h26)
          refine W_skip ?_
          refine thn_nrm (_hK_22 _ _ ?_)
          clear _hK_22
          refine W_seq fun _K_29 _hK_29 => ?_
          refine W_seq fun _K_30 _hK_30 => ?_
          refine W_region ?_
          refine WL_step rfl rfl (r_fieldAddr fa37_4 rfl) ?_
          have _f_31 := (_f_14.ch0 _cw_26)
          refine WL_step rfl rfl (r_loadAt _f_31.at_ agg4 rfl rfl) ?_
          refine WL_step rfl rfl (r_fieldAddr fa37_4 rfl) ?_
          have _f_32 := (_f_15.ch0 _cw_26)
          refine WL_step rfl rfl (r_loadAt _f_32.at_ agg4 rfl rfl) ?_
          refine WL_step rfl rfl (r_neqB un4 rfl rfl) ?_
          refine WL_nil ?_
          refine thn_nrm (_hK_30 _ _ ?_)
          clear _hK_30
          refine W_cond rfl (fun _h31 => ?_) (fun _h31 => ?_)
          · have _kb_33 := _h31
            have _h31 := bf_e (bt_n _h31)
            refine W_seq fun _K_34 _hK_34 => ?_
            refine W_region ?_
            refine WL_step rfl rfl (r_assign rfl) ?_
            refine WL_nil ?_
            refine thn_nrm (_hK_34 _ _ ?_)
            clear _hK_34
            refine W_ret (thn_ret ?_)
            clear _hK_29
            exact ret_intro [_] ⟨rfl, trivial⟩ ⟨congrArg Value.bool (tt_false (fun e => _h31 e.2.2.2.2)), E⟩
          · have _kb_33 := _h31
            have _h31 := bt_e (bf_n _h31)
            refine W_skip ?_
            refine thn_nrm (_hK_29 _ _ ?_)
            clear _hK_29
            refine W_seq fun _K_35 _hK_35 => ?_
            refine W_region ?_
            refine WL_step rfl rfl (r_assign rfl) ?_
            refine WL_nil ?_
            refine thn_nrm (_hK_35 _ _ ?_)
            clear _hK_35
            refine W_ret ?_
            exact ret_intro [_] ⟨rfl, trivial⟩ ⟨congrArg Value.bool (tt_true ⟨_h10, _h15, _h20, _h26, _h31⟩), E⟩

/-- laws.szPositions -/
theorem c_laws_szPositions {w : World} {LL_pL _B_pL : Nat} {_v_pL : Value} {pL : List Int} (_h_pL : Ls ics 1 w LL_pL _B_pL _v_pL pL) (pfirst : Int) (plast : Int) {LL_pF _B_pF : Nat} {_v_pF : Value} {pF : List Int} (_h_pF : Ls ics 1 w LL_pF _B_pF _v_pF pF) (pnull : Bool) (left : Int) (hl : left ≤ 1048576) (_h0 : 0 ≤ left) :
    Ctr Try.prog 19 #[(.agg #[_v_pL, (.int .i64 pfirst), (.int .i64 plast), _v_pF, (.bool pnull)]), (.int .i64 left)] w (fun v w' => v = .int .i64 (if left < pL.length + pF.length then -1 else left - pL.length - pF.length) ∧ Ch [] w w') := by
  obtain ⟨_A_pL, _C_pL, _e1_pL⟩ := _h_pL.val
  subst _e1_pL
  have _l_pL := _h_pL.len
  have _h_pL := _h_pL.here (by decide)
  obtain ⟨_A_pF, _C_pF, _e1_pF⟩ := _h_pF.val
  subst _e1_pF
  have _l_pF := _h_pF.len
  have _h_pF := _h_pF.here (by decide)
  have E := Ch.refl [] w
  refine Ctr_of_W (N := 18) (vs0 := [(.agg #[(.slice _A_pL pL.length _C_pL), (.int .i64 pfirst), (.int .i64 plast), (.slice _A_pF pF.length _C_pF), (.bool pnull)]), (.int .i64 left)]) Try.func19 rfl rfl rfl ?_
  refine W_seq fun _K_1 _hK_1 => ?_
  refine W_region ?_
  refine WL_s rfl rfl ?_
  refine s_box rfl fun _b2 _w_2 _m2 _cw_2 _e2 => ?_
  have _cw_2z := _cw_2.size
  have E := E.trans _cw_2
  have _z2 := _m2.lt
  replace _m2 : Blk _w_2 _b2 34 [(.slice _A_pL pL.length _C_pL), (.int .i64 pfirst), (.int .i64 plast), (.slice _A_pF pF.length _C_pF), (.bool pnull)] := _m2
  refine WL_step rfl rfl (r_assign rfl) ?_
  refine WL_nil ?_
  refine thn_nrm (_hK_1 _ _ ?_)
  clear _hK_1
  refine W_seq fun _K_3 _hK_3 => ?_
  refine W_region ?_
  refine WL_step rfl rfl (r_fieldAddr fa34_0 rfl) ?_
  refine WL_step rfl rfl (r_loadAt _m2.at_ agg32 rfl rfl) ?_
  refine WL_step rfl rfl (r_move rfl) ?_
  refine WL_s rfl rfl ?_
  have _f_4 := (_h_pL.ch0 _cw_2)
  refine Step.call (r_call (xs := [.tmp 6, .tmp 7]) fk57 rfl) (c_laws_szIntS _f_4 _ (by omega) (by omega)) fun _v8 _w_5 _q8 => ?_
  obtain ⟨rfl, _cw_5⟩ := _q8
  have _cw_5z := _cw_5.size
  have E := E.trans _cw_5
  refine WL_step rfl rfl (r_assign rfl) ?_
  refine WL_nil ?_
  refine thn_nrm (_hK_3 _ _ ?_)
  clear _hK_3
  refine W_seq fun _K_6 _hK_6 => ?_
  refine W_seq fun _K_7 _hK_7 => ?_
  refine W_region ?_
  refine WL_step rfl rfl (r_move rfl) ?_
  refine WL_step rfl rfl (r_lss rfl rfl) ?_
  refine WL_nil ?_
  refine thn_nrm (_hK_7 _ _ ?_)
  clear _hK_7
  refine W_cond rfl (fun _h10 => ?_) (fun _h10 => ?_)
  · have _kb_8 := _h10
    have _h10 := bt_d _h10
    refine W_seq fun _K_9 _hK_9 => ?_
    refine W_region ?_
    refine WL_step rfl rfl (r_assign rfl) ?_
    refine WL_nil ?_
    refine thn_nrm (_hK_9 _ _ ?_)
    clear _hK_9
    refine W_ret (thn_ret ?_)
    clear _hK_6
    exact ret_intro [_] ⟨rfl, trivial⟩ ⟨congrArg (Value.int .i64) (by repeat (first | omega | split)), E⟩
  · have _kb_8 := _h10
    have _h10 := bf_d _h10
    refine W_skip ?_
    refine thn_nrm (_hK_6 _ _ ?_)
    clear _hK_6
    refine W_seq fun _K_10 _hK_10 => ?_
    refine W_region ?_
    refine WL_step rfl rfl (r_fieldAddr fa34_3 rfl) ?_
    have _f_11 := (_m2.ch0 _cw_5)
    refine WL_step rfl rfl (r_loadAt _f_11.at_ agg32 rfl rfl) ?_
    refine WL_step rfl rfl (r_move rfl) ?_
    refine WL_s rfl rfl ?_
    have _f_12 := ((_h_pF.ch0 _cw_2).ch0 _cw_5)
    refine Step.call (r_call (xs := [.tmp 12, .tmp 13]) fk57 rfl) (c_laws_szIntS _f_12 _ (by omega) (by omega)) fun _v14 _w_13 _q14 => ?_
    obtain ⟨rfl, _cw_13⟩ := _q14
    have _cw_13z := _cw_13.size
    have E := E.trans _cw_13
    refine WL_step rfl rfl (r_assign rfl) ?_
    refine WL_nil ?_
    refine thn_nrm (_hK_10 _ _ ?_)
    clear _hK_10
    refine W_seq fun _K_14 _hK_14 => ?_
    refine W_seq fun _K_15 _hK_15 => ?_
    refine W_region ?_
    refine WL_step rfl rfl (r_move rfl) ?_
    refine WL_step rfl rfl (r_lss rfl rfl) ?_
    refine WL_nil ?_
    refine thn_nrm (_hK_15 _ _ ?_)
    clear _hK_15
    refine W_cond rfl (fun _h16 => ?_) (fun _h16 => ?_)
    · have _kb_16 := _h16
      have _h16 := bt_d _h16
      refine W_seq fun _K_17 _hK_17 => ?_
      refine W_region ?_
      refine WL_step rfl rfl (r_assign rfl) ?_
      refine WL_nil ?_
      refine thn_nrm (_hK_17 _ _ ?_)
      clear _hK_17
      refine W_ret (thn_ret ?_)
      clear _hK_14
      exact ret_intro [_] ⟨rfl, trivial⟩ ⟨congrArg (Value.int .i64) (by repeat (first | omega | split)), E⟩
    · have _kb_16 := _h16
      have _h16 := bf_d _h16
      refine W_skip ?_
      refine thn_nrm (_hK_14 _ _ ?_)
      clear _hK_14
      refine W_seq fun _K_18 _hK_18 => ?_
      refine W_region ?_
      refine WL_step rfl rfl (r_move rfl) ?_
      refine WL_step rfl rfl (r_assign rfl) ?_
      refine WL_nil ?_
      refine thn_nrm (_hK_18 _ _ ?_)
      clear _hK_18
      refine W_ret ?_
      exact ret_intro [_] ⟨rfl, trivial⟩ ⟨congrArg (Value.int .i64) (by repeat (first | omega | split)), E⟩

/-- laws.toPositions -/
theorem c_laws_toPositions {w : World} {LL_pL _B_pL : Nat} {_v_pL : Value} {pL : List Int} (_h_pL : Ls ics 1 w LL_pL _B_pL _v_pL pL) (pfirst : Int) (plast : Int) {LL_pF _B_pF : Nat} {_v_pF : Value} {pF : List Int} (_h_pF : Ls ics 1 w LL_pF _B_pF _v_pF pF) (pnull : Bool) (hb : pL.length + pF.length ≤ 1048576) :
    Ctr Try.prog 21 #[(.agg #[_v_pL, (.int .i64 pfirst), (.int .i64 plast), _v_pF, (.bool pnull)])] w (fun v w' => ∃ _u1 _u2, v = .agg #[_u1, .int .i64 (pfirst), .int .i64 (plast), _u2, .bool (pnull)] ∧ Ol ics 3 1 w' _u1 (pL) ∧ Lo w.heap.size _u1 ∧ Ol ics 3 1 w' _u2 (pF) ∧ Lo w.heap.size _u2 ∧ Ch [] w w') := by
  obtain ⟨_A_pL, _C_pL, _e1_pL⟩ := _h_pL.val
  subst _e1_pL
  have _l_pL := _h_pL.len
  have _h_pL := _h_pL.here (by decide)
  obtain ⟨_A_pF, _C_pF, _e1_pF⟩ := _h_pF.val
  subst _e1_pF
  have _l_pF := _h_pF.len
  have _h_pF := _h_pF.here (by decide)
  have E := Ch.refl [] w
  refine Ctr_of_W (N := 22) (vs0 := [(.agg #[(.slice _A_pL pL.length _C_pL), (.int .i64 pfirst), (.int .i64 plast), (.slice _A_pF pF.length _C_pF), (.bool pnull)])]) Try.func21 rfl rfl rfl ?_
  refine W_seq fun _K_1 _hK_1 => ?_
  refine W_region ?_
  refine WL_s rfl rfl ?_
  refine s_box rfl fun _b1 _w_2 _m1 _cw_2 _e1 => ?_
  have _cw_2z := _cw_2.size
  have E := E.trans _cw_2
  have _z1 := _m1.lt
  replace _m1 : Blk _w_2 _b1 34 [(.slice _A_pL pL.length _C_pL), (.int .i64 pfirst), (.int .i64 plast), (.slice _A_pF pF.length _C_pF), (.bool pnull)] := _m1
  refine WL_s rfl rfl ?_
  refine s_alloc zr37 fun _b2 _w_3 _m2 _cw_3 _e2 => ?_
  have _cw_3z := _cw_3.size
  have E := E.trans _cw_3
  have _z2 := _m2.lt
  replace _m2 : Blk _w_3 _b2 37 [(.slice none 0 0), (.int .i64 0), (.int .i64 0), (.slice none 0 0), (.bool false)] := _m2
  refine WL_nil ?_
  refine thn_nrm (_hK_1 _ _ ?_)
  clear _hK_1
  refine W_seq fun _K_4 _hK_4 => ?_
  refine W_region ?_
  refine WL_s rfl rfl ?_
  refine s_alloc zr37 fun _b3 _w_5 _m3 _cw_5 _e3 => ?_
  have _cw_5z := _cw_5.size
  have E := E.trans _cw_5
  have _z3 := _m3.lt
  replace _m3 : Blk _w_5 _b3 37 [(.slice none 0 0), (.int .i64 0), (.int .i64 0), (.slice none 0 0), (.bool false)] := _m3
  refine WL_nil ?_
  refine thn_nrm (_hK_4 _ _ ?_)
  clear _hK_4
  refine W_seq fun _K_6 _hK_6 => ?_
  refine W_region ?_
  refine WL_step rfl rfl (r_fieldAddr fa34_0 rfl) ?_
  have _f_7 := ((_m1.ch0 _cw_3).ch0 _cw_5)
  refine WL_step rfl rfl (r_loadAt _f_7.at_ agg32 rfl rfl) ?_
  refine WL_s rfl rfl ?_
  have _f_8 := (((_h_pL.ch0 _cw_2).ch0 _cw_3).ch0 _cw_5)
  refine Step.call (r_call (xs := [.tmp 5]) fk22 rfl) (c_laws_toIntS _f_8 (by omega)) fun _v6 _w_9 _q6 => ?_
  obtain ⟨_q6, _lo6, _cw_9⟩ := _q6
  have _cw_9z := _cw_9.size
  have E := E.trans _cw_9
  obtain ⟨_Av6, _Cv6, _ev6⟩ := _q6.val
  subst _ev6
  have _lv6 := _q6.len
  have _hiv6 := _q6.lt
  refine WL_step rfl rfl (r_fieldAddr fa37_0 rfl) ?_
  refine WL_s rfl rfl ?_
  have _f_10 := (_m3.ch0 _cw_9)
  refine s_store1 (off := 0) _f_10 sz32 rfl rfl rfl rfl fun _w_11 _m_12 _cw_11 => ?_
  have _cw_11z := _cw_11.size
  have E := E.step _cw_11 (fun i hi => .inl (by have _h1 := List.mem_singleton.1 hi; omega))
  replace _m_12 : Blk _w_11 _b3 37 [(.slice _Av6 (pL).length _Cv6), (.int .i64 0), (.int .i64 0), (.slice none 0 0), (.bool false)] := _m_12
  refine WL_nil ?_
  refine thn_nrm (_hK_6 _ _ ?_)
  clear _hK_6
  refine W_seq fun _K_13 _hK_13 => ?_
  refine W_region ?_
  refine WL_step rfl rfl (r_fieldAddr fa34_1 rfl) ?_
  have _f_14 := ((_f_7.ch0 _cw_9).ch _cw_11 (fun hm => by have _h1 := List.mem_singleton.1 hm; omega))
  refine WL_step rfl rfl (r_loadAt _f_14.at_ agg3 rfl rfl) ?_
  refine WL_step rfl rfl (r_fieldAddr fa37_1 rfl) ?_
  refine WL_s rfl rfl ?_
  refine s_store1 (off := 1) _m_12 sz3 rfl rfl rfl rfl fun _w_15 _m_16 _cw_15 => ?_
  have _cw_15z := _cw_15.size
  have E := E.step _cw_15 (fun i hi => .inl (by have _h1 := List.mem_singleton.1 hi; omega))
  replace _m_16 : Blk _w_15 _b3 37 [(.slice _Av6 (pL).length _Cv6), (.int .i64 pfirst), (.int .i64 0), (.slice none 0 0), (.bool false)] := _m_16
  refine WL_nil ?_
  refine thn_nrm (_hK_13 _ _ ?_)
  clear _hK_13
  refine W_seq fun _K_17 _hK_17 => ?_
  refine W_region ?_
  refine WL_step rfl rfl (r_fieldAddr fa34_2 rfl) ?_
  have _f_18 := (_f_14.ch _cw_15 (fun hm => by have _h1 := List.mem_singleton.1 hm; omega))
  refine WL_step rfl rfl (r_loadAt _f_18.at_ agg3 rfl rfl) ?_
  refine WL_step rfl rfl (r_fieldAddr fa37_2 rfl) ?_
  refine WL_s rfl rfl ?_
  refine s_store1 (off := 2) _m_16 sz3 rfl rfl rfl rfl fun _w_19 _m_20 _cw_19 => ?_
  have _cw_19z := _cw_19.size
  have E := E.step _cw_19 (fun i hi => .inl (by have _h1 := List.mem_singleton.1 hi; omega))
  replace _m_20 : Blk _w_19 _b3 37 [(.slice _Av6 (pL).length _Cv6), (.int .i64 pfirst), (.int .i64 plast), (.slice none 0 0), (.bool false)] := _m_20
  refine WL_nil ?_
  refine thn_nrm (_hK_17 _ _ ?_)
  clear _hK_17
  refine W_seq fun _K_21 _hK_21 => ?_
  refine W_region ?_
  refine WL_step rfl rfl (r_fieldAddr fa34_3 rfl) ?_
  have _f_22 := (_f_18.ch _cw_19 (fun hm => by have _h1 := List.mem_singleton.1 hm; omega))
  refine WL_step rfl rfl (r_loadAt _f_22.at_ agg32 rfl rfl) ?_
  refine WL_s rfl rfl ?_
  have _f_23 := (((((((_h_pF.ch0 _cw_2).ch0 _cw_3).ch0 _cw_5).ch0 _cw_9).ch _cw_11 (fun i hi => by have _h1 := List.mem_singleton.1 hi; omega)).ch _cw_15 (fun i hi => by have _h1 := List.mem_singleton.1 hi; omega)).ch _cw_19 (fun i hi => by have _h1 := List.mem_singleton.1 hi; omega))
  refine Step.call (r_call (xs := [.tmp 15]) fk22 rfl) (c_laws_toIntS _f_23 (by omega)) fun _v16 _w_24 _q16 => ?_
  obtain ⟨_q16, _lo16, _cw_24⟩ := _q16
  have _cw_24z := _cw_24.size
  have E := E.trans _cw_24
  obtain ⟨_Av16, _Cv16, _ev16⟩ := _q16.val
  subst _ev16
  have _lv16 := _q16.len
  have _hiv16 := _q16.lt
  refine WL_step rfl rfl (r_fieldAddr fa37_3 rfl) ?_
  refine WL_s rfl rfl ?_
  have _f_25 := (_m_20.ch0 _cw_24)
  refine s_store1 (off := 3) _f_25 sz32 rfl rfl rfl rfl fun _w_26 _m_27 _cw_26 => ?_
  have _cw_26z := _cw_26.size
  have E := E.step _cw_26 (fun i hi => .inl (by have _h1 := List.mem_singleton.1 hi; omega))
  replace _m_27 : Blk _w_26 _b3 37 [(.slice _Av6 (pL).length _Cv6), (.int .i64 pfirst), (.int .i64 plast), (.slice _Av16 (pF).length _Cv16), (.bool false)] := _m_27
  refine WL_nil ?_
  refine thn_nrm (_hK_21 _ _ ?_)
  clear _hK_21
  refine W_seq fun _K_28 _hK_28 => ?_
  refine W_region ?_
  refine WL_step rfl rfl (r_fieldAddr fa34_4 rfl) ?_
  have _f_29 := ((_f_22.ch0 _cw_24).ch _cw_26 (fun hm => by have _h1 := List.mem_singleton.1 hm; omega))
  refine WL_step rfl rfl (r_loadAt _f_29.at_ agg4 rfl rfl) ?_
  refine WL_step rfl rfl (r_fieldAddr fa37_4 rfl) ?_
  refine WL_s rfl rfl ?_
  refine s_store1 (off := 4) _m_27 sz4 rfl rfl rfl rfl fun _w_30 _m_31 _cw_30 => ?_
  have _cw_30z := _cw_30.size
  have E := E.step _cw_30 (fun i hi => .inl (by have _h1 := List.mem_singleton.1 hi; omega))
  replace _m_31 : Blk _w_30 _b3 37 [(.slice _Av6 (pL).length _Cv6), (.int .i64 pfirst), (.int .i64 plast), (.slice _Av16 (pF).length _Cv16), (.bool pnull)] := _m_31
  refine WL_nil ?_
  refine thn_nrm (_hK_28 _ _ ?_)
  clear _hK_28
  refine W_seq fun _K_32 _hK_32 => ?_
  refine W_region ?_
  refine WL_step rfl rfl (r_loadAtA0 _m_31.at_ agg37 sz37 rfl) ?_
  refine WL_s rfl rfl ?_
  have _f_33 := ((((((((_m2.ch0 _cw_5).ch0 _cw_9).ch _cw_11 (fun hm => by have _h1 := List.mem_singleton.1 hm; omega)).ch _cw_15 (fun hm => by have _h1 := List.mem_singleton.1 hm; omega)).ch _cw_19 (fun hm => by have _h1 := List.mem_singleton.1 hm; omega)).ch0 _cw_24).ch _cw_26 (fun hm => by have _h1 := List.mem_singleton.1 hm; omega)).ch _cw_30 (fun hm => by have _h1 := List.mem_singleton.1 hm; omega))
  refine s_storeA (off := 0) 5 _f_33 sz37 rfl (us := [(.slice _Av6 (pL).length _Cv6), (.int .i64 pfirst), (.int .i64 plast), (.slice _Av16 (pF).length _Cv16), (.bool pnull)]) rfl rfl rfl rfl fun _w_34 _m_35 _cw_34 => ?_
  have _cw_34z := _cw_34.size
  have E := E.step _cw_34 (fun i hi => .inl (by have _h1 := List.mem_singleton.1 hi; omega))
  replace _m_35 : Blk _w_34 _b2 37 [(.slice _Av6 (pL).length _Cv6), (.int .i64 pfirst), (.int .i64 plast), (.slice _Av16 (pF).length _Cv16), (.bool pnull)] := _m_35
  refine WL_nil ?_
  refine thn_nrm (_hK_32 _ _ ?_)
  clear _hK_32
  refine W_ret ?_
  have _f_37 := (((((((_q6.ch _cw_11 (fun g hg hm => by have _h0 := List.mem_singleton.1 hm; have _h2 := _lo6 _ hg; have _h3 := _hiv6 _ hg; omega)).ch _cw_15 (fun g hg hm => by have _h0 := List.mem_singleton.1 hm; have _h2 := _lo6 _ hg; have _h3 := _hiv6 _ hg; omega)).ch _cw_19 (fun g hg hm => by have _h0 := List.mem_singleton.1 hm; have _h2 := _lo6 _ hg; have _h3 := _hiv6 _ hg; omega)).ch0 _cw_24).ch _cw_26 (fun g hg hm => by have _h0 := List.mem_singleton.1 hm; have _h2 := _lo6 _ hg; have _h3 := _hiv6 _ hg; omega)).ch _cw_30 (fun g hg hm => by have _h0 := List.mem_singleton.1 hm; have _h2 := _lo6 _ hg; have _h3 := _hiv6 _ hg; omega)).ch _cw_34 (fun g hg hm => by have _h0 := List.mem_singleton.1 hm; have _h2 := _lo6 _ hg; have _h3 := _hiv6 _ hg; omega))
  have _o_36 : Ol ics 3 1 _w_34 (.slice _Av6 (pL).length _Cv6) (pL) := by
    have hx := _f_37
    simpa using hx
  have _f_39 := (((_q16.ch _cw_26 (fun g hg hm => by have _h0 := List.mem_singleton.1 hm; have _h2 := _lo16 _ hg; have _h3 := _hiv16 _ hg; omega)).ch _cw_30 (fun g hg hm => by have _h0 := List.mem_singleton.1 hm; have _h2 := _lo16 _ hg; have _h3 := _hiv16 _ hg; omega)).ch _cw_34 (fun g hg hm => by have _h0 := List.mem_singleton.1 hm; have _h2 := _lo16 _ hg; have _h3 := _hiv16 _ hg; omega))
  have _o_38 : Ol ics 3 1 _w_34 (.slice _Av16 (pF).length _Cv16) (pF) := by
    have hx := _f_39
    simpa using hx
  exact ret_intro [_] (resOf_loadA _m_35 rfl agg37 sz37 trivial) ⟨_, _, rfl, _o_36, Lo.down _lo6 (by omega), _o_38, Lo.down _lo16 (by omega), E⟩

/-- spec.l2Letter -/
theorem c_spec_l2Letter {w : World} (n : Int) :
    Ctr Try.prog 97 #[(.int .i64 n)] w (fun v w' => v = .bool (decide (0 ≤ n ∧ n ≤ 8)) ∧ Ch [] w w') := by
  have E := Ch.refl [] w
  refine Ctr_of_W (N := 5) (vs0 := [(.int .i64 n)]) Try.func97 rfl rfl rfl ?_
  refine W_seq fun _K_1 _hK_1 => ?_
  refine W_region ?_
  refine WL_step rfl rfl (r_assign rfl) ?_
  refine WL_nil ?_
  refine thn_nrm (_hK_1 _ _ ?_)
  clear _hK_1
  refine W_seq fun _K_2 _hK_2 => ?_
  refine W_region ?_
  refine WL_step rfl rfl (r_move rfl) ?_
  refine WL_s rfl rfl ?_
  refine Step.call (r_call (xs := [.tmp 3, .const (Go.Value.int Go.IntKind.i64 0), .const (Go.Value.int Go.IntKind.i64 8)]) fk66 rfl) (c_spec_l1In _ _ _ ) fun _v4 _w_3 _q4 => ?_
  obtain ⟨rfl, _cw_3⟩ := _q4
  have _cw_3z := _cw_3.size
  have E := E.trans _cw_3
  refine WL_step rfl rfl (r_assign rfl) ?_
  refine WL_nil ?_
  refine thn_nrm (_hK_2 _ _ ?_)
  clear _hK_2
  refine W_ret ?_
  exact ret_intro [_] ⟨rfl, trivial⟩ ⟨congrArg Value.bool rfl, E⟩

/-- spec.IsValidPositions -/
theorem c_spec_IsValidPositions {w : World} {LL_pL _B_pL : Nat} {_v_pL : Value} {pL : List Int} (_h_pL : Ls ics 1 w LL_pL _B_pL _v_pL pL) (pfirst : Int) (plast : Int) {LL_pF _B_pF : Nat} {_v_pF : Value} {pF : List Int} (_h_pF : Ls ics 1 w LL_pF _B_pF _v_pF pF) (pnull : Bool) :
    Ctr Try.prog 58 #[(.agg #[_v_pL, (.int .i64 pfirst), (.int .i64 plast), _v_pF, (.bool pnull)])] w (fun v w' => v = .bool (tt (ValidP pL pfirst plast pF)) ∧ Ch [] w w') := by
  obtain ⟨_A_pL, _C_pL, _e1_pL⟩ := _h_pL.val
  subst _e1_pL
  have _l_pL := _h_pL.len
  have _h_pL := _h_pL.here (by decide)
  obtain ⟨_A_pF, _C_pF, _e1_pF⟩ := _h_pF.val
  subst _e1_pF
  have _l_pF := _h_pF.len
  have _h_pF := _h_pF.here (by decide)
  have E := Ch.refl [] w
  refine Ctr_of_W (N := 59) (vs0 := [(.agg #[(.slice _A_pL pL.length _C_pL), (.int .i64 pfirst), (.int .i64 plast), (.slice _A_pF pF.length _C_pF), (.bool pnull)])]) Try.func58 rfl rfl rfl ?_
  refine W_seq fun _K_1 _hK_1 => ?_
  refine W_region ?_
  refine WL_s rfl rfl ?_
  refine s_box rfl fun _b1 _w_2 _m1 _cw_2 _e1 => ?_
  have _cw_2z := _cw_2.size
  have E := E.trans _cw_2
  have _z1 := _m1.lt
  replace _m1 : Blk _w_2 _b1 37 [(.slice _A_pL pL.length _C_pL), (.int .i64 pfirst), (.int .i64 plast), (.slice _A_pF pF.length _C_pF), (.bool pnull)] := _m1
  refine WL_step rfl rfl (r_assign rfl) ?_
  refine WL_nil ?_
  refine thn_nrm (_hK_1 _ _ ?_)
  clear _hK_1
  refine W_seq fun _K_3 _hK_3 => ?_
  refine W_region ?_
  refine WL_step rfl rfl (r_fieldAddr fa37_0 rfl) ?_
  refine WL_step rfl rfl (r_loadAt _m1.at_ agg32 rfl rfl) ?_
  refine WL_step rfl rfl (r_len (by rw [el32]; rfl) rfl) ?_
  refine WL_step rfl rfl (r_assign rfl) ?_
  refine WL_nil ?_
  refine thn_nrm (_hK_3 _ _ ?_)
  clear _hK_3
  refine W_seq fun _K_4 _hK_4 => ?_
  refine W_seq fun _K_5 _hK_5 => ?_
  refine W_drawC [] 27 mixed rfl fun _w_6 _cw_6 => ?_
  have _cw_6z := _cw_6.size
  have E := E.trans _cw_6
  refine DR_s 0 rfl (by kernel_rfl) rfl rfl (t_v (fun _ => (r_move rfl)) ?_)
  refine DR_s 1 rfl (by kernel_rfl) rfl rfl (t_v (fun _ => (r_gtr rfl rfl)) ?_)
  refine DR_s 2 rfl (by kernel_rfl) rfl rfl (t_v (fun _ => (r_move rfl)) ?_)
  refine DR_split (d := 10) rfl (fun _h10 => ?_) (fun _h10 => ?_)
  · have _kb_7 := _h10
    have _h10 := bt_d _h10
    refine DR_skip 3 rfl (by kernel_rfl) rfl rfl ?_
    refine DR_skip 4 rfl (by kernel_rfl) rfl rfl ?_
    refine DR_skip 5 rfl (by kernel_rfl) rfl rfl ?_
    refine DR_skip 6 rfl (by kernel_rfl) rfl rfl ?_
    refine DR_skip 7 rfl (by kernel_rfl) rfl rfl ?_
    refine DR_s 8 rfl (by kernel_rfl) rfl rfl (t_v (fun _ => (r_pickT rfl rfl)) ?_)
    refine DR_s 9 rfl (by kernel_rfl) rfl rfl (t_v (fun _ => (r_move rfl)) ?_)
    refine DR_skip 10 rfl (by kernel_rfl) rfl rfl ?_
    refine DR_skip 11 rfl (by kernel_rfl) rfl rfl ?_
    refine DR_skip 12 rfl (by kernel_rfl) rfl rfl ?_
    refine DR_skip 13 rfl (by kernel_rfl) rfl rfl ?_
    refine DR_skip 14 rfl (by kernel_rfl) rfl rfl ?_
    refine DR_skip 15 rfl (by kernel_rfl) rfl rfl ?_
    refine DR_skip 16 rfl (by kernel_rfl) rfl rfl ?_
    refine DR_s 17 rfl (by kernel_rfl) rfl rfl (t_v (fun _ => (r_pickT rfl rfl)) ?_)
    refine DR_s 18 rfl (by kernel_rfl) rfl rfl (t_v (fun _ => (r_move rfl)) ?_)
    refine DR_skip 19 rfl (by kernel_rfl) rfl rfl ?_
    refine DR_skip 20 rfl (by kernel_rfl) rfl rfl ?_
    refine DR_skip 21 rfl (by kernel_rfl) rfl rfl ?_
    refine DR_skip 22 rfl (by kernel_rfl) rfl rfl ?_
    refine DR_skip 23 rfl (by kernel_rfl) rfl rfl ?_
    refine DR_skip 24 rfl (by kernel_rfl) rfl rfl ?_
    refine DR_skip 25 rfl (by kernel_rfl) rfl rfl ?_
    refine DR_s 26 rfl (by kernel_rfl) rfl rfl (t_v (fun _ => (r_pickT rfl rfl)) ?_)
    refine DR_done (by kernel_rfl) ?_
    refine thn_nrm (_hK_5 _ _ ?_)
    clear _hK_5
    refine W_condT rfl ?_
    refine W_seq fun _K_8 _hK_8 => ?_
    refine W_region ?_
    refine WL_step rfl rfl (r_assign rfl) ?_
    refine WL_nil ?_
    refine thn_nrm (_hK_8 _ _ ?_)
    clear _hK_8
    refine W_ret (thn_ret ?_)
    clear _hK_4
    exact ret_intro [_] ⟨rfl, trivial⟩ ⟨congrArg Value.bool (by first | exact tt_true ⟨by omega, by omega, _h26, _h34, pos_all _ht (by omega)⟩ | exact tt_false (fun e => by first | exact _h34 e.2.2.2.1 | exact _h26 e.2.2.1 | (have _e1 := e.1; have _e2 := e.2.1; omega) | (have _e2 := val_L e _hy43; unfold isL at _e2; omega) | (have _e2 := val_F e _hy51; exact _h58 _e2))), E⟩
  · have _kb_7 := _h10
    have _h10 := bf_d _h10
    refine DR_s 3 rfl (by kernel_rfl) rfl rfl (t_v (fun _ => (r_fieldAddr fa37_3 rfl)) ?_)
    have _f_9 := (_m1.ch0 _cw_6)
    refine DR_s 4 rfl (by kernel_rfl) rfl rfl (t_loadAt _f_9.at_ (fun i hi => absurd hi List.not_mem_nil) agg32 rfl rfl ?_)
    refine DR_s 5 rfl (by kernel_rfl) rfl rfl (t_v (fun _ => (r_len (by rw [el32]; rfl) rfl)) ?_)
    refine DR_s 6 rfl (by kernel_rfl) rfl rfl (t_v (fun _ => (r_move rfl)) ?_)
    refine DR_s 7 rfl (by kernel_rfl) rfl rfl (t_v (fun _ => (r_neq rfl rfl)) ?_)
    refine DR_s 8 rfl (by kernel_rfl) rfl rfl (t_v (fun _ => (r_pickF rfl rfl)) ?_)
    refine DR_s 9 rfl (by kernel_rfl) rfl rfl (t_v (fun _ => (r_move rfl)) ?_)
    refine DR_split (d := 17) rfl (fun _h17 => ?_) (fun _h17 => ?_)
    · have _kb_10 := _h17
      have _h17 := bf_d (bt_n _h17)
      refine DR_skip 10 rfl (by kernel_rfl) rfl rfl ?_
      refine DR_skip 11 rfl (by kernel_rfl) rfl rfl ?_
      refine DR_skip 12 rfl (by kernel_rfl) rfl rfl ?_
      refine DR_skip 13 rfl (by kernel_rfl) rfl rfl ?_
      refine DR_skip 14 rfl (by kernel_rfl) rfl rfl ?_
      refine DR_skip 15 rfl (by kernel_rfl) rfl rfl ?_
      refine DR_skip 16 rfl (by kernel_rfl) rfl rfl ?_
      refine DR_s 17 rfl (by kernel_rfl) rfl rfl (t_v (fun _ => (r_pickT rfl rfl)) ?_)
      refine DR_s 18 rfl (by kernel_rfl) rfl rfl (t_v (fun _ => (r_move rfl)) ?_)
      refine DR_skip 19 rfl (by kernel_rfl) rfl rfl ?_
      refine DR_skip 20 rfl (by kernel_rfl) rfl rfl ?_
      refine DR_skip 21 rfl (by kernel_rfl) rfl rfl ?_
      refine DR_skip 22 rfl (by kernel_rfl) rfl rfl ?_
      refine DR_skip 23 rfl (by kernel_rfl) rfl rfl ?_
      refine DR_skip 24 rfl (by kernel_rfl) rfl rfl ?_
      refine DR_skip 25 rfl (by kernel_rfl) rfl rfl ?_
      refine DR_s 26 rfl (by kernel_rfl) rfl rfl (t_v (fun _ => (r_pickT rfl rfl)) ?_)
      refine DR_done (by kernel_rfl) ?_
      refine thn_nrm (_hK_5 _ _ ?_)
      clear _hK_5
      refine W_condT rfl ?_
      refine W_seq fun _K_11 _hK_11 => ?_
      refine W_region ?_
      refine WL_step rfl rfl (r_assign rfl) ?_
      refine WL_nil ?_
      refine thn_nrm (_hK_11 _ _ ?_)
      clear _hK_11
      refine W_ret (thn_ret ?_)
      clear _hK_4
      exact ret_intro [_] ⟨rfl, trivial⟩ ⟨congrArg Value.bool (by first | exact tt_true ⟨by omega, by omega, _h26, _h34, pos_all _ht (by omega)⟩ | exact tt_false (fun e => by first | exact _h34 e.2.2.2.1 | exact _h26 e.2.2.1 | (have _e1 := e.1; have _e2 := e.2.1; omega) | (have _e2 := val_L e _hy43; unfold isL at _e2; omega) | (have _e2 := val_F e _hy51; exact _h58 _e2))), E⟩
    · have _kb_10 := _h17
      have _h17 := bt_d (bf_n _h17)
      refine DR_s 10 rfl (by kernel_rfl) rfl rfl (t_v (fun _ => (r_fieldAddr fa37_1 rfl)) ?_)
      refine DR_s 11 rfl (by kernel_rfl) rfl rfl (t_loadAt _f_9.at_ (fun i hi => absurd hi List.not_mem_nil) agg3 rfl rfl ?_)
      refine DR_s 12 rfl (by kernel_rfl) rfl rfl (t_v (fun _ => (r_move rfl)) ?_)
      refine DR_s 13 rfl (by kernel_rfl) rfl rfl (t_v (fun _ => (r_shl (by omega) rfl rfl)) ?_)
      refine DR_s 14 rfl (by kernel_rfl) rfl rfl (t_v (fun _ => (r_sub64 rfl rfl)) ?_)
      refine DR_one 15 (by kernel_rfl) ?_
      refine DO_s rfl rfl rfl ?_
      refine Step.call (r_call (xs := [.tmp 19, .const (Go.Value.int Go.IntKind.i64 0), .tmp 22]) fk66 rfl) (c_spec_l1In _ _ _ ) fun _v23 _w_12 _q23 => ?_
      obtain ⟨rfl, _cw_12⟩ := _q23
      have _cw_12z := _cw_12.size
      have E := E.trans _cw_12
      have _S_13 : Ch [] _w_6 _w_12 := ((Ch.refl _ _).trans _cw_12)
      refine ⟨_S_13, ?_⟩
      refine DR_s 16 rfl (by kernel_rfl) rfl rfl (t_v (fun _ => (r_not rfl)) ?_)
      refine DR_s 17 rfl (by kernel_rfl) rfl rfl (t_v (fun _ => (r_pickF rfl rfl)) ?_)
      refine DR_s 18 rfl (by kernel_rfl) rfl rfl (t_v (fun _ => (r_move rfl)) ?_)
      refine DR_split (d := 26) rfl (fun _h26 => ?_) (fun _h26 => ?_)
      · have _kb_14 := _h26
        have _h26 := bf_d (bt_n _h26)
        refine DR_skip 19 rfl (by kernel_rfl) rfl rfl ?_
        refine DR_skip 20 rfl (by kernel_rfl) rfl rfl ?_
        refine DR_skip 21 rfl (by kernel_rfl) rfl rfl ?_
        refine DR_skip 22 rfl (by kernel_rfl) rfl rfl ?_
        refine DR_skip 23 rfl (by kernel_rfl) rfl rfl ?_
        refine DR_skip 24 rfl (by kernel_rfl) rfl rfl ?_
        refine DR_skip 25 rfl (by kernel_rfl) rfl rfl ?_
        refine DR_s 26 rfl (by kernel_rfl) rfl rfl (t_v (fun _ => (r_pickT rfl rfl)) ?_)
        refine DR_done (by kernel_rfl) ?_
        refine thn_nrm (_hK_5 _ _ ?_)
        clear _hK_5
        refine W_condT rfl ?_
        refine W_seq fun _K_15 _hK_15 => ?_
        refine W_region ?_
        refine WL_step rfl rfl (r_assign rfl) ?_
        refine WL_nil ?_
        refine thn_nrm (_hK_15 _ _ ?_)
        clear _hK_15
        refine W_ret (thn_ret ?_)
        clear _hK_4
        exact ret_intro [_] ⟨rfl, trivial⟩ ⟨congrArg Value.bool (by first | exact tt_true ⟨by omega, by omega, _h26, _h34, pos_all _ht (by omega)⟩ | exact tt_false (fun e => by first | exact _h34 e.2.2.2.1 | exact _h26 e.2.2.1 | (have _e1 := e.1; have _e2 := e.2.1; omega) | (have _e2 := val_L e _hy43; unfold isL at _e2; omega) | (have _e2 := val_F e _hy51; exact _h58 _e2))), E⟩
      · have _kb_14 := _h26
        have _h26 := bt_d (bf_n _h26)
        refine DR_s 19 rfl (by kernel_rfl) rfl rfl (t_v (fun _ => (r_fieldAddr fa37_2 rfl)) ?_)
        refine DR_s 20 rfl (by kernel_rfl) rfl rfl (t_loadAt _f_9.at_ (fun i hi => absurd hi List.not_mem_nil) agg3 rfl rfl ?_)
        refine DR_s 21 rfl (by kernel_rfl) rfl rfl (t_v (fun _ => (r_move rfl)) ?_)
        refine DR_s 22 rfl (by kernel_rfl) rfl rfl (t_v (fun _ => (r_shl (by omega) rfl rfl)) ?_)
        refine DR_s 23 rfl (by kernel_rfl) rfl rfl (t_v (fun _ => (r_sub64 rfl rfl)) ?_)
        refine DR_one 24 (by kernel_rfl) ?_
        refine DO_s rfl rfl rfl ?_
        refine Step.call (r_call (xs := [.tmp 28, .const (Go.Value.int Go.IntKind.i64 0), .tmp 31]) fk66 rfl) (c_spec_l1In _ _ _ ) fun _v32 _w_16 _q32 => ?_
        obtain ⟨rfl, _cw_16⟩ := _q32
        have _cw_16z := _cw_16.size
        have E := E.trans _cw_16
        have _S_17 : Ch [] _w_6 _w_16 := (_S_13.trans _cw_16)
        refine ⟨_S_17, ?_⟩
        refine DR_s 25 rfl (by kernel_rfl) rfl rfl (t_v (fun _ => (r_not rfl)) ?_)
        refine DR_s 26 rfl (by kernel_rfl) rfl rfl (t_v (fun _ => (r_pickF rfl rfl)) ?_)
        refine DR_done (by kernel_rfl) ?_
        refine thn_nrm (_hK_5 _ _ ?_)
        clear _hK_5
        refine W_cond rfl (fun _h34 => ?_) (fun _h34 => ?_)
        · have _kb_18 := _h34
          have _h34 := bf_d (bt_n _h34)
          refine W_seq fun _K_19 _hK_19 => ?_
          refine W_region ?_
          refine WL_step rfl rfl (r_assign rfl) ?_
          refine WL_nil ?_
          refine thn_nrm (_hK_19 _ _ ?_)
          clear _hK_19
          refine W_ret (thn_ret ?_)
          clear _hK_4
          exact ret_intro [_] ⟨rfl, trivial⟩ ⟨congrArg Value.bool (by first | exact tt_true ⟨by omega, by omega, _h26, _h34, pos_all _ht (by omega)⟩ | exact tt_false (fun e => by first | exact _h34 e.2.2.2.1 | exact _h26 e.2.2.1 | (have _e1 := e.1; have _e2 := e.2.1; omega) | (have _e2 := val_L e _hy43; unfold isL at _e2; omega) | (have _e2 := val_F e _hy51; exact _h58 _e2))), E⟩
        · have _kb_18 := _h34
          have _h34 := bt_d (bf_n _h34)
          refine W_skip ?_
          refine thn_nrm (_hK_4 _ _ ?_)
          clear _hK_4
          refine W_seq fun _K_20 _hK_20 => ?_
          refine W_seq fun _K_21 _hK_21 => ?_
          refine W_region ?_
          refine WL_step rfl rfl (r_assign rfl) ?_
          refine WL_nil ?_
          refine thn_nrm (_hK_21 _ _ ?_)
          clear _hK_21
          refine W_block ?_
          have _f_22 := ((_f_9.ch0 _cw_12).ch0 _cw_16)
          refine W_loop (σ := Nat) (fun (k : Nat) => [(1, (.pointer (some ⟨_b1, 0, none⟩))), (3, (.int .i64 ((pL.length : Nat) : Int))), (4, (.int .i64 ((k : Nat) : Int)))]) (fun (k : Nat) wx => Ch [] w wx ∧ _w_16.heap.size ≤ wx.heap.size ∧ (k ≤ pL.length) ∧ (PosP pL pF pL.length k) ∧ Blk wx _b1 37 [(.slice _A_pL pL.length _C_pL), (.int .i64 pfirst), (.int .i64 plast), (.slice _A_pF pF.length _C_pF), (.bool pnull)]) (fun (k : Nat) => pL.length - k) 0 (Sub.cons rfl (Sub.cons rfl (Sub.cons rfl (Sub.nil _)))) ⟨E, (Nat.le_refl _), (by omega), (pos_zero _ _ _), _f_22⟩ ?_
          rintro k _wr_23 ⟨E, _zz0, _hk, _ht, _F0_0⟩
          have _E0h := E
          have _E0hz := _E0h.size
          have _F0_0z := _F0_0.lt
          refine W_seq fun _K_24 _hK_24 => ?_
          refine W_seq fun _K_25 _hK_25 => ?_
          refine W_region ?_
          refine WL_step rfl rfl (r_move rfl) ?_
          refine WL_step rfl rfl (r_move rfl) ?_
          refine WL_step rfl rfl (r_lss rfl rfl) ?_
          refine WL_nil ?_
          refine thn_nrm (_hK_25 _ _ ?_)
          clear _hK_25
          refine W_cond rfl (fun _h37 => ?_) (fun _h37 => ?_)
          · have _kb_26 := _h37
            have _h37 := bt_d _h37
            refine W_skip ?_
            refine thn_nrm (_hK_24 _ _ ?_)
            clear _hK_24
            refine W_seq fun _K_27 _hK_27 => ?_
            refine W_block ?_
            refine W_seq fun _K_28 _hK_28 => ?_
            refine W_drawC [] 19 mixed rfl fun _w_29 _cw_29 => ?_
            have _cw_29z := _cw_29.size
            have E := E.trans _cw_29
            refine DR_s 0 rfl (by kernel_rfl) rfl rfl (t_v (fun _ => (r_fieldAddr fa37_0 rfl)) ?_)
            have _f_30 := (_F0_0.ch0 _cw_29)
            refine DR_s 1 rfl (by kernel_rfl) rfl rfl (t_loadAt _f_30.at_ (fun i hi => absurd hi List.not_mem_nil) agg32 rfl rfl ?_)
            refine DR_s 2 rfl (by kernel_rfl) rfl rfl (t_v (fun _ => (r_move rfl)) ?_)
            have _f_31 := ((_h_pL.ch0 _E0h).ch0 _cw_29)
            refine DR_s 3 rfl (by kernel_rfl) rfl rfl (t_index _f_31 ics_len el32 sz3 rfl rfl rfl (by omega) fun _p43 _y43 _hy43 _a43 => ?_)
            refine DR_s 4 rfl (by kernel_rfl) rfl rfl (t_loadAt0 _a43 (fun i hi => absurd hi List.not_mem_nil) agg3 rfl rfl ?_)
            refine DR_one 5 (by kernel_rfl) ?_
            refine DO_s rfl rfl rfl ?_
            refine Step.call (r_call (xs := [.tmp 44]) fk97 rfl) (c_spec_l2Letter _ ) fun _v45 _w_32 _q45 => ?_
            obtain ⟨rfl, _cw_32⟩ := _q45
            have _cw_32z := _cw_32.size
            have E := E.trans _cw_32
            have _S_33 : Ch [] _w_29 _w_32 := ((Ch.refl _ _).trans _cw_32)
            refine ⟨_S_33, ?_⟩
            refine DR_s 6 rfl (by kernel_rfl) rfl rfl (t_v (fun _ => (r_not rfl)) ?_)
            refine DR_s 7 rfl (by kernel_rfl) rfl rfl (t_v (fun _ => (r_move rfl)) ?_)
            refine DR_split (d := 47) rfl (fun _h47 => ?_) (fun _h47 => ?_)
            · have _kb_34 := _h47
              have _h47 := bf_d (bt_n _h47)
              refine DR_skip 8 rfl (by kernel_rfl) rfl rfl ?_
              refine DR_skip 9 rfl (by kernel_rfl) rfl rfl ?_
              refine DR_skip 10 rfl (by kernel_rfl) rfl rfl ?_
              refine DR_skip 11 rfl (by kernel_rfl) rfl rfl ?_
              refine DR_skip 12 rfl (by kernel_rfl) rfl rfl ?_
              refine DR_skip 13 rfl (by kernel_rfl) rfl rfl ?_
              refine DR_skip 14 rfl (by kernel_rfl) rfl rfl ?_
              refine DR_skip 15 rfl (by kernel_rfl) rfl rfl ?_
              refine DR_skip 16 rfl (by kernel_rfl) rfl rfl ?_
              refine DR_skip 17 rfl (by kernel_rfl) rfl rfl ?_
              refine DR_s 18 rfl (by kernel_rfl) rfl rfl (t_v (fun _ => (r_pickT rfl rfl)) ?_)
              refine DR_done (by kernel_rfl) ?_
              refine thn_nrm (_hK_28 _ _ ?_)
              clear _hK_28
              refine W_condT rfl ?_
              refine W_seq fun _K_35 _hK_35 => ?_
              refine W_region ?_
              refine WL_step rfl rfl (r_assign rfl) ?_
              refine WL_nil ?_
              refine thn_nrm (_hK_35 _ _ ?_)
              clear _hK_35
              refine W_ret (inB_ret (thn_ret (thn_ret (inB_ret (thn_ret ?_)))))
              clear _hK_20 _hK_27
              exact ret_intro [_] ⟨rfl, trivial⟩ ⟨congrArg Value.bool (by first | exact tt_true ⟨by omega, by omega, _h26, _h34, pos_all _ht (by omega)⟩ | exact tt_false (fun e => by first | exact _h34 e.2.2.2.1 | exact _h26 e.2.2.1 | (have _e1 := e.1; have _e2 := e.2.1; omega) | (have _e2 := val_L e _hy43; unfold isL at _e2; omega) | (have _e2 := val_F e _hy51; exact _h58 _e2))), E⟩
            · have _kb_34 := _h47
              have _h47 := bt_d (bf_n _h47)
              refine DR_s 8 rfl (by kernel_rfl) rfl rfl (t_v (fun _ => (r_fieldAddr fa37_3 rfl)) ?_)
              refine DR_s 9 rfl (by kernel_rfl) rfl rfl (t_loadAt _f_30.at_ (fun i hi => absurd hi List.not_mem_nil) agg32 rfl rfl ?_)
              refine DR_s 10 rfl (by kernel_rfl) rfl rfl (t_v (fun _ => (r_move rfl)) ?_)
              have _f_36 := ((_h_pF.ch0 _E0h).ch0 _cw_29)
              refine DR_s 11 rfl (by kernel_rfl) rfl rfl (t_index _f_36 ics_len el32 sz3 rfl rfl rfl (by omega) fun _p51 _y51 _hy51 _a51 => ?_)
              refine DR_s 12 rfl (by kernel_rfl) rfl rfl (t_loadAt0 _a51 (fun i hi => absurd hi List.not_mem_nil) agg3 rfl rfl ?_)
              refine DR_s 13 rfl (by kernel_rfl) rfl rfl (t_v (fun _ => (r_move rfl)) ?_)
              refine DR_s 14 rfl (by kernel_rfl) rfl rfl (t_v (fun _ => (r_shl (by omega) rfl rfl)) ?_)
              refine DR_s 15 rfl (by kernel_rfl) rfl rfl (t_v (fun _ => (r_sub64 rfl rfl)) ?_)
              refine DR_one 16 (by kernel_rfl) ?_
              refine DO_s rfl rfl rfl ?_
              refine Step.call (r_call (xs := [.tmp 52, .const (Go.Value.int Go.IntKind.i64 0), .tmp 55]) fk66 rfl) (c_spec_l1In _ _ _ ) fun _v56 _w_37 _q56 => ?_
              obtain ⟨rfl, _cw_37⟩ := _q56
              have _cw_37z := _cw_37.size
              have E := E.trans _cw_37
              have _S_38 : Ch [] _w_29 _w_37 := (_S_33.trans _cw_37)
              refine ⟨_S_38, ?_⟩
              refine DR_s 17 rfl (by kernel_rfl) rfl rfl (t_v (fun _ => (r_not rfl)) ?_)
              refine DR_s 18 rfl (by kernel_rfl) rfl rfl (t_v (fun _ => (r_pickF rfl rfl)) ?_)
              refine DR_done (by kernel_rfl) ?_
              refine thn_nrm (_hK_28 _ _ ?_)
              clear _hK_28
              refine W_cond rfl (fun _h58 => ?_) (fun _h58 => ?_)
              · have _kb_39 := _h58
                have _h58 := bf_d (bt_n _h58)
                refine W_seq fun _K_40 _hK_40 => ?_
                refine W_region ?_
                refine WL_step rfl rfl (r_assign rfl) ?_
                refine WL_nil ?_
                refine thn_nrm (_hK_40 _ _ ?_)
                clear _hK_40
                refine W_ret (inB_ret (thn_ret (thn_ret (inB_ret (thn_ret ?_)))))
                clear _hK_20 _hK_27
                exact ret_intro [_] ⟨rfl, trivial⟩ ⟨congrArg Value.bool (by first | exact tt_true ⟨by omega, by omega, _h26, _h34, pos_all _ht (by omega)⟩ | exact tt_false (fun e => by first | exact _h34 e.2.2.2.1 | exact _h26 e.2.2.1 | (have _e1 := e.1; have _e2 := e.2.1; omega) | (have _e2 := val_L e _hy43; unfold isL at _e2; omega) | (have _e2 := val_F e _hy51; exact _h58 _e2))), E⟩
              · have _kb_39 := _h58
                have _h58 := bt_d (bf_n _h58)
                refine W_skip ?_
                refine inB_nrm ?_
                refine thn_nrm (_hK_27 _ _ ?_)
                clear _hK_27
                refine W_region ?_
                refine WL_step rfl rfl (r_move rfl) ?_
                refine WL_step rfl rfl (r_add (by omega) rfl rfl) ?_
                refine WL_step rfl rfl (r_assign rfl) ?_
                refine WL_nil ?_
                have _f_41 := ((_f_30.ch0 _cw_32).ch0 _cw_37)
                exact thn_nrm (Exists.intro (k + 1) ⟨⟨E, (by omega), (by omega), (pos_step _ht _hy43 _hy51 _h47 _h58), _f_41⟩, Sub.cons rfl (Sub.cons rfl (Sub.cons rfl (Sub.nil _))), (by first | omega | (dsimp only; omega))⟩)
          · have _kb_26 := _h37
            have _h37 := bf_d _h37
            refine W_exit (thn_exit (thn_exit (inB_hit ?_)))
            refine thn_nrm (_hK_20 _ _ ?_)
            clear _hK_20
            refine W_seq fun _K_42 _hK_42 => ?_
            refine W_region ?_
            refine WL_step rfl rfl (r_assign rfl) ?_
            refine WL_nil ?_
            refine thn_nrm (_hK_42 _ _ ?_)
            clear _hK_42
            refine W_ret ?_
            clear _hK_24
            exact ret_intro [_] ⟨rfl, trivial⟩ ⟨congrArg Value.bool (by first | exact tt_true ⟨by omega, by omega, _h26, _h34, pos_all _ht (by omega)⟩ | exact tt_false (fun e => by first | exact _h34 e.2.2.2.1 | exact _h26 e.2.2.1 | (have _e1 := e.1; have _e2 := e.2.1; omega) | (have _e2 := val_L e _hy43; unfold isL at _e2; omega) | (have _e2 := val_F e _hy51; exact _h58 _e2))), E⟩

/-- spec.IsWord -/
theorem c_spec_IsWord {w : World} {LL_wd _B_wd : Nat} {_v_wd : Value} {wd : List Int} (_h_wd : Ls ics 1 w LL_wd _B_wd _v_wd wd) :
    Ctr Try.prog 59 #[_v_wd] w (fun v w' => v = .bool (tt (IsWd wd)) ∧ Ch [] w w') := by
  obtain ⟨_A_wd, _C_wd, _e1_wd⟩ := _h_wd.val
  subst _e1_wd
  have _l_wd := _h_wd.len
  have _h_wd := _h_wd.here (by decide)
  have E := Ch.refl [] w
  refine Ctr_of_W (N := 19) (vs0 := [(.slice _A_wd wd.length _C_wd)]) Try.func59 rfl rfl rfl ?_
  refine W_seq fun _K_1 _hK_1 => ?_
  refine W_region ?_
  refine WL_step rfl rfl (r_assign rfl) ?_
  refine WL_nil ?_
  refine thn_nrm (_hK_1 _ _ ?_)
  clear _hK_1
  refine W_seq fun _K_2 _hK_2 => ?_
  refine W_seq fun _K_3 _hK_3 => ?_
  refine W_region ?_
  refine WL_step rfl rfl (r_assign rfl) ?_
  refine WL_nil ?_
  refine thn_nrm (_hK_3 _ _ ?_)
  clear _hK_3
  refine W_block ?_
  refine W_loop (σ := Nat) (fun (k : Nat) => [(0, (.slice _A_wd wd.length _C_wd)), (3, (.int .i64 ((k : Nat) : Int)))]) (fun (k : Nat) wx => Ch [] w wx ∧ w.heap.size ≤ wx.heap.size ∧ (k ≤ wd.length) ∧ (WdP wd k)) (fun (k : Nat) => wd.length - k) 0 (Sub.cons rfl (Sub.cons rfl (Sub.nil _))) ⟨E, (Nat.le_refl _), (by omega), (wd_zero _)⟩ ?_
  rintro k _wr_4 ⟨E, _zz0, _hk, _ht⟩
  have _E0h := E
  have _E0hz := _E0h.size
  refine W_seq fun _K_5 _hK_5 => ?_
  refine W_seq fun _K_6 _hK_6 => ?_
  refine W_region ?_
  refine WL_step rfl rfl (r_move rfl) ?_
  refine WL_step rfl rfl (r_move rfl) ?_
  refine WL_step rfl rfl (r_len (by rw [el32]; rfl) rfl) ?_
  refine WL_step rfl rfl (r_lss rfl rfl) ?_
  refine WL_nil ?_
  refine thn_nrm (_hK_6 _ _ ?_)
  clear _hK_6
  refine W_cond rfl (fun _h7 => ?_) (fun _h7 => ?_)
  · have _kb_7 := _h7
    have _h7 := bt_d _h7
    refine W_skip ?_
    refine thn_nrm (_hK_5 _ _ ?_)
    clear _hK_5
    refine W_seq fun _K_8 _hK_8 => ?_
    refine W_block ?_
    refine W_seq fun _K_9 _hK_9 => ?_
    refine W_region ?_
    refine WL_step rfl rfl (r_move rfl) ?_
    refine WL_step rfl rfl (r_move rfl) ?_
    refine WL_s rfl rfl ?_
    have _f_10 := (_h_wd.ch0 _E0h)
    refine (s_index _f_10 ics_len el32 sz3 rfl rfl rfl (by omega) fun _p12 _y12 _hy12 _a12 => ?_)
    refine WL_step rfl rfl (r_loadAt0 _a12 agg3 rfl rfl) ?_
    refine WL_s rfl rfl ?_
    refine Step.call (r_call (xs := [.tmp 13]) fk97 rfl) (c_spec_l2Letter _ ) fun _v14 _w_11 _q14 => ?_
    obtain ⟨rfl, _cw_11⟩ := _q14
    have _cw_11z := _cw_11.size
    have E := E.trans _cw_11
    refine WL_step rfl rfl (r_not rfl) ?_
    refine WL_nil ?_
    refine thn_nrm (_hK_9 _ _ ?_)
    clear _hK_9
    refine W_cond rfl (fun _h15 => ?_) (fun _h15 => ?_)
    · have _kb_12 := _h15
      have _h15 := bf_d (bt_n _h15)
      refine W_seq fun _K_13 _hK_13 => ?_
      refine W_region ?_
      refine WL_step rfl rfl (r_assign rfl) ?_
      refine WL_nil ?_
      refine thn_nrm (_hK_13 _ _ ?_)
      clear _hK_13
      refine W_ret (inB_ret (thn_ret (thn_ret (inB_ret (thn_ret ?_)))))
      clear _hK_2 _hK_8
      exact ret_intro [_] ⟨rfl, trivial⟩ ⟨congrArg Value.bool (by first | exact tt_false (fun e => _h15 (wd_val e _hy12)) | (rw [tt_dec]; exact tt_eq ⟨fun e => ⟨wd_all _ht (by omega), by omega⟩, fun e => by have := e.2; omega⟩)), E⟩
    · have _kb_12 := _h15
      have _h15 := bt_d (bf_n _h15)
      refine W_skip ?_
      refine inB_nrm ?_
      refine thn_nrm (_hK_8 _ _ ?_)
      clear _hK_8
      refine W_region ?_
      refine WL_step rfl rfl (r_move rfl) ?_
      refine WL_step rfl rfl (r_add (by omega) rfl rfl) ?_
      refine WL_step rfl rfl (r_assign rfl) ?_
      refine WL_nil ?_
      exact thn_nrm (Exists.intro (k + 1) ⟨⟨E, (by omega), (by omega), (wd_step _ht _hy12 _h15)⟩, Sub.cons rfl (Sub.cons rfl (Sub.nil _)), (by first | omega | (dsimp only; omega))⟩)
  · have _kb_7 := _h7
    have _h7 := bf_d _h7
    refine W_exit (thn_exit (thn_exit (inB_hit ?_)))
    refine thn_nrm (_hK_2 _ _ ?_)
    clear _hK_2
    refine W_seq fun _K_14 _hK_14 => ?_
    refine W_region ?_
    refine WL_step rfl rfl (r_move rfl) ?_
    refine WL_step rfl rfl (r_len (by rw [el32]; rfl) rfl) ?_
    refine WL_step rfl rfl (r_leq rfl rfl) ?_
    refine WL_step rfl rfl (r_assign rfl) ?_
    refine WL_nil ?_
    refine thn_nrm (_hK_14 _ _ ?_)
    clear _hK_14
    refine W_ret ?_
    clear _hK_5
    exact ret_intro [_] ⟨rfl, trivial⟩ ⟨congrArg Value.bool (by first | exact tt_false (fun e => _h15 (wd_val e _hy12)) | (rw [tt_dec]; exact tt_eq ⟨fun e => ⟨wd_all _ht (by omega), by omega⟩, fun e => by have := e.2; omega⟩)), E⟩

/-- spec.l10Accepts -/
theorem c_spec_l10Accepts {w : World} {LL_pL _B_pL : Nat} {_v_pL : Value} {pL : List Int} (_h_pL : Ls ics 1 w LL_pL _B_pL _v_pL pL) (pfirst : Int) (plast : Int) {LL_pF _B_pF : Nat} {_v_pF : Value} {pF : List Int} (_h_pF : Ls ics 1 w LL_pF _B_pF _v_pF pF) (pnull : Bool) (set : Int) :
    Ctr Try.prog 61 #[(.agg #[_v_pL, (.int .i64 pfirst), (.int .i64 plast), _v_pF, (.bool pnull)]), (.int .i64 set)] w (fun v w' => v = .bool (accB plast pnull set) ∧ Ch [] w w') := by
  obtain ⟨_A_pL, _C_pL, _e1_pL⟩ := _h_pL.val
  subst _e1_pL
  have _l_pL := _h_pL.len
  have _h_pL := _h_pL.here (by decide)
  obtain ⟨_A_pF, _C_pF, _e1_pF⟩ := _h_pF.val
  subst _e1_pF
  have _l_pF := _h_pF.len
  have _h_pF := _h_pF.here (by decide)
  have E := Ch.refl [] w
  refine Ctr_of_W (N := 20) (vs0 := [(.agg #[(.slice _A_pL pL.length _C_pL), (.int .i64 pfirst), (.int .i64 plast), (.slice _A_pF pF.length _C_pF), (.bool pnull)]), (.int .i64 set)]) Try.func61 rfl rfl rfl ?_
  refine W_seq fun _K_1 _hK_1 => ?_
  refine W_region ?_
  refine WL_s rfl rfl ?_
  refine s_box rfl fun _b2 _w_2 _m2 _cw_2 _e2 => ?_
  have _cw_2z := _cw_2.size
  have E := E.trans _cw_2
  have _z2 := _m2.lt
  replace _m2 : Blk _w_2 _b2 37 [(.slice _A_pL pL.length _C_pL), (.int .i64 pfirst), (.int .i64 plast), (.slice _A_pF pF.length _C_pF), (.bool pnull)] := _m2
  refine WL_step rfl rfl (r_assign rfl) ?_
  refine WL_nil ?_
  refine thn_nrm (_hK_1 _ _ ?_)
  clear _hK_1
  refine W_seq fun _K_3 _hK_3 => ?_
  refine W_region ?_
  refine WL_step rfl rfl (r_move rfl) ?_
  refine WL_step rfl rfl (r_and rfl rfl) ?_
  refine WL_step rfl rfl (r_eql rfl rfl) ?_
  refine WL_step rfl rfl (r_move rfl) ?_
  refine WL_split (d := 8) rfl (fun _h8 => ?_) (fun _h8 => ?_)
  · have _kb_4 := _h8
    have _h8 := bt_d _h8
    refine WL_step rfl rfl (r_fieldAddr fa37_4 rfl) ?_
    refine WL_step rfl rfl (r_loadAt _m2.at_ agg4 rfl rfl) ?_
    refine WL_step rfl rfl (r_pickT rfl rfl) ?_
    refine WL_step rfl rfl (r_move rfl) ?_
    refine WL_split (d := 12) rfl (fun _h12 => ?_) (fun _h12 => ?_)
    · have _kb_5 := _h12
      refine WL_skip rfl rfl ?_
      refine WL_skip rfl rfl ?_
      refine WL_skip rfl rfl ?_
      refine WL_skip rfl rfl ?_
      refine WL_skip rfl rfl ?_
      refine WL_skip rfl rfl ?_
      refine WL_step rfl rfl (r_pickT rfl rfl) ?_
      refine WL_step rfl rfl (r_assign rfl) ?_
      refine WL_nil ?_
      refine thn_nrm (_hK_3 _ _ ?_)
      clear _hK_3
      refine W_ret ?_
      exact ret_intro [_] ⟨rfl, trivial⟩ ⟨congrArg Value.bool (by unfold accB; simp_all), E⟩
    · have _kb_5 := _h12
      refine WL_step rfl rfl (r_move rfl) ?_
      refine WL_step rfl rfl (r_shr (by omega) rfl rfl) ?_
      refine WL_step rfl rfl (r_fieldAddr fa37_2 rfl) ?_
      refine WL_step rfl rfl (r_loadAt _m2.at_ agg3 rfl rfl) ?_
      refine WL_step rfl rfl (r_and rfl rfl) ?_
      refine WL_step rfl rfl (r_neq rfl rfl) ?_
      refine WL_step rfl rfl (r_pickF rfl rfl) ?_
      refine WL_step rfl rfl (r_assign rfl) ?_
      refine WL_nil ?_
      refine thn_nrm (_hK_3 _ _ ?_)
      clear _hK_3
      refine W_ret ?_
      exact ret_intro [_] ⟨rfl, trivial⟩ ⟨congrArg Value.bool (by unfold accB; simp_all), E⟩
  · have _kb_4 := _h8
    have _h8 := bf_d _h8
    refine WL_skip rfl rfl ?_
    refine WL_skip rfl rfl ?_
    refine WL_step rfl rfl (r_pickF rfl rfl) ?_
    refine WL_step rfl rfl (r_move rfl) ?_
    refine WL_step rfl rfl (r_move rfl) ?_
    refine WL_step rfl rfl (r_shr (by omega) rfl rfl) ?_
    refine WL_step rfl rfl (r_fieldAddr fa37_2 rfl) ?_
    refine WL_step rfl rfl (r_loadAt _m2.at_ agg3 rfl rfl) ?_
    refine WL_step rfl rfl (r_and rfl rfl) ?_
    refine WL_step rfl rfl (r_neq rfl rfl) ?_
    refine WL_step rfl rfl (r_pickF rfl rfl) ?_
    refine WL_step rfl rfl (r_assign rfl) ?_
    refine WL_nil ?_
    refine thn_nrm (_hK_3 _ _ ?_)
    clear _hK_3
    refine W_ret ?_
    exact ret_intro [_] ⟨rfl, trivial⟩ ⟨congrArg Value.bool (by unfold accB; simp_all), E⟩

/-- spec.l10After -/
theorem c_spec_l10After {w : World} {LL_pL _B_pL : Nat} {_v_pL : Value} {pL : List Int} (_h_pL : Ls ics 1 w LL_pL _B_pL _v_pL pL) (pfirst : Int) (plast : Int) {LL_pF _B_pF : Nat} {_v_pF : Value} {pF : List Int} (_h_pF : Ls ics 1 w LL_pF _B_pF _v_pF pF) (pnull : Bool) (set : Int) (letter : Int) (hF : pF.length = pL.length) (hn : pL.length ≤ 20) :
    Ctr Try.prog 60 #[(.agg #[_v_pL, (.int .i64 pfirst), (.int .i64 plast), _v_pF, (.bool pnull)]), (.int .i64 set), (.int .i64 letter)] w (fun v w' => v = .int .i64 (afterP pL pfirst pF set letter) ∧ Ch [] w w') := by
  obtain ⟨_A_pL, _C_pL, _e1_pL⟩ := _h_pL.val
  subst _e1_pL
  have _l_pL := _h_pL.len
  have _h_pL := _h_pL.here (by decide)
  obtain ⟨_A_pF, _C_pF, _e1_pF⟩ := _h_pF.val
  subst _e1_pF
  have _l_pF := _h_pF.len
  have _h_pF := _h_pF.here (by decide)
  have E := Ch.refl [] w
  refine Ctr_of_W (N := 63) (vs0 := [(.agg #[(.slice _A_pL pL.length _C_pL), (.int .i64 pfirst), (.int .i64 plast), (.slice _A_pF pF.length _C_pF), (.bool pnull)]), (.int .i64 set), (.int .i64 letter)]) Try.func60 rfl rfl rfl ?_
  refine W_seq fun _K_1 _hK_1 => ?_
  refine W_region ?_
  refine WL_s rfl rfl ?_
  refine s_box rfl fun _b3 _w_2 _m3 _cw_2 _e3 => ?_
  have _cw_2z := _cw_2.size
  have E := E.trans _cw_2
  have _z3 := _m3.lt
  replace _m3 : Blk _w_2 _b3 37 [(.slice _A_pL pL.length _C_pL), (.int .i64 pfirst), (.int .i64 plast), (.slice _A_pF pF.length _C_pF), (.bool pnull)] := _m3
  refine WL_step rfl rfl (r_assign rfl) ?_
  refine WL_nil ?_
  refine thn_nrm (_hK_1 _ _ ?_)
  clear _hK_1
  refine W_seq fun _K_3 _hK_3 => ?_
  refine W_region ?_
  refine WL_step rfl rfl (r_assign rfl) ?_
  refine WL_nil ?_
  refine thn_nrm (_hK_3 _ _ ?_)
  clear _hK_3
  refine W_seq fun _K_4 _hK_4 => ?_
  refine W_seq fun _K_5 _hK_5 => ?_
  refine W_region ?_
  refine WL_step rfl rfl (r_move rfl) ?_
  refine WL_step rfl rfl (r_and rfl rfl) ?_
  refine WL_step rfl rfl (r_eql rfl rfl) ?_
  refine WL_nil ?_
  refine thn_nrm (_hK_5 _ _ ?_)
  clear _hK_5
  refine W_cond rfl (fun _h13 => ?_) (fun _h13 => ?_)
  · have _kb_6 := _h13
    have _h13 := bt_d _h13
    refine W_region ?_
    refine WL_step rfl rfl (r_fieldAddr fa37_1 rfl) ?_
    refine WL_step rfl rfl (r_loadAt _m3.at_ agg3 rfl rfl) ?_
    refine WL_step rfl rfl (r_assign rfl) ?_
    refine WL_nil ?_
    refine thn_nrm (_hK_4 _ _ ?_)
    clear _hK_4
    refine W_seq fun _K_7 _hK_7 => ?_
    refine W_seq fun _K_8 _hK_8 => ?_
    refine W_region ?_
    refine WL_step rfl rfl (r_assign rfl) ?_
    refine WL_nil ?_
    refine thn_nrm (_hK_8 _ _ ?_)
    clear _hK_8
    refine W_block ?_
    refine W_loop (σ := Nat × Int) (fun ⟨k, m⟩ => [(1, (.int .i64 set)), (2, (.int .i64 letter)), (3, (.pointer (some ⟨_b3, 0, none⟩))), (6, (.int .i64 0)), (7, (.int .i64 m)), (8, (.int .i64 ((k : Nat) : Int)))]) (fun ⟨k, m⟩ wx => Ch [] w wx ∧ _w_2.heap.size ≤ wx.heap.size ∧ (k ≤ pL.length) ∧ (m = nxt pF set (if iand set 1 = 1 then pfirst else 0) k) ∧ Blk wx _b3 37 [(.slice _A_pL pL.length _C_pL), (.int .i64 pfirst), (.int .i64 plast), (.slice _A_pF pF.length _C_pF), (.bool pnull)]) (fun ⟨k, m⟩ => pL.length - k) (0, pfirst) (Sub.cons rfl (Sub.cons rfl (Sub.cons rfl (Sub.cons rfl (Sub.cons rfl (Sub.cons rfl (Sub.nil _))))))) ⟨E, (Nat.le_refl _), (by omega), (by first | exact (if_pos _h13).symm | exact (if_neg _h13).symm), _m3⟩ ?_
    rintro ⟨k, m⟩ _wr_9 ⟨E, _zz0, _hk, hm, _F0_0⟩
    have _E0h := E
    have _E0hz := _E0h.size
    have _F0_0z := _F0_0.lt
    refine W_seq fun _K_10 _hK_10 => ?_
    refine W_seq fun _K_11 _hK_11 => ?_
    refine W_region ?_
    refine WL_step rfl rfl (r_move rfl) ?_
    refine WL_step rfl rfl (r_fieldAddr fa37_0 rfl) ?_
    refine WL_step rfl rfl (r_loadAt _F0_0.at_ agg32 rfl rfl) ?_
    refine WL_step rfl rfl (r_len (by rw [el32]; rfl) rfl) ?_
    refine WL_step rfl rfl (r_lss rfl rfl) ?_
    refine WL_nil ?_
    refine thn_nrm (_hK_11 _ _ ?_)
    clear _hK_11
    refine W_cond rfl (fun _h20 => ?_) (fun _h20 => ?_)
    · have _kb_12 := _h20
      have _h20 := bt_d _h20
      refine W_skip ?_
      refine thn_nrm (_hK_10 _ _ ?_)
      clear _hK_10
      refine W_seq fun _K_13 _hK_13 => ?_
      refine W_block ?_
      refine W_seq fun _K_14 _hK_14 => ?_
      refine W_region ?_
      refine WL_step rfl rfl (r_move rfl) ?_
      refine WL_step rfl rfl (r_move rfl) ?_
      refine WL_step rfl rfl (r_add (by omega) rfl rfl) ?_
      refine WL_step rfl rfl (r_shr (by omega) rfl rfl) ?_
      refine WL_step rfl rfl (r_and rfl rfl) ?_
      refine WL_step rfl rfl (r_eql rfl rfl) ?_
      refine WL_nil ?_
      refine thn_nrm (_hK_14 _ _ ?_)
      clear _hK_14
      refine W_cond rfl (fun _h28 => ?_) (fun _h28 => ?_)
      · have _kb_15 := _h28
        have _h28 := bt_d _h28
        refine W_region ?_
        refine WL_step rfl rfl (r_move rfl) ?_
        refine WL_step rfl rfl (r_fieldAddr fa37_3 rfl) ?_
        refine WL_step rfl rfl (r_loadAt _F0_0.at_ agg32 rfl rfl) ?_
        refine WL_step rfl rfl (r_move rfl) ?_
        refine WL_s rfl rfl ?_
        have _f_16 := (_h_pF.ch0 _E0h)
        refine (s_index _f_16 ics_len el32 sz3 rfl rfl rfl (by omega) fun _p33 _y33 _hy33 _a33 => ?_)
        refine WL_step rfl rfl (r_loadAt0 _a33 agg3 rfl rfl) ?_
        refine WL_step rfl rfl (r_or rfl rfl) ?_
        refine WL_step rfl rfl (r_assign rfl) ?_
        refine WL_nil ?_
        refine inB_nrm ?_
        refine thn_nrm (_hK_13 _ _ ?_)
        clear _hK_13
        refine W_region ?_
        refine WL_step rfl rfl (r_move rfl) ?_
        refine WL_step rfl rfl (r_add (by omega) rfl rfl) ?_
        refine WL_step rfl rfl (r_assign rfl) ?_
        refine WL_nil ?_
        exact thn_nrm (Exists.intro ((k + 1), (ior m _y33)) ⟨⟨E, (by omega), (by omega), (by first | exact nxt_y _h28 hm _hy33 | exact nxt_n _h28 hm), _F0_0⟩, Sub.cons rfl (Sub.cons rfl (Sub.cons rfl (Sub.cons rfl (Sub.cons rfl (Sub.cons rfl (Sub.nil _)))))), (by first | omega | (dsimp only; omega))⟩)
      · have _kb_15 := _h28
        have _h28 := bf_d _h28
        refine W_skip ?_
        refine inB_nrm ?_
        refine thn_nrm (_hK_13 _ _ ?_)
        clear _hK_13
        refine W_region ?_
        refine WL_step rfl rfl (r_move rfl) ?_
        refine WL_step rfl rfl (r_add (by omega) rfl rfl) ?_
        refine WL_step rfl rfl (r_assign rfl) ?_
        refine WL_nil ?_
        exact thn_nrm (Exists.intro ((k + 1), m) ⟨⟨E, (by omega), (by omega), (by first | exact nxt_y _h28 hm _hy33 | exact nxt_n _h28 hm), _F0_0⟩, Sub.cons rfl (Sub.cons rfl (Sub.cons rfl (Sub.cons rfl (Sub.cons rfl (Sub.cons rfl (Sub.nil _)))))), (by first | omega | (dsimp only; omega))⟩)
    · have _kb_12 := _h20
      have _h20 := bf_d _h20
      refine W_exit (thn_exit (thn_exit (inB_hit ?_)))
      refine thn_nrm (_hK_7 _ _ ?_)
      clear _hK_7
      refine W_seq fun _K_17 _hK_17 => ?_
      refine W_region ?_
      refine WL_step rfl rfl (r_assign rfl) ?_
      refine WL_nil ?_
      refine thn_nrm (_hK_17 _ _ ?_)
      clear _hK_17
      refine W_seq fun _K_18 _hK_18 => ?_
      refine W_seq fun _K_19 _hK_19 => ?_
      refine W_region ?_
      refine WL_step rfl rfl (r_assign rfl) ?_
      refine WL_nil ?_
      refine thn_nrm (_hK_19 _ _ ?_)
      clear _hK_19
      refine W_block ?_
      refine W_loop (σ := Nat × Int) (fun ⟨q, o⟩ => [(2, (.int .i64 letter)), (3, (.pointer (some ⟨_b3, 0, none⟩))), (6, (.int .i64 0)), (7, (.int .i64 m)), (9, (.int .i64 o)), (10, (.int .i64 ((q : Nat) : Int)))]) (fun ⟨q, o⟩ wx => Ch [] w wx ∧ _wr_9.heap.size ≤ wx.heap.size ∧ (q ≤ pL.length) ∧ (o = outP pL (nxt pF set (if iand set 1 = 1 then pfirst else 0) pL.length) letter q) ∧ Blk wx _b3 37 [(.slice _A_pL pL.length _C_pL), (.int .i64 pfirst), (.int .i64 plast), (.slice _A_pF pF.length _C_pF), (.bool pnull)]) (fun ⟨q, o⟩ => pL.length - q) (0, 0) (Sub.cons rfl (Sub.cons rfl (Sub.cons rfl (Sub.cons rfl (Sub.cons rfl (Sub.cons rfl (Sub.nil _))))))) ⟨E, (Nat.le_refl _), (by omega), rfl, _F0_0⟩ ?_
      rintro ⟨q, o⟩ _wr_20 ⟨E, _zz1, hq, ho, _F1_0⟩
      have _E1h := E
      have _E1hz := _E1h.size
      have _F1_0z := _F1_0.lt
      have hm2 : m = nxt pF set (if iand set 1 = 1 then pfirst else 0) pL.length := by rw [hm, show k = pL.length by omega]
      refine W_seq fun _K_21 _hK_21 => ?_
      refine W_seq fun _K_22 _hK_22 => ?_
      refine W_region ?_
      refine WL_step rfl rfl (r_move rfl) ?_
      refine WL_step rfl rfl (r_fieldAddr fa37_0 rfl) ?_
      refine WL_step rfl rfl (r_loadAt _F1_0.at_ agg32 rfl rfl) ?_
      refine WL_step rfl rfl (r_len (by rw [el32]; rfl) rfl) ?_
      refine WL_step rfl rfl (r_lss rfl rfl) ?_
      refine WL_nil ?_
      refine thn_nrm (_hK_22 _ _ ?_)
      clear _hK_22
      refine W_cond rfl (fun _h40 => ?_) (fun _h40 => ?_)
      · have _kb_23 := _h40
        have _h40 := bt_d _h40
        refine W_skip ?_
        refine thn_nrm (_hK_21 _ _ ?_)
        clear _hK_21
        refine W_seq fun _K_24 _hK_24 => ?_
        refine W_block ?_
        refine W_seq fun _K_25 _hK_25 => ?_
        refine W_region ?_
        refine WL_step rfl rfl (r_move rfl) ?_
        refine WL_step rfl rfl (r_move rfl) ?_
        refine WL_step rfl rfl (r_shr (by omega) rfl rfl) ?_
        refine WL_step rfl rfl (r_and rfl rfl) ?_
        refine WL_step rfl rfl (r_eql rfl rfl) ?_
        refine WL_step rfl rfl (r_move rfl) ?_
        refine WL_split (d := 48) rfl (fun _h48 => ?_) (fun _h48 => ?_)
        · have _kb_26 := _h48
          have _h48 := bt_d _h48
          refine WL_step rfl rfl (r_fieldAddr fa37_0 rfl) ?_
          refine WL_step rfl rfl (r_loadAt _F1_0.at_ agg32 rfl rfl) ?_
          refine WL_step rfl rfl (r_move rfl) ?_
          refine WL_s rfl rfl ?_
          have _f_27 := (_h_pL.ch0 _E1h)
          refine (s_index _f_27 ics_len el32 sz3 rfl rfl rfl (by omega) fun _p52 _y52 _hy52 _a52 => ?_)
          refine WL_step rfl rfl (r_loadAt0 _a52 agg3 rfl rfl) ?_
          refine WL_step rfl rfl (r_move rfl) ?_
          refine WL_step rfl rfl (r_eql rfl rfl) ?_
          refine WL_step rfl rfl (r_pickT rfl rfl) ?_
          refine WL_nil ?_
          refine thn_nrm (_hK_25 _ _ ?_)
          clear _hK_25
          refine W_cond rfl (fun _h56 => ?_) (fun _h56 => ?_)
          · have _kb_28 := _h56
            have _h56 := bt_d _h56
            refine W_region ?_
            refine WL_step rfl rfl (r_move rfl) ?_
            refine WL_step rfl rfl (r_move rfl) ?_
            refine WL_step rfl rfl (r_add (by omega) rfl rfl) ?_
            refine WL_step rfl rfl (r_shl (by omega) rfl rfl) ?_
            refine WL_step rfl rfl (r_or rfl rfl) ?_
            refine WL_step rfl rfl (r_assign rfl) ?_
            refine WL_nil ?_
            refine inB_nrm ?_
            refine thn_nrm (_hK_24 _ _ ?_)
            clear _hK_24
            refine W_region ?_
            refine WL_step rfl rfl (r_move rfl) ?_
            refine WL_step rfl rfl (r_add (by omega) rfl rfl) ?_
            refine WL_step rfl rfl (r_assign rfl) ?_
            refine WL_nil ?_
            exact thn_nrm (Exists.intro ((q + 1), (ior o (ishl 1 (((q : Nat) : Int) + 1)))) ⟨⟨E, (by omega), (by omega), (by first | exact out_y _hy52 _h56 (by rw [← hm2]; exact _h48) ho | exact out_n1 (by rw [← hm2]; exact _h48) ho | exact out_n2 _hy52 _h56 ho), _F1_0⟩, Sub.cons rfl (Sub.cons rfl (Sub.cons rfl (Sub.cons rfl (Sub.cons rfl (Sub.cons rfl (Sub.nil _)))))), (by first | omega | (dsimp only; omega))⟩)
          · have _kb_28 := _h56
            have _h56 := bf_d _h56
            refine W_skip ?_
            refine inB_nrm ?_
            refine thn_nrm (_hK_24 _ _ ?_)
            clear _hK_24
            refine W_region ?_
            refine WL_step rfl rfl (r_move rfl) ?_
            refine WL_step rfl rfl (r_add (by omega) rfl rfl) ?_
            refine WL_step rfl rfl (r_assign rfl) ?_
            refine WL_nil ?_
            exact thn_nrm (Exists.intro ((q + 1), o) ⟨⟨E, (by omega), (by omega), (by first | exact out_y _hy52 _h56 (by rw [← hm2]; exact _h48) ho | exact out_n1 (by rw [← hm2]; exact _h48) ho | exact out_n2 _hy52 _h56 ho), _F1_0⟩, Sub.cons rfl (Sub.cons rfl (Sub.cons rfl (Sub.cons rfl (Sub.cons rfl (Sub.cons rfl (Sub.nil _)))))), (by first | omega | (dsimp only; omega))⟩)
        · have _kb_26 := _h48
          have _h48 := bf_d _h48
          refine WL_skip rfl rfl ?_
          refine WL_skip rfl rfl ?_
          refine WL_skip rfl rfl ?_
          refine WL_skip rfl rfl ?_
          refine WL_skip rfl rfl ?_
          refine WL_skip rfl rfl ?_
          refine WL_skip rfl rfl ?_
          refine WL_step rfl rfl (r_pickF rfl rfl) ?_
          refine WL_nil ?_
          refine thn_nrm (_hK_25 _ _ ?_)
          clear _hK_25
          refine W_condF rfl ?_
          refine W_skip ?_
          refine inB_nrm ?_
          refine thn_nrm (_hK_24 _ _ ?_)
          clear _hK_24
          refine W_region ?_
          refine WL_step rfl rfl (r_move rfl) ?_
          refine WL_step rfl rfl (r_add (by omega) rfl rfl) ?_
          refine WL_step rfl rfl (r_assign rfl) ?_
          refine WL_nil ?_
          exact thn_nrm (Exists.intro ((q + 1), o) ⟨⟨E, (by omega), (by omega), (by first | exact out_y _hy52 _h56 (by rw [← hm2]; exact _h48) ho | exact out_n1 (by rw [← hm2]; exact _h48) ho | exact out_n2 _hy52 _h56 ho), _F1_0⟩, Sub.cons rfl (Sub.cons rfl (Sub.cons rfl (Sub.cons rfl (Sub.cons rfl (Sub.cons rfl (Sub.nil _)))))), (by first | omega | (dsimp only; omega))⟩)
      · have _kb_23 := _h40
        have _h40 := bf_d _h40
        refine W_exit (thn_exit (thn_exit (inB_hit ?_)))
        refine thn_nrm (_hK_18 _ _ ?_)
        clear _hK_18
        refine W_seq fun _K_29 _hK_29 => ?_
        refine W_region ?_
        refine WL_step rfl rfl (r_move rfl) ?_
        refine WL_step rfl rfl (r_assign rfl) ?_
        refine WL_nil ?_
        refine thn_nrm (_hK_29 _ _ ?_)
        clear _hK_29
        refine W_ret ?_
        clear _hK_10 _hK_21
        exact ret_intro [_] ⟨rfl, trivial⟩ ⟨congrArg (Value.int .i64) (by unfold afterP; rw [ho, show q = pL.length by omega]), E⟩
  · have _kb_6 := _h13
    have _h13 := bf_d _h13
    refine W_skip ?_
    refine thn_nrm (_hK_4 _ _ ?_)
    clear _hK_4
    refine W_seq fun _K_30 _hK_30 => ?_
    refine W_seq fun _K_31 _hK_31 => ?_
    refine W_region ?_
    refine WL_step rfl rfl (r_assign rfl) ?_
    refine WL_nil ?_
    refine thn_nrm (_hK_31 _ _ ?_)
    clear _hK_31
    refine W_block ?_
    refine W_loop (σ := Nat × Int) (fun ⟨k, m⟩ => [(1, (.int .i64 set)), (2, (.int .i64 letter)), (3, (.pointer (some ⟨_b3, 0, none⟩))), (6, (.int .i64 0)), (7, (.int .i64 m)), (8, (.int .i64 ((k : Nat) : Int)))]) (fun ⟨k, m⟩ wx => Ch [] w wx ∧ _w_2.heap.size ≤ wx.heap.size ∧ (k ≤ pL.length) ∧ (m = nxt pF set (if iand set 1 = 1 then pfirst else 0) k) ∧ Blk wx _b3 37 [(.slice _A_pL pL.length _C_pL), (.int .i64 pfirst), (.int .i64 plast), (.slice _A_pF pF.length _C_pF), (.bool pnull)]) (fun ⟨k, m⟩ => pL.length - k) (0, 0) (Sub.cons rfl (Sub.cons rfl (Sub.cons rfl (Sub.cons rfl (Sub.cons rfl (Sub.cons rfl (Sub.nil _))))))) ⟨E, (Nat.le_refl _), (by omega), (by first | exact (if_pos _h13).symm | exact (if_neg _h13).symm), _m3⟩ ?_
    rintro ⟨k, m⟩ _wr_32 ⟨E, _zz0, _hk, hm, _F0_0⟩
    have _E0h := E
    have _E0hz := _E0h.size
    have _F0_0z := _F0_0.lt
    refine W_seq fun _K_33 _hK_33 => ?_
    refine W_seq fun _K_34 _hK_34 => ?_
    refine W_region ?_
    refine WL_step rfl rfl (r_move rfl) ?_
    refine WL_step rfl rfl (r_fieldAddr fa37_0 rfl) ?_
    refine WL_step rfl rfl (r_loadAt _F0_0.at_ agg32 rfl rfl) ?_
    refine WL_step rfl rfl (r_len (by rw [el32]; rfl) rfl) ?_
    refine WL_step rfl rfl (r_lss rfl rfl) ?_
    refine WL_nil ?_
    refine thn_nrm (_hK_34 _ _ ?_)
    clear _hK_34
    refine W_cond rfl (fun _h20 => ?_) (fun _h20 => ?_)
    · have _kb_35 := _h20
      have _h20 := bt_d _h20
      refine W_skip ?_
      refine thn_nrm (_hK_33 _ _ ?_)
      clear _hK_33
      refine W_seq fun _K_36 _hK_36 => ?_
      refine W_block ?_
      refine W_seq fun _K_37 _hK_37 => ?_
      refine W_region ?_
      refine WL_step rfl rfl (r_move rfl) ?_
      refine WL_step rfl rfl (r_move rfl) ?_
      refine WL_step rfl rfl (r_add (by omega) rfl rfl) ?_
      refine WL_step rfl rfl (r_shr (by omega) rfl rfl) ?_
      refine WL_step rfl rfl (r_and rfl rfl) ?_
      refine WL_step rfl rfl (r_eql rfl rfl) ?_
      refine WL_nil ?_
      refine thn_nrm (_hK_37 _ _ ?_)
      clear _hK_37
      refine W_cond rfl (fun _h28 => ?_) (fun _h28 => ?_)
      · have _kb_38 := _h28
        have _h28 := bt_d _h28
        refine W_region ?_
        refine WL_step rfl rfl (r_move rfl) ?_
        refine WL_step rfl rfl (r_fieldAddr fa37_3 rfl) ?_
        refine WL_step rfl rfl (r_loadAt _F0_0.at_ agg32 rfl rfl) ?_
        refine WL_step rfl rfl (r_move rfl) ?_
        refine WL_s rfl rfl ?_
        have _f_39 := (_h_pF.ch0 _E0h)
        refine (s_index _f_39 ics_len el32 sz3 rfl rfl rfl (by omega) fun _p33 _y33 _hy33 _a33 => ?_)
        refine WL_step rfl rfl (r_loadAt0 _a33 agg3 rfl rfl) ?_
        refine WL_step rfl rfl (r_or rfl rfl) ?_
        refine WL_step rfl rfl (r_assign rfl) ?_
        refine WL_nil ?_
        refine inB_nrm ?_
        refine thn_nrm (_hK_36 _ _ ?_)
        clear _hK_36
        refine W_region ?_
        refine WL_step rfl rfl (r_move rfl) ?_
        refine WL_step rfl rfl (r_add (by omega) rfl rfl) ?_
        refine WL_step rfl rfl (r_assign rfl) ?_
        refine WL_nil ?_
        exact thn_nrm (Exists.intro ((k + 1), (ior m _y33)) ⟨⟨E, (by omega), (by omega), (by first | exact nxt_y _h28 hm _hy33 | exact nxt_n _h28 hm), _F0_0⟩, Sub.cons rfl (Sub.cons rfl (Sub.cons rfl (Sub.cons rfl (Sub.cons rfl (Sub.cons rfl (Sub.nil _)))))), (by first | omega | (dsimp only; omega))⟩)
      · have _kb_38 := _h28
        have _h28 := bf_d _h28
        refine W_skip ?_
        refine inB_nrm ?_
        refine thn_nrm (_hK_36 _ _ ?_)
        clear _hK_36
        refine W_region ?_
        refine WL_step rfl rfl (r_move rfl) ?_
        refine WL_step rfl rfl (r_add (by omega) rfl rfl) ?_
        refine WL_step rfl rfl (r_assign rfl) ?_
        refine WL_nil ?_
        exact thn_nrm (Exists.intro ((k + 1), m) ⟨⟨E, (by omega), (by omega), (by first | exact nxt_y _h28 hm _hy33 | exact nxt_n _h28 hm), _F0_0⟩, Sub.cons rfl (Sub.cons rfl (Sub.cons rfl (Sub.cons rfl (Sub.cons rfl (Sub.cons rfl (Sub.nil _)))))), (by first | omega | (dsimp only; omega))⟩)
    · have _kb_35 := _h20
      have _h20 := bf_d _h20
      refine W_exit (thn_exit (thn_exit (inB_hit ?_)))
      refine thn_nrm (_hK_30 _ _ ?_)
      clear _hK_30
      refine W_seq fun _K_40 _hK_40 => ?_
      refine W_region ?_
      refine WL_step rfl rfl (r_assign rfl) ?_
      refine WL_nil ?_
      refine thn_nrm (_hK_40 _ _ ?_)
      clear _hK_40
      refine W_seq fun _K_41 _hK_41 => ?_
      refine W_seq fun _K_42 _hK_42 => ?_
      refine W_region ?_
      refine WL_step rfl rfl (r_assign rfl) ?_
      refine WL_nil ?_
      refine thn_nrm (_hK_42 _ _ ?_)
      clear _hK_42
      refine W_block ?_
      refine W_loop (σ := Nat × Int) (fun ⟨q, o⟩ => [(2, (.int .i64 letter)), (3, (.pointer (some ⟨_b3, 0, none⟩))), (6, (.int .i64 0)), (7, (.int .i64 m)), (9, (.int .i64 o)), (10, (.int .i64 ((q : Nat) : Int)))]) (fun ⟨q, o⟩ wx => Ch [] w wx ∧ _wr_32.heap.size ≤ wx.heap.size ∧ (q ≤ pL.length) ∧ (o = outP pL (nxt pF set (if iand set 1 = 1 then pfirst else 0) pL.length) letter q) ∧ Blk wx _b3 37 [(.slice _A_pL pL.length _C_pL), (.int .i64 pfirst), (.int .i64 plast), (.slice _A_pF pF.length _C_pF), (.bool pnull)]) (fun ⟨q, o⟩ => pL.length - q) (0, 0) (Sub.cons rfl (Sub.cons rfl (Sub.cons rfl (Sub.cons rfl (Sub.cons rfl (Sub.cons rfl (Sub.nil _))))))) ⟨E, (Nat.le_refl _), (by omega), rfl, _F0_0⟩ ?_
      rintro ⟨q, o⟩ _wr_43 ⟨E, _zz1, hq, ho, _F1_0⟩
      have _E1h := E
      have _E1hz := _E1h.size
      have _F1_0z := _F1_0.lt
      have hm2 : m = nxt pF set (if iand set 1 = 1 then pfirst else 0) pL.length := by rw [hm, show k = pL.length by omega]
      refine W_seq fun _K_44 _hK_44 => ?_
      refine W_seq fun _K_45 _hK_45 => ?_
      refine W_region ?_
      refine WL_step rfl rfl (r_move rfl) ?_
      refine WL_step rfl rfl (r_fieldAddr fa37_0 rfl) ?_
      refine WL_step rfl rfl (r_loadAt _F1_0.at_ agg32 rfl rfl) ?_
      refine WL_step rfl rfl (r_len (by rw [el32]; rfl) rfl) ?_
      refine WL_step rfl rfl (r_lss rfl rfl) ?_
      refine WL_nil ?_
      refine thn_nrm (_hK_45 _ _ ?_)
      clear _hK_45
      refine W_cond rfl (fun _h40 => ?_) (fun _h40 => ?_)
      · have _kb_46 := _h40
        have _h40 := bt_d _h40
        refine W_skip ?_
        refine thn_nrm (_hK_44 _ _ ?_)
        clear _hK_44
        refine W_seq fun _K_47 _hK_47 => ?_
        refine W_block ?_
        refine W_seq fun _K_48 _hK_48 => ?_
        refine W_region ?_
        refine WL_step rfl rfl (r_move rfl) ?_
        refine WL_step rfl rfl (r_move rfl) ?_
        refine WL_step rfl rfl (r_shr (by omega) rfl rfl) ?_
        refine WL_step rfl rfl (r_and rfl rfl) ?_
        refine WL_step rfl rfl (r_eql rfl rfl) ?_
        refine WL_step rfl rfl (r_move rfl) ?_
        refine WL_split (d := 48) rfl (fun _h48 => ?_) (fun _h48 => ?_)
        · have _kb_49 := _h48
          have _h48 := bt_d _h48
          refine WL_step rfl rfl (r_fieldAddr fa37_0 rfl) ?_
          refine WL_step rfl rfl (r_loadAt _F1_0.at_ agg32 rfl rfl) ?_
          refine WL_step rfl rfl (r_move rfl) ?_
          refine WL_s rfl rfl ?_
          have _f_50 := (_h_pL.ch0 _E1h)
          refine (s_index _f_50 ics_len el32 sz3 rfl rfl rfl (by omega) fun _p52 _y52 _hy52 _a52 => ?_)
          refine WL_step rfl rfl (r_loadAt0 _a52 agg3 rfl rfl) ?_
          refine WL_step rfl rfl (r_move rfl) ?_
          refine WL_step rfl rfl (r_eql rfl rfl) ?_
          refine WL_step rfl rfl (r_pickT rfl rfl) ?_
          refine WL_nil ?_
          refine thn_nrm (_hK_48 _ _ ?_)
          clear _hK_48
          refine W_cond rfl (fun _h56 => ?_) (fun _h56 => ?_)
          · have _kb_51 := _h56
            have _h56 := bt_d _h56
            refine W_region ?_
            refine WL_step rfl rfl (r_move rfl) ?_
            refine WL_step rfl rfl (r_move rfl) ?_
            refine WL_step rfl rfl (r_add (by omega) rfl rfl) ?_
            refine WL_step rfl rfl (r_shl (by omega) rfl rfl) ?_
            refine WL_step rfl rfl (r_or rfl rfl) ?_
            refine WL_step rfl rfl (r_assign rfl) ?_
            refine WL_nil ?_
            refine inB_nrm ?_
            refine thn_nrm (_hK_47 _ _ ?_)
            clear _hK_47
            refine W_region ?_
            refine WL_step rfl rfl (r_move rfl) ?_
            refine WL_step rfl rfl (r_add (by omega) rfl rfl) ?_
            refine WL_step rfl rfl (r_assign rfl) ?_
            refine WL_nil ?_
            exact thn_nrm (Exists.intro ((q + 1), (ior o (ishl 1 (((q : Nat) : Int) + 1)))) ⟨⟨E, (by omega), (by omega), (by first | exact out_y _hy52 _h56 (by rw [← hm2]; exact _h48) ho | exact out_n1 (by rw [← hm2]; exact _h48) ho | exact out_n2 _hy52 _h56 ho), _F1_0⟩, Sub.cons rfl (Sub.cons rfl (Sub.cons rfl (Sub.cons rfl (Sub.cons rfl (Sub.cons rfl (Sub.nil _)))))), (by first | omega | (dsimp only; omega))⟩)
          · have _kb_51 := _h56
            have _h56 := bf_d _h56
            refine W_skip ?_
            refine inB_nrm ?_
            refine thn_nrm (_hK_47 _ _ ?_)
            clear _hK_47
            refine W_region ?_
            refine WL_step rfl rfl (r_move rfl) ?_
            refine WL_step rfl rfl (r_add (by omega) rfl rfl) ?_
            refine WL_step rfl rfl (r_assign rfl) ?_
            refine WL_nil ?_
            exact thn_nrm (Exists.intro ((q + 1), o) ⟨⟨E, (by omega), (by omega), (by first | exact out_y _hy52 _h56 (by rw [← hm2]; exact _h48) ho | exact out_n1 (by rw [← hm2]; exact _h48) ho | exact out_n2 _hy52 _h56 ho), _F1_0⟩, Sub.cons rfl (Sub.cons rfl (Sub.cons rfl (Sub.cons rfl (Sub.cons rfl (Sub.cons rfl (Sub.nil _)))))), (by first | omega | (dsimp only; omega))⟩)
        · have _kb_49 := _h48
          have _h48 := bf_d _h48
          refine WL_skip rfl rfl ?_
          refine WL_skip rfl rfl ?_
          refine WL_skip rfl rfl ?_
          refine WL_skip rfl rfl ?_
          refine WL_skip rfl rfl ?_
          refine WL_skip rfl rfl ?_
          refine WL_skip rfl rfl ?_
          refine WL_step rfl rfl (r_pickF rfl rfl) ?_
          refine WL_nil ?_
          refine thn_nrm (_hK_48 _ _ ?_)
          clear _hK_48
          refine W_condF rfl ?_
          refine W_skip ?_
          refine inB_nrm ?_
          refine thn_nrm (_hK_47 _ _ ?_)
          clear _hK_47
          refine W_region ?_
          refine WL_step rfl rfl (r_move rfl) ?_
          refine WL_step rfl rfl (r_add (by omega) rfl rfl) ?_
          refine WL_step rfl rfl (r_assign rfl) ?_
          refine WL_nil ?_
          exact thn_nrm (Exists.intro ((q + 1), o) ⟨⟨E, (by omega), (by omega), (by first | exact out_y _hy52 _h56 (by rw [← hm2]; exact _h48) ho | exact out_n1 (by rw [← hm2]; exact _h48) ho | exact out_n2 _hy52 _h56 ho), _F1_0⟩, Sub.cons rfl (Sub.cons rfl (Sub.cons rfl (Sub.cons rfl (Sub.cons rfl (Sub.cons rfl (Sub.nil _)))))), (by first | omega | (dsimp only; omega))⟩)
      · have _kb_46 := _h40
        have _h40 := bf_d _h40
        refine W_exit (thn_exit (thn_exit (inB_hit ?_)))
        refine thn_nrm (_hK_41 _ _ ?_)
        clear _hK_41
        refine W_seq fun _K_52 _hK_52 => ?_
        refine W_region ?_
        refine WL_step rfl rfl (r_move rfl) ?_
        refine WL_step rfl rfl (r_assign rfl) ?_
        refine WL_nil ?_
        refine thn_nrm (_hK_52 _ _ ?_)
        clear _hK_52
        refine W_ret ?_
        clear _hK_33 _hK_44
        exact ret_intro [_] ⟨rfl, trivial⟩ ⟨congrArg (Value.int .i64) (by unfold afterP; rw [ho, show q = pL.length by omega]), E⟩

/-- spec.CountRuns -/
theorem c_spec_CountRuns {w : World} {LL_pL _B_pL : Nat} {_v_pL : Value} {pL : List Int} (_h_pL : Ls ics 1 w LL_pL _B_pL _v_pL pL) (pfirst : Int) (plast : Int) {LL_pF _B_pF : Nat} {_v_pF : Value} {pF : List Int} (_h_pF : Ls ics 1 w LL_pF _B_pF _v_pF pF) (pnull : Bool) {LL_wd _B_wd : Nat} {_v_wd : Value} {wd : List Int} (_h_wd : Ls ics 1 w LL_wd _B_wd _v_wd wd) :
    Ctr Try.prog 20 #[(.agg #[_v_pL, (.int .i64 pfirst), (.int .i64 plast), _v_pF, (.bool pnull)]), _v_wd] w (fun v w' => v = .int .i64 (crR pL pfirst plast pF pnull wd) ∧ Ch [] w w') := by
  obtain ⟨_A_pL, _C_pL, _e1_pL⟩ := _h_pL.val
  subst _e1_pL
  have _l_pL := _h_pL.len
  have _h_pL := _h_pL.here (by decide)
  obtain ⟨_A_pF, _C_pF, _e1_pF⟩ := _h_pF.val
  subst _e1_pF
  have _l_pF := _h_pF.len
  have _h_pF := _h_pF.here (by decide)
  obtain ⟨_A_wd, _C_wd, _e1_wd⟩ := _h_wd.val
  subst _e1_wd
  have _l_wd := _h_wd.len
  have _h_wd := _h_wd.here (by decide)
  have E := Ch.refl [] w
  refine Ctr_of_W (N := 103) (vs0 := [(.agg #[(.slice _A_pL pL.length _C_pL), (.int .i64 pfirst), (.int .i64 plast), (.slice _A_pF pF.length _C_pF), (.bool pnull)]), (.slice _A_wd wd.length _C_wd)]) Try.func20 rfl rfl rfl ?_
  refine W_seq fun _K_1 _hK_1 => ?_
  refine W_region ?_
  refine WL_s rfl rfl ?_
  refine s_box rfl fun _b2 _w_2 _m2 _cw_2 _e2 => ?_
  have _cw_2z := _cw_2.size
  have E := E.trans _cw_2
  have _z2 := _m2.lt
  replace _m2 : Blk _w_2 _b2 37 [(.slice _A_pL pL.length _C_pL), (.int .i64 pfirst), (.int .i64 plast), (.slice _A_pF pF.length _C_pF), (.bool pnull)] := _m2
  refine WL_step rfl rfl (r_assign rfl) ?_
  refine WL_nil ?_
  refine thn_nrm (_hK_1 _ _ ?_)
  clear _hK_1
  refine W_seq fun _K_3 _hK_3 => ?_
  refine W_seq fun _K_4 _hK_4 => ?_
  refine W_region ?_
  refine WL_step rfl rfl (r_loadAtA0 _m2.at_ agg37 sz37 rfl) ?_
  refine WL_s rfl rfl ?_
  have _f_5 := (_h_pL.ch0 _cw_2)
  have _f_6 := (_h_pF.ch0 _cw_2)
  refine Step.call (r_call (xs := [.tmp 13]) fk58 rfl) (c_spec_IsValidPositions _f_5 _ _ _f_6 _ ) fun _v14 _w_7 _q14 => ?_
  obtain ⟨rfl, _cw_7⟩ := _q14
  have _cw_7z := _cw_7.size
  have E := E.trans _cw_7
  refine WL_step rfl rfl (r_not rfl) ?_
  refine WL_step rfl rfl (r_move rfl) ?_
  refine WL_split (d := 16) rfl (fun _h16 => ?_) (fun _h16 => ?_)
  · have _kb_8 := _h16
    have _h16 := bf_t (bt_n _h16)
    first | have _v20 := _h16.1 | skip
    first | have w20 := _h20.2 | skip
    refine WL_skip rfl rfl ?_
    refine WL_skip rfl rfl ?_
    refine WL_skip rfl rfl ?_
    refine WL_step rfl rfl (r_pickT rfl rfl) ?_
    refine WL_nil ?_
    refine thn_nrm (_hK_4 _ _ ?_)
    clear _hK_4
    refine W_condT rfl ?_
    refine W_seq fun _K_9 _hK_9 => ?_
    refine W_region ?_
    refine WL_step rfl rfl (r_assign rfl) ?_
    refine WL_nil ?_
    refine thn_nrm (_hK_9 _ _ ?_)
    clear _hK_9
    refine W_ret (thn_ret ?_)
    clear _hK_3
    exact ret_intro [_] ⟨rfl, trivial⟩ ⟨congrArg (Value.int .i64) (by first | exact crr_n (fun e => _h16 e.1) | exact crr_n (fun e => _h20 e.2) | exact crr_y _h16 _h20 _ht (by omega) (by omega)), E⟩
  · have _kb_8 := _h16
    have _h16 := bt_t (bf_n _h16)
    first | have _v20 := _h16.1 | skip
    first | have w20 := _h20.2 | skip
    refine WL_step rfl rfl (r_move rfl) ?_
    refine WL_s rfl rfl ?_
    have _f_10 := ((_h_wd.ch0 _cw_2).ch0 _cw_7)
    refine Step.call (r_call (xs := [.tmp 17]) fk59 rfl) (c_spec_IsWord _f_10 ) fun _v18 _w_11 _q18 => ?_
    obtain ⟨rfl, _cw_11⟩ := _q18
    have _cw_11z := _cw_11.size
    have E := E.trans _cw_11
    refine WL_step rfl rfl (r_not rfl) ?_
    refine WL_step rfl rfl (r_pickF rfl rfl) ?_
    refine WL_nil ?_
    refine thn_nrm (_hK_4 _ _ ?_)
    clear _hK_4
    refine W_cond rfl (fun _h20 => ?_) (fun _h20 => ?_)
    · have _kb_12 := _h20
      have _h20 := bf_t (bt_n _h20)
      refine W_seq fun _K_13 _hK_13 => ?_
      refine W_region ?_
      refine WL_step rfl rfl (r_assign rfl) ?_
      refine WL_nil ?_
      refine thn_nrm (_hK_13 _ _ ?_)
      clear _hK_13
      refine W_ret (thn_ret ?_)
      clear _hK_3
      exact ret_intro [_] ⟨rfl, trivial⟩ ⟨congrArg (Value.int .i64) (by first | exact crr_n (fun e => _h16 e.1) | exact crr_n (fun e => _h20 e.2) | exact crr_y _h16 _h20 _ht (by omega) (by omega)), E⟩
    · have _kb_12 := _h20
      have _h20 := bt_t (bf_n _h20)
      refine W_skip ?_
      refine thn_nrm (_hK_3 _ _ ?_)
      clear _hK_3
      refine W_seq fun _K_14 _hK_14 => ?_
      refine W_region ?_
      refine WL_step rfl rfl (r_fieldAddr fa37_0 rfl) ?_
      have _f_15 := ((_m2.ch0 _cw_7).ch0 _cw_11)
      refine WL_step rfl rfl (r_loadAt _f_15.at_ agg32 rfl rfl) ?_
      refine WL_step rfl rfl (r_len (by rw [el32]; rfl) rfl) ?_
      refine WL_step rfl rfl (r_add (by omega) rfl rfl) ?_
      refine WL_s rfl rfl ?_
      refine s_make (cs := ics) (n := (pL.length + 1)) (0 : Int) el32 sz3 by3 zr3 ics_len (by decide) rfl rfl (by omega) (by omega) fun _v25 _w_16 _q25 _lo25 _cw_16 => ?_
      have _cw_16z := _cw_16.size
      have E := E.trans _cw_16
      obtain ⟨_Av25, _Cv25, _ev25⟩ := _q25.val
      subst _ev25
      have _lv25 := _q25.len
      have _hiv25 := _q25.lt
      refine WL_step rfl rfl (r_assign rfl) ?_
      refine WL_nil ?_
      refine thn_nrm (_hK_14 _ _ ?_)
      clear _hK_14
      refine W_seq fun _K_17 _hK_17 => ?_
      refine W_region ?_
      refine WL_step rfl rfl (r_move rfl) ?_
      refine WL_s rfl rfl ?_
      refine s_indexO (j := 0) _q25 el32 sz3 rfl rfl rfl (by (first | omega | (simp only [List.length_replicate, List.length_set, crN_len, crS_len, crK_len]; omega))) fun _g27 _o27 _cp27 _q27 => ?_
      refine WL_s rfl rfl ?_
      refine s_storeO (j := 0) 1 _q25 _q27 ics_len sz3 rfl rfl rfl rfl (by (first | omega | (simp only [List.length_replicate, List.length_set, crN_len, crS_len, crK_len]; omega))) fun _w_18 _o_19 _cw_18 => ?_
      have _cw_18z := _cw_18.size
      have E := E.step _cw_18 (fun i hi => .inl (by have _h1 := _lo25 _ hi; omega))
      refine WL_nil ?_
      refine thn_nrm (_hK_17 _ _ ?_)
      clear _hK_17
      refine W_seq fun _K_20 _hK_20 => ?_
      refine W_seq fun _K_21 _hK_21 => ?_
      refine W_region ?_
      refine WL_step rfl rfl (r_assign rfl) ?_
      refine WL_nil ?_
      refine thn_nrm (_hK_21 _ _ ?_)
      clear _hK_21
      refine W_block ?_
      have _oi_22 : Ol ics 3 1 _w_18 (.slice _Av25 ((List.replicate (pL.length + 1) (0 : Int))).length _Cv25) (crN pL pfirst pF wd 0) := by
        have hx := _o_19
        exact hx
      have _f_23 := (((_f_10.ch0 _cw_11).ch0 _cw_16).ch _cw_18 (fun i hi => by have _h1 := _lo25 _ hi; omega))
      have _f_24 := ((_f_15.ch0 _cw_16).ch _cw_18 (fun hm => by have _h1 := _lo25 _ hm; have _h2 := _hiv25 _ hm; omega))
      have _f_25 := ((((_f_5.ch0 _cw_7).ch0 _cw_11).ch0 _cw_16).ch _cw_18 (fun i hi => by have _h1 := _lo25 _ hi; omega))
      have _f_26 := ((((_f_6.ch0 _cw_7).ch0 _cw_11).ch0 _cw_16).ch _cw_18 (fun i hi => by have _h1 := _lo25 _ hi; omega))
      refine W_loop (σ := Nat × Value) (fun ⟨i, nv⟩ => [(1, (.slice _A_wd wd.length _C_wd)), (2, (.pointer (some ⟨_b2, 0, none⟩))), (4, (.int .i64 0)), (5, nv), (6, (.int .i64 ((i : Nat) : Int)))]) (fun ⟨i, nv⟩ wx => Ch [] w wx ∧ _w_18.heap.size ≤ wx.heap.size ∧ (i ≤ wd.length) ∧ Ls ics 1 wx LL_wd w.heap.size (.slice _A_wd wd.length _C_wd) wd ∧ Blk wx _b2 37 [(.slice _A_pL pL.length _C_pL), (.int .i64 pfirst), (.int .i64 plast), (.slice _A_pF pF.length _C_pF), (.bool pnull)] ∧ Ls ics 1 wx LL_pL w.heap.size (.slice _A_pL pL.length _C_pL) pL ∧ Ls ics 1 wx LL_pF w.heap.size (.slice _A_pF pF.length _C_pF) pF ∧ Ol ics 3 1 wx nv (crN pL pfirst pF wd i) ∧ Lo _w_11.heap.size nv) (fun ⟨i, nv⟩ => wd.length - i) (0, (.slice _Av25 ((List.replicate (pL.length + 1) (0 : Int))).length _Cv25)) (Sub.cons rfl (Sub.cons rfl (Sub.cons rfl (Sub.cons rfl (Sub.cons rfl (Sub.nil _)))))) ⟨E, (Nat.le_refl _), (by omega), _f_23, _f_24, _f_25, _f_26, _oi_22, _lo25⟩ ?_
      rintro ⟨i, nv⟩ _wr_27 ⟨E, _zz0, hi, _F0_0, _F0_1, _F0_2, _F0_3, _o0_5, _lo0_5⟩
      have _E0h := E
      have _E0hz := _E0h.size
      have _F0_1z := _F0_1.lt
      obtain ⟨Anv, Cnv, env⟩ := _o0_5.val
      subst env
      have lnv := _o0_5.len
      have hinv := _o0_5.lt
      have nn := crN_len pL pfirst pF wd i
      have _v20 := _h16.1
      refine W_seq fun _K_28 _hK_28 => ?_
      refine W_seq fun _K_29 _hK_29 => ?_
      refine W_region ?_
      refine WL_step rfl rfl (r_move rfl) ?_
      refine WL_step rfl rfl (r_move rfl) ?_
      refine WL_step rfl rfl (r_len (by rw [el32]; rfl) rfl) ?_
      refine WL_step rfl rfl (r_lss rfl rfl) ?_
      refine WL_nil ?_
      refine thn_nrm (_hK_29 _ _ ?_)
      clear _hK_29
      refine W_cond rfl (fun _h31 => ?_) (fun _h31 => ?_)
      · have _kb_30 := _h31
        have _h31 := bt_d _h31
        refine W_skip ?_
        refine thn_nrm (_hK_28 _ _ ?_)
        clear _hK_28
        refine W_seq fun _K_31 _hK_31 => ?_
        refine W_block ?_
        refine W_seq fun _K_32 _hK_32 => ?_
        refine W_region ?_
        refine WL_step rfl rfl (r_fieldAddr fa37_0 rfl) ?_
        refine WL_step rfl rfl (r_loadAt _F0_1.at_ agg32 rfl rfl) ?_
        refine WL_step rfl rfl (r_len (by rw [el32]; rfl) rfl) ?_
        refine WL_step rfl rfl (r_add (by omega) rfl rfl) ?_
        refine WL_s rfl rfl ?_
        refine s_make (cs := ics) (n := (pL.length + 1)) (0 : Int) el32 sz3 by3 zr3 ics_len (by decide) rfl rfl (by omega) (by omega) fun _v38 _w_33 _q38 _lo38 _cw_33 => ?_
        have _cw_33z := _cw_33.size
        have E := E.trans _cw_33
        obtain ⟨_Av38, _Cv38, _ev38⟩ := _q38.val
        subst _ev38
        have _lv38 := _q38.len
        have _hiv38 := _q38.lt
        refine WL_step rfl rfl (r_assign rfl) ?_
        refine WL_nil ?_
        refine thn_nrm (_hK_32 _ _ ?_)
        clear _hK_32
        refine W_seq fun _K_34 _hK_34 => ?_
        refine W_seq fun _K_35 _hK_35 => ?_
        refine W_region ?_
        refine WL_step rfl rfl (r_assign rfl) ?_
        refine WL_nil ?_
        refine thn_nrm (_hK_35 _ _ ?_)
        clear _hK_35
        refine W_block ?_
        have _oi_36 : Ol ics 3 1 _w_33 (.slice _Av38 ((List.replicate (pL.length + 1) (0 : Int))).length _Cv38) (crS pL pfirst pF wd i 0) := by
          have hx := _q38
          exact hx
        have _f_37 := (_F0_0.ch0 _cw_33)
        have _f_38 := (_F0_1.ch0 _cw_33)
        have _f_39 := (_F0_2.ch0 _cw_33)
        have _f_40 := (_F0_3.ch0 _cw_33)
        have _f_41 := (_o0_5.ch0 _cw_33)
        refine W_loop (σ := Nat) (fun (s : Nat) => [(1, (.slice _A_wd wd.length _C_wd)), (2, (.pointer (some ⟨_b2, 0, none⟩))), (4, (.int .i64 0)), (5, (.slice Anv (crN pL pfirst pF wd i).length Cnv)), (6, (.int .i64 ((i : Nat) : Int))), (7, (.slice _Av38 ((List.replicate (pL.length + 1) (0 : Int))).length _Cv38)), (8, (.int .i64 ((s : Nat) : Int))), (31, (.bool (decide (((i : Nat) : Int) < ((wd.length : Nat) : Int)))))]) (fun (s : Nat) wx => Ch [] w wx ∧ _w_33.heap.size ≤ wx.heap.size ∧ (s ≤ pL.length + 1) ∧ Ls ics 1 wx LL_wd w.heap.size (.slice _A_wd wd.length _C_wd) wd ∧ Blk wx _b2 37 [(.slice _A_pL pL.length _C_pL), (.int .i64 pfirst), (.int .i64 plast), (.slice _A_pF pF.length _C_pF), (.bool pnull)] ∧ Ls ics 1 wx LL_pL w.heap.size (.slice _A_pL pL.length _C_pL) pL ∧ Ls ics 1 wx LL_pF w.heap.size (.slice _A_pF pF.length _C_pF) pF ∧ Ol ics 3 1 wx (.slice Anv (crN pL pfirst pF wd i).length Cnv) (crN pL pfirst pF wd i) ∧ Ol ics 3 1 wx (.slice _Av38 ((List.replicate (pL.length + 1) (0 : Int))).length _Cv38) (crS pL pfirst pF wd i s)) (fun (s : Nat) => pL.length + 1 - s) 0 (Sub.cons rfl (Sub.cons rfl (Sub.cons rfl (Sub.cons rfl (Sub.cons rfl (Sub.cons rfl (Sub.cons rfl (Sub.cons rfl (Sub.nil _))))))))) ⟨E, (Nat.le_refl _), (by omega), _f_37, _f_38, _f_39, _f_40, _f_41, _oi_36⟩ ?_
        rintro s _wr_42 ⟨E, _zz1, hs, _F1_0, _F1_1, _F1_2, _F1_3, _F1_4, _o1_7⟩
        have _E1h := E
        have _E1hz := _E1h.size
        have _F1_1z := _F1_1.lt
        have ns := crS_len pL pfirst pF wd i s
        refine W_seq fun _K_43 _hK_43 => ?_
        refine W_seq fun _K_44 _hK_44 => ?_
        refine W_region ?_
        refine WL_step rfl rfl (r_move rfl) ?_
        refine WL_step rfl rfl (r_move rfl) ?_
        refine WL_step rfl rfl (r_len (by rw [el32]; rfl) rfl) ?_
        refine WL_step rfl rfl (r_lss rfl rfl) ?_
        refine WL_nil ?_
        refine thn_nrm (_hK_44 _ _ ?_)
        clear _hK_44
        refine W_cond rfl (fun _h42 => ?_) (fun _h42 => ?_)
        · have _kb_45 := _h42
          have _h42 := bt_d _h42
          refine W_skip ?_
          refine thn_nrm (_hK_43 _ _ ?_)
          clear _hK_43
          refine W_seq fun _K_46 _hK_46 => ?_
          refine W_block ?_
          refine W_seq fun _K_47 _hK_47 => ?_
          refine W_drawC [] 9 mixed rfl fun _w_48 _cw_48 => ?_
          have _cw_48z := _cw_48.size
          have E := E.trans _cw_48
          have _f_49 := (_F1_1.ch0 _cw_48)
          refine DR_s 0 rfl (by kernel_rfl) rfl rfl (t_loadAtA0 _f_49.at_ (fun i hi => absurd hi List.not_mem_nil) agg37 sz37 rfl ?_)
          refine DR_s 1 rfl (by kernel_rfl) rfl rfl (t_v (fun _ => (r_move rfl)) ?_)
          refine DR_s 2 rfl (by kernel_rfl) rfl rfl (t_v (fun _ => (r_shl (by omega) rfl rfl)) ?_)
          refine DR_s 3 rfl (by kernel_rfl) rfl rfl (t_v (fun _ => (r_move rfl)) ?_)
          refine DR_s 4 rfl (by kernel_rfl) rfl rfl (t_v (fun _ => (r_move rfl)) ?_)
          have _f_50 := (_F1_0.ch0 _cw_48)
          refine DR_s 5 rfl (by kernel_rfl) rfl rfl (t_index _f_50 ics_len el32 sz3 rfl rfl rfl (by omega) fun _p50 _y50 _hy50 _a50 => ?_)
          refine DR_s 6 rfl (by kernel_rfl) rfl rfl (t_loadAt0 _a50 (fun i hi => absurd hi List.not_mem_nil) agg3 rfl rfl ?_)
          refine DR_one 7 (by kernel_rfl) ?_
          refine DO_s rfl rfl rfl ?_
          have _f_51 := (_F1_2.ch0 _cw_48)
          have _f_52 := (_F1_3.ch0 _cw_48)
          refine Step.call (r_call (xs := [.tmp 45, .tmp 47, .tmp 51]) fk60 rfl) (c_spec_l10After _f_51 _ _ _f_52 _ _ _ _h16.2.1 _h16.1) fun _v52 _w_53 _q52 => ?_
          obtain ⟨rfl, _cw_53⟩ := _q52
          have _cw_53z := _cw_53.size
          have E := E.trans _cw_53
          have _S_54 : Ch [] _w_48 _w_53 := ((Ch.refl _ _).trans _cw_53)
          refine ⟨_S_54, ?_⟩
          refine DR_s 8 rfl (by kernel_rfl) rfl rfl (t_v (fun _ => (r_assign rfl)) ?_)
          refine DR_done (by kernel_rfl) ?_
          refine thn_nrm (_hK_47 _ _ ?_)
          clear _hK_47
          refine W_seq fun _K_55 _hK_55 => ?_
          refine W_region ?_
          refine WL_step rfl rfl (r_assign rfl) ?_
          refine WL_nil ?_
          refine thn_nrm (_hK_55 _ _ ?_)
          clear _hK_55
          refine W_block ?_
          have _f_56 := ((_o1_7.ch0 _cw_48).ch0 _cw_53)
          have _oi_57 : Ol ics 3 1 _w_53 (.slice _Av38 ((List.replicate (pL.length + 1) (0 : Int))).length _Cv38) (crK pL pfirst pF wd i s 0) := by
            have hx := _f_56
            exact hx
          have _f_58 := (_f_50.ch0 _cw_53)
          have _f_59 := (_f_49.ch0 _cw_53)
          have _f_60 := (_f_51.ch0 _cw_53)
          have _f_61 := (_f_52.ch0 _cw_53)
          have _f_62 := ((_F1_4.ch0 _cw_48).ch0 _cw_53)
          refine W_loop (σ := Nat) (fun (k : Nat) => [(1, (.slice _A_wd wd.length _C_wd)), (2, (.pointer (some ⟨_b2, 0, none⟩))), (4, (.int .i64 0)), (5, (.slice Anv (crN pL pfirst pF wd i).length Cnv)), (6, (.int .i64 ((i : Nat) : Int))), (7, (.slice _Av38 ((List.replicate (pL.length + 1) (0 : Int))).length _Cv38)), (8, (.int .i64 ((s : Nat) : Int))), (9, (.int .i64 (afterP pL pfirst pF (ishl 1 ((s : Nat) : Int)) _y50))), (10, (.int .i64 ((k : Nat) : Int))), (31, (.bool (decide (((i : Nat) : Int) < ((wd.length : Nat) : Int))))), (42, (.bool (decide (((s : Nat) : Int) < (((crN pL pfirst pF wd i).length : Nat) : Int)))))]) (fun (k : Nat) wx => Ch [] w wx ∧ _w_53.heap.size ≤ wx.heap.size ∧ (k ≤ pL.length + 1) ∧ Ls ics 1 wx LL_wd w.heap.size (.slice _A_wd wd.length _C_wd) wd ∧ Blk wx _b2 37 [(.slice _A_pL pL.length _C_pL), (.int .i64 pfirst), (.int .i64 plast), (.slice _A_pF pF.length _C_pF), (.bool pnull)] ∧ Ls ics 1 wx LL_pL w.heap.size (.slice _A_pL pL.length _C_pL) pL ∧ Ls ics 1 wx LL_pF w.heap.size (.slice _A_pF pF.length _C_pF) pF ∧ Ol ics 3 1 wx (.slice Anv (crN pL pfirst pF wd i).length Cnv) (crN pL pfirst pF wd i) ∧ Ol ics 3 1 wx (.slice _Av38 ((List.replicate (pL.length + 1) (0 : Int))).length _Cv38) (crK pL pfirst pF wd i s k)) (fun (k : Nat) => pL.length + 1 - k) 0 (Sub.cons rfl (Sub.cons rfl (Sub.cons rfl (Sub.cons rfl (Sub.cons rfl (Sub.cons rfl (Sub.cons rfl (Sub.cons rfl (Sub.cons rfl (Sub.cons rfl (Sub.cons rfl (Sub.nil _)))))))))))) ⟨E, (Nat.le_refl _), (by omega), _f_58, _f_59, _f_60, _f_61, _f_62, _oi_57⟩ ?_
          rintro k _wr_63 ⟨E, _zz2, _hk, _F2_0, _F2_1, _F2_2, _F2_3, _F2_4, _o2_7⟩
          have _E2h := E
          have _E2hz := _E2h.size
          have _F2_1z := _F2_1.lt
          have nk := crK_len pL pfirst pF wd i s k
          refine W_seq fun _K_64 _hK_64 => ?_
          refine W_seq fun _K_65 _hK_65 => ?_
          refine W_region ?_
          refine WL_step rfl rfl (r_move rfl) ?_
          refine WL_step rfl rfl (r_move rfl) ?_
          refine WL_step rfl rfl (r_len (by rw [el32]; rfl) rfl) ?_
          refine WL_step rfl rfl (r_lss rfl rfl) ?_
          refine WL_step rfl rfl (r_move rfl) ?_
          refine WL_split (d := 57) rfl (fun _h57 => ?_) (fun _h57 => ?_)
          · have _kb_66 := _h57
            have _h57 := bt_d _h57
            refine WL_step rfl rfl (r_move rfl) ?_
            refine WL_step rfl rfl (r_move rfl) ?_
            refine WL_s rfl rfl ?_
            refine (s_index _F2_4.ls ics_len el32 sz3 rfl rfl rfl (by omega) fun _p60 _y60 _hy60 _a60 => ?_)
            refine WL_step rfl rfl (r_loadAt0 _a60 agg3 rfl rfl) ?_
            refine WL_step rfl rfl (r_gtr rfl rfl) ?_
            refine WL_step rfl rfl (r_pickT rfl rfl) ?_
            refine WL_nil ?_
            refine thn_nrm (_hK_65 _ _ ?_)
            clear _hK_65
            refine W_cond rfl (fun _h63 => ?_) (fun _h63 => ?_)
            · have _kb_67 := _h63
              have _h63 := bt_d _h63
              refine W_skip ?_
              refine thn_nrm (_hK_64 _ _ ?_)
              clear _hK_64
              refine W_seq fun _K_68 _hK_68 => ?_
              refine W_block ?_
              refine W_seq fun _K_69 _hK_69 => ?_
              refine W_region ?_
              refine WL_step rfl rfl (r_move rfl) ?_
              refine WL_step rfl rfl (r_move rfl) ?_
              refine WL_step rfl rfl (r_shr (by omega) rfl rfl) ?_
              refine WL_step rfl rfl (r_and rfl rfl) ?_
              refine WL_step rfl rfl (r_eql rfl rfl) ?_
              refine WL_nil ?_
              refine thn_nrm (_hK_69 _ _ ?_)
              clear _hK_69
              refine W_cond rfl (fun _h70 => ?_) (fun _h70 => ?_)
              · have _kb_70 := _h70
                have _h70 := bt_d _h70
                refine W_drawC (bl (.slice _Av38 ((List.replicate (pL.length + 1) (0 : Int))).length _Cv38)) 14 mixed rfl fun _w_71 _cw_71 => ?_
                have _cw_71z := _cw_71.size
                have E := E.trans _cw_71
                refine DR_s 0 rfl (by kernel_rfl) rfl rfl (t_v (fun _ => (r_move rfl)) ?_)
                refine DR_s 1 rfl (by kernel_rfl) rfl rfl (t_v (fun _ => (r_move rfl)) ?_)
                refine DR_s 2 rfl (by kernel_rfl) rfl rfl (t_v (fun _ => (r_move rfl)) ?_)
                refine DR_s 3 rfl (by kernel_rfl) rfl rfl (t_v (fun _ => (r_move rfl)) ?_)
                refine DR_s 6 rfl (by kernel_rfl) rfl rfl (t_v (fun _ => (r_move rfl)) ?_)
                refine DR_s 7 rfl (by kernel_rfl) rfl rfl (t_v (fun _ => (r_move rfl)) ?_)
                refine DR_two 4 8 (by kernel_rfl) ?_ ?_
                · refine DO_s rfl rfl rfl ?_
                  have _f_72 := (_o2_7.ch0 _cw_71)
                  refine (s_index _f_72.ls ics_len el32 sz3 rfl rfl rfl (by omega) fun _p75 _y75 _hy75 _a75 => ?_)
                  have c75 := crk_val _hy75
                  refine ⟨(Ch.refl _ _), ?_⟩
                  refine DR_two 5 8 (by kernel_rfl) ?_ ?_
                  · refine DO_s rfl rfl rfl ?_
                    refine s_v (r_loadAt0 _a75 agg3 rfl rfl) ?_
                    refine ⟨(Ch.refl _ _), ?_⟩
                    refine DR_one 8 (by kernel_rfl) ?_
                    refine DO_s rfl rfl rfl ?_
                    have _f_73 := (_F2_4.ch0 _cw_71)
                    refine (s_index _f_73.ls ics_len el32 sz3 rfl rfl rfl (by omega) fun _p79 _y79 _hy79 _a79 => ?_)
                    have c79 := crn_val _hy79
                    have _e79 := get_uniq _hy60 _hy79
                    refine ⟨(Ch.refl _ _), ?_⟩
                    refine DR_one 9 (by kernel_rfl) ?_
                    refine DO_s rfl rfl rfl ?_
                    refine s_v (r_loadAt0 _a79 agg3 rfl rfl) ?_
                    refine ⟨(Ch.refl _ _), ?_⟩
                    refine DR_s 10 rfl (by kernel_rfl) rfl rfl (t_v (fun _ => (r_add (by omega) rfl rfl)) ?_)
                    refine DR_s 11 rfl (by kernel_rfl) rfl rfl (t_v (fun _ => (r_min rfl rfl)) ?_)
                    refine DR_one 12 (by kernel_rfl) ?_
                    refine DO_s rfl rfl rfl ?_
                    refine s_indexO (j := k) _f_72 el32 sz3 rfl rfl rfl (by (first | omega | (simp only [List.length_replicate, List.length_set, crN_len, crS_len, crK_len]; omega))) fun _g83 _o83 _cp83 _q83 => ?_
                    refine ⟨(Ch.refl _ _), ?_⟩
                    refine DR_one 13 (by kernel_rfl) ?_
                    refine DO_s rfl rfl rfl ?_
                    refine s_storeO (j := k) (if (_y75 + _y79) < 1000000 then (_y75 + _y79) else 1000000) _f_72 _q83 ics_len sz3 rfl rfl rfl rfl (by (first | omega | (simp only [List.length_replicate, List.length_set, crN_len, crS_len, crK_len]; omega))) fun _w_74 _o_75 _cw_74 => ?_
                    have _cw_74z := _cw_74.size
                    have E := E.step _cw_74 (fun i hi => .inl (by have _h1 := _lo38 _ hi; omega))
                    have _S_76 : Ch (bl (.slice _Av38 ((List.replicate (pL.length + 1) (0 : Int))).length _Cv38)) _w_71 _w_74 := ((Ch.refl _ _).step _cw_74 (fun i hm => by exact .inr hm))
                    refine ⟨_S_76, ?_⟩
                    refine DR_done (by kernel_rfl) ?_
                    refine inB_nrm ?_
                    refine thn_nrm (_hK_68 _ _ ?_)
                    clear _hK_68
                    refine W_region ?_
                    refine WL_step rfl rfl (r_move rfl) ?_
                    refine WL_step rfl rfl (r_add (by omega) rfl rfl) ?_
                    refine WL_step rfl rfl (r_assign rfl) ?_
                    refine WL_nil ?_
                    have _on_77 : Ol ics 3 1 _w_74 (.slice _Av38 ((List.replicate (pL.length + 1) (0 : Int))).length _Cv38) (crK pL pfirst pF wd i s (k + 1)) := by
                      have hx := _o_75
                      first | exact hx.eq (crk_y _hy50 _hy79 _hy75 (by omega) _h70) | exact hx.eq (crk_n _hy50 _hy60 _h70)
                    have _f_78 := ((_F2_0.ch0 _cw_71).ch _cw_74 (fun i hi => by have _h1 := _lo38 _ hi; omega))
                    have _f_79 := ((_F2_1.ch0 _cw_71).ch _cw_74 (fun hm => by have _h1 := _lo38 _ hm; have _h2 := _hiv38 _ hm; omega))
                    have _f_80 := ((_F2_2.ch0 _cw_71).ch _cw_74 (fun i hi => by have _h1 := _lo38 _ hi; omega))
                    have _f_81 := ((_F2_3.ch0 _cw_71).ch _cw_74 (fun i hi => by have _h1 := _lo38 _ hi; omega))
                    have _f_82 := (_f_73.ch _cw_74 (fun g hg hm => by have _h1 := _lo38 _ hm; have _h2 := _hiv38 _ hm; have _h3 := _lo0_5 _ hg; have _h4 := hinv _ hg; omega))
                    exact thn_nrm (Exists.intro (k + 1) ⟨⟨E, (by omega), (by omega), _f_78, _f_79, _f_80, _f_81, _f_82, _on_77⟩, Sub.cons rfl (Sub.cons rfl (Sub.cons rfl (Sub.cons rfl (Sub.cons rfl (Sub.cons rfl (Sub.cons rfl (Sub.cons rfl (Sub.cons rfl (Sub.cons rfl (Sub.cons rfl (Sub.nil _))))))))))), (by first | omega | (dsimp only; omega))⟩)
                  · refine DO_s rfl rfl rfl ?_
                    have _f_83 := (_F2_4.ch0 _cw_71)
                    refine (s_index _f_83.ls ics_len el32 sz3 rfl rfl rfl (by omega) fun _p79 _y79 _hy79 _a79 => ?_)
                    have c79 := crn_val _hy79
                    have _e79 := get_uniq _hy60 _hy79
                    refine ⟨(Ch.refl _ _), ?_⟩
                    refine DR_two 5 9 (by kernel_rfl) ?_ ?_
                    · refine DO_s rfl rfl rfl ?_
                      refine s_v (r_loadAt0 _a75 agg3 rfl rfl) ?_
                      refine ⟨(Ch.refl _ _), ?_⟩
                      refine DR_one 9 (by kernel_rfl) ?_
                      refine DO_s rfl rfl rfl ?_
                      refine s_v (r_loadAt0 _a79 agg3 rfl rfl) ?_
                      refine ⟨(Ch.refl _ _), ?_⟩
                      refine DR_s 10 rfl (by kernel_rfl) rfl rfl (t_v (fun _ => (r_add (by omega) rfl rfl)) ?_)
                      refine DR_s 11 rfl (by kernel_rfl) rfl rfl (t_v (fun _ => (r_min rfl rfl)) ?_)
                      refine DR_one 12 (by kernel_rfl) ?_
                      refine DO_s rfl rfl rfl ?_
                      refine s_indexO (j := k) _f_72 el32 sz3 rfl rfl rfl (by (first | omega | (simp only [List.length_replicate, List.length_set, crN_len, crS_len, crK_len]; omega))) fun _g83 _o83 _cp83 _q83 => ?_
                      refine ⟨(Ch.refl _ _), ?_⟩
                      refine DR_one 13 (by kernel_rfl) ?_
                      refine DO_s rfl rfl rfl ?_
                      refine s_storeO (j := k) (if (_y75 + _y79) < 1000000 then (_y75 + _y79) else 1000000) _f_72 _q83 ics_len sz3 rfl rfl rfl rfl (by (first | omega | (simp only [List.length_replicate, List.length_set, crN_len, crS_len, crK_len]; omega))) fun _w_84 _o_85 _cw_84 => ?_
                      have _cw_84z := _cw_84.size
                      have E := E.step _cw_84 (fun i hi => .inl (by have _h1 := _lo38 _ hi; omega))
                      have _S_86 : Ch (bl (.slice _Av38 ((List.replicate (pL.length + 1) (0 : Int))).length _Cv38)) _w_71 _w_84 := ((Ch.refl _ _).step _cw_84 (fun i hm => by exact .inr hm))
                      refine ⟨_S_86, ?_⟩
                      refine DR_done (by kernel_rfl) ?_
                      refine inB_nrm ?_
                      refine thn_nrm (_hK_68 _ _ ?_)
                      clear _hK_68
                      refine W_region ?_
                      refine WL_step rfl rfl (r_move rfl) ?_
                      refine WL_step rfl rfl (r_add (by omega) rfl rfl) ?_
                      refine WL_step rfl rfl (r_assign rfl) ?_
                      refine WL_nil ?_
                      have _on_87 : Ol ics 3 1 _w_84 (.slice _Av38 ((List.replicate (pL.length + 1) (0 : Int))).length _Cv38) (crK pL pfirst pF wd i s (k + 1)) := by
                        have hx := _o_85
                        first | exact hx.eq (crk_y _hy50 _hy79 _hy75 (by omega) _h70) | exact hx.eq (crk_n _hy50 _hy60 _h70)
                      have _f_88 := ((_F2_0.ch0 _cw_71).ch _cw_84 (fun i hi => by have _h1 := _lo38 _ hi; omega))
                      have _f_89 := ((_F2_1.ch0 _cw_71).ch _cw_84 (fun hm => by have _h1 := _lo38 _ hm; have _h2 := _hiv38 _ hm; omega))
                      have _f_90 := ((_F2_2.ch0 _cw_71).ch _cw_84 (fun i hi => by have _h1 := _lo38 _ hi; omega))
                      have _f_91 := ((_F2_3.ch0 _cw_71).ch _cw_84 (fun i hi => by have _h1 := _lo38 _ hi; omega))
                      have _f_92 := (_f_83.ch _cw_84 (fun g hg hm => by have _h1 := _lo38 _ hm; have _h2 := _hiv38 _ hm; have _h3 := _lo0_5 _ hg; have _h4 := hinv _ hg; omega))
                      exact thn_nrm (Exists.intro (k + 1) ⟨⟨E, (by omega), (by omega), _f_88, _f_89, _f_90, _f_91, _f_92, _on_87⟩, Sub.cons rfl (Sub.cons rfl (Sub.cons rfl (Sub.cons rfl (Sub.cons rfl (Sub.cons rfl (Sub.cons rfl (Sub.cons rfl (Sub.cons rfl (Sub.cons rfl (Sub.cons rfl (Sub.nil _))))))))))), (by first | omega | (dsimp only; omega))⟩)
                    · refine DO_s rfl rfl rfl ?_
                      refine s_v (r_loadAt0 _a79 agg3 rfl rfl) ?_
                      refine ⟨(Ch.refl _ _), ?_⟩
                      refine DR_one 5 (by kernel_rfl) ?_
                      refine DO_s rfl rfl rfl ?_
                      refine s_v (r_loadAt0 _a75 agg3 rfl rfl) ?_
                      refine ⟨(Ch.refl _ _), ?_⟩
                      refine DR_s 10 rfl (by kernel_rfl) rfl rfl (t_v (fun _ => (r_add (by omega) rfl rfl)) ?_)
                      refine DR_s 11 rfl (by kernel_rfl) rfl rfl (t_v (fun _ => (r_min rfl rfl)) ?_)
                      refine DR_one 12 (by kernel_rfl) ?_
                      refine DO_s rfl rfl rfl ?_
                      refine s_indexO (j := k) _f_72 el32 sz3 rfl rfl rfl (by (first | omega | (simp only [List.length_replicate, List.length_set, crN_len, crS_len, crK_len]; omega))) fun _g83 _o83 _cp83 _q83 => ?_
                      refine ⟨(Ch.refl _ _), ?_⟩
                      refine DR_one 13 (by kernel_rfl) ?_
                      refine DO_s rfl rfl rfl ?_
                      refine s_storeO (j := k) (if (_y75 + _y79) < 1000000 then (_y75 + _y79) else 1000000) _f_72 _q83 ics_len sz3 rfl rfl rfl rfl (by (first | omega | (simp only [List.length_replicate, List.length_set, crN_len, crS_len, crK_len]; omega))) fun _w_93 _o_94 _cw_93 => ?_
                      have _cw_93z := _cw_93.size
                      have E := E.step _cw_93 (fun i hi => .inl (by have _h1 := _lo38 _ hi; omega))
                      have _S_95 : Ch (bl (.slice _Av38 ((List.replicate (pL.length + 1) (0 : Int))).length _Cv38)) _w_71 _w_93 := ((Ch.refl _ _).step _cw_93 (fun i hm => by exact .inr hm))
                      refine ⟨_S_95, ?_⟩
                      refine DR_done (by kernel_rfl) ?_
                      refine inB_nrm ?_
                      refine thn_nrm (_hK_68 _ _ ?_)
                      clear _hK_68
                      refine W_region ?_
                      refine WL_step rfl rfl (r_move rfl) ?_
                      refine WL_step rfl rfl (r_add (by omega) rfl rfl) ?_
                      refine WL_step rfl rfl (r_assign rfl) ?_
                      refine WL_nil ?_
                      have _on_96 : Ol ics 3 1 _w_93 (.slice _Av38 ((List.replicate (pL.length + 1) (0 : Int))).length _Cv38) (crK pL pfirst pF wd i s (k + 1)) := by
                        have hx := _o_94
                        first | exact hx.eq (crk_y _hy50 _hy79 _hy75 (by omega) _h70) | exact hx.eq (crk_n _hy50 _hy60 _h70)
                      have _f_97 := ((_F2_0.ch0 _cw_71).ch _cw_93 (fun i hi => by have _h1 := _lo38 _ hi; omega))
                      have _f_98 := ((_F2_1.ch0 _cw_71).ch _cw_93 (fun hm => by have _h1 := _lo38 _ hm; have _h2 := _hiv38 _ hm; omega))
                      have _f_99 := ((_F2_2.ch0 _cw_71).ch _cw_93 (fun i hi => by have _h1 := _lo38 _ hi; omega))
                      have _f_100 := ((_F2_3.ch0 _cw_71).ch _cw_93 (fun i hi => by have _h1 := _lo38 _ hi; omega))
                      have _f_101 := (_f_83.ch _cw_93 (fun g hg hm => by have _h1 := _lo38 _ hm; have _h2 := _hiv38 _ hm; have _h3 := _lo0_5 _ hg; have _h4 := hinv _ hg; omega))
                      exact thn_nrm (Exists.intro (k + 1) ⟨⟨E, (by omega), (by omega), _f_97, _f_98, _f_99, _f_100, _f_101, _on_96⟩, Sub.cons rfl (Sub.cons rfl (Sub.cons rfl (Sub.cons rfl (Sub.cons rfl (Sub.cons rfl (Sub.cons rfl (Sub.cons rfl (Sub.cons rfl (Sub.cons rfl (Sub.cons rfl (Sub.nil _))))))))))), (by first | omega | (dsimp only; omega))⟩)
                · refine DO_s rfl rfl rfl ?_
                  have _f_102 := (_F2_4.ch0 _cw_71)
                  refine (s_index _f_102.ls ics_len el32 sz3 rfl rfl rfl (by omega) fun _p79 _y79 _hy79 _a79 => ?_)
                  have c79 := crn_val _hy79
                  have _e79 := get_uniq _hy60 _hy79
                  refine ⟨(Ch.refl _ _), ?_⟩
                  refine DR_two 4 9 (by kernel_rfl) ?_ ?_
                  · refine DO_s rfl rfl rfl ?_
                    have _f_103 := (_o2_7.ch0 _cw_71)
                    refine (s_index _f_103.ls ics_len el32 sz3 rfl rfl rfl (by omega) fun _p75 _y75 _hy75 _a75 => ?_)
                    have c75 := crk_val _hy75
                    refine ⟨(Ch.refl _ _), ?_⟩
                    refine DR_two 5 9 (by kernel_rfl) ?_ ?_
                    · refine DO_s rfl rfl rfl ?_
                      refine s_v (r_loadAt0 _a75 agg3 rfl rfl) ?_
                      refine ⟨(Ch.refl _ _), ?_⟩
                      refine DR_one 9 (by kernel_rfl) ?_
                      refine DO_s rfl rfl rfl ?_
                      refine s_v (r_loadAt0 _a79 agg3 rfl rfl) ?_
                      refine ⟨(Ch.refl _ _), ?_⟩
                      refine DR_s 10 rfl (by kernel_rfl) rfl rfl (t_v (fun _ => (r_add (by omega) rfl rfl)) ?_)
                      refine DR_s 11 rfl (by kernel_rfl) rfl rfl (t_v (fun _ => (r_min rfl rfl)) ?_)
                      refine DR_one 12 (by kernel_rfl) ?_
                      refine DO_s rfl rfl rfl ?_
                      refine s_indexO (j := k) _f_103 el32 sz3 rfl rfl rfl (by (first | omega | (simp only [List.length_replicate, List.length_set, crN_len, crS_len, crK_len]; omega))) fun _g83 _o83 _cp83 _q83 => ?_
                      refine ⟨(Ch.refl _ _), ?_⟩
                      refine DR_one 13 (by kernel_rfl) ?_
                      refine DO_s rfl rfl rfl ?_
                      refine s_storeO (j := k) (if (_y75 + _y79) < 1000000 then (_y75 + _y79) else 1000000) _f_103 _q83 ics_len sz3 rfl rfl rfl rfl (by (first | omega | (simp only [List.length_replicate, List.length_set, crN_len, crS_len, crK_len]; omega))) fun _w_104 _o_105 _cw_104 => ?_
                      have _cw_104z := _cw_104.size
                      have E := E.step _cw_104 (fun i hi => .inl (by have _h1 := _lo38 _ hi; omega))
                      have _S_106 : Ch (bl (.slice _Av38 ((List.replicate (pL.length + 1) (0 : Int))).length _Cv38)) _w_71 _w_104 := ((Ch.refl _ _).step _cw_104 (fun i hm => by exact .inr hm))
                      refine ⟨_S_106, ?_⟩
                      refine DR_done (by kernel_rfl) ?_
                      refine inB_nrm ?_
                      refine thn_nrm (_hK_68 _ _ ?_)
                      clear _hK_68
                      refine W_region ?_
                      refine WL_step rfl rfl (r_move rfl) ?_
                      refine WL_step rfl rfl (r_add (by omega) rfl rfl) ?_
                      refine WL_step rfl rfl (r_assign rfl) ?_
                      refine WL_nil ?_
                      have _on_107 : Ol ics 3 1 _w_104 (.slice _Av38 ((List.replicate (pL.length + 1) (0 : Int))).length _Cv38) (crK pL pfirst pF wd i s (k + 1)) := by
                        have hx := _o_105
                        first | exact hx.eq (crk_y _hy50 _hy79 _hy75 (by omega) _h70) | exact hx.eq (crk_n _hy50 _hy60 _h70)
                      have _f_108 := ((_F2_0.ch0 _cw_71).ch _cw_104 (fun i hi => by have _h1 := _lo38 _ hi; omega))
                      have _f_109 := ((_F2_1.ch0 _cw_71).ch _cw_104 (fun hm => by have _h1 := _lo38 _ hm; have _h2 := _hiv38 _ hm; omega))
                      have _f_110 := ((_F2_2.ch0 _cw_71).ch _cw_104 (fun i hi => by have _h1 := _lo38 _ hi; omega))
                      have _f_111 := ((_F2_3.ch0 _cw_71).ch _cw_104 (fun i hi => by have _h1 := _lo38 _ hi; omega))
                      have _f_112 := (_f_102.ch _cw_104 (fun g hg hm => by have _h1 := _lo38 _ hm; have _h2 := _hiv38 _ hm; have _h3 := _lo0_5 _ hg; have _h4 := hinv _ hg; omega))
                      exact thn_nrm (Exists.intro (k + 1) ⟨⟨E, (by omega), (by omega), _f_108, _f_109, _f_110, _f_111, _f_112, _on_107⟩, Sub.cons rfl (Sub.cons rfl (Sub.cons rfl (Sub.cons rfl (Sub.cons rfl (Sub.cons rfl (Sub.cons rfl (Sub.cons rfl (Sub.cons rfl (Sub.cons rfl (Sub.cons rfl (Sub.nil _))))))))))), (by first | omega | (dsimp only; omega))⟩)
                    · refine DO_s rfl rfl rfl ?_
                      refine s_v (r_loadAt0 _a79 agg3 rfl rfl) ?_
                      refine ⟨(Ch.refl _ _), ?_⟩
                      refine DR_one 5 (by kernel_rfl) ?_
                      refine DO_s rfl rfl rfl ?_
                      refine s_v (r_loadAt0 _a75 agg3 rfl rfl) ?_
                      refine ⟨(Ch.refl _ _), ?_⟩
                      refine DR_s 10 rfl (by kernel_rfl) rfl rfl (t_v (fun _ => (r_add (by omega) rfl rfl)) ?_)
                      refine DR_s 11 rfl (by kernel_rfl) rfl rfl (t_v (fun _ => (r_min rfl rfl)) ?_)
                      refine DR_one 12 (by kernel_rfl) ?_
                      refine DO_s rfl rfl rfl ?_
                      refine s_indexO (j := k) _f_103 el32 sz3 rfl rfl rfl (by (first | omega | (simp only [List.length_replicate, List.length_set, crN_len, crS_len, crK_len]; omega))) fun _g83 _o83 _cp83 _q83 => ?_
                      refine ⟨(Ch.refl _ _), ?_⟩
                      refine DR_one 13 (by kernel_rfl) ?_
                      refine DO_s rfl rfl rfl ?_
                      refine s_storeO (j := k) (if (_y75 + _y79) < 1000000 then (_y75 + _y79) else 1000000) _f_103 _q83 ics_len sz3 rfl rfl rfl rfl (by (first | omega | (simp only [List.length_replicate, List.length_set, crN_len, crS_len, crK_len]; omega))) fun _w_113 _o_114 _cw_113 => ?_
                      have _cw_113z := _cw_113.size
                      have E := E.step _cw_113 (fun i hi => .inl (by have _h1 := _lo38 _ hi; omega))
                      have _S_115 : Ch (bl (.slice _Av38 ((List.replicate (pL.length + 1) (0 : Int))).length _Cv38)) _w_71 _w_113 := ((Ch.refl _ _).step _cw_113 (fun i hm => by exact .inr hm))
                      refine ⟨_S_115, ?_⟩
                      refine DR_done (by kernel_rfl) ?_
                      refine inB_nrm ?_
                      refine thn_nrm (_hK_68 _ _ ?_)
                      clear _hK_68
                      refine W_region ?_
                      refine WL_step rfl rfl (r_move rfl) ?_
                      refine WL_step rfl rfl (r_add (by omega) rfl rfl) ?_
                      refine WL_step rfl rfl (r_assign rfl) ?_
                      refine WL_nil ?_
                      have _on_116 : Ol ics 3 1 _w_113 (.slice _Av38 ((List.replicate (pL.length + 1) (0 : Int))).length _Cv38) (crK pL pfirst pF wd i s (k + 1)) := by
                        have hx := _o_114
                        first | exact hx.eq (crk_y _hy50 _hy79 _hy75 (by omega) _h70) | exact hx.eq (crk_n _hy50 _hy60 _h70)
                      have _f_117 := ((_F2_0.ch0 _cw_71).ch _cw_113 (fun i hi => by have _h1 := _lo38 _ hi; omega))
                      have _f_118 := ((_F2_1.ch0 _cw_71).ch _cw_113 (fun hm => by have _h1 := _lo38 _ hm; have _h2 := _hiv38 _ hm; omega))
                      have _f_119 := ((_F2_2.ch0 _cw_71).ch _cw_113 (fun i hi => by have _h1 := _lo38 _ hi; omega))
                      have _f_120 := ((_F2_3.ch0 _cw_71).ch _cw_113 (fun i hi => by have _h1 := _lo38 _ hi; omega))
                      have _f_121 := (_f_102.ch _cw_113 (fun g hg hm => by have _h1 := _lo38 _ hm; have _h2 := _hiv38 _ hm; have _h3 := _lo0_5 _ hg; have _h4 := hinv _ hg; omega))
                      exact thn_nrm (Exists.intro (k + 1) ⟨⟨E, (by omega), (by omega), _f_117, _f_118, _f_119, _f_120, _f_121, _on_116⟩, Sub.cons rfl (Sub.cons rfl (Sub.cons rfl (Sub.cons rfl (Sub.cons rfl (Sub.cons rfl (Sub.cons rfl (Sub.cons rfl (Sub.cons rfl (Sub.cons rfl (Sub.cons rfl (Sub.nil _))))))))))), (by first | omega | (dsimp only; omega))⟩)
                  · refine DO_s rfl rfl rfl ?_
                    refine s_v (r_loadAt0 _a79 agg3 rfl rfl) ?_
                    refine ⟨(Ch.refl _ _), ?_⟩
                    refine DR_one 4 (by kernel_rfl) ?_
                    refine DO_s rfl rfl rfl ?_
                    have _f_122 := (_o2_7.ch0 _cw_71)
                    refine (s_index _f_122.ls ics_len el32 sz3 rfl rfl rfl (by omega) fun _p75 _y75 _hy75 _a75 => ?_)
                    have c75 := crk_val _hy75
                    refine ⟨(Ch.refl _ _), ?_⟩
                    refine DR_one 5 (by kernel_rfl) ?_
                    refine DO_s rfl rfl rfl ?_
                    refine s_v (r_loadAt0 _a75 agg3 rfl rfl) ?_
                    refine ⟨(Ch.refl _ _), ?_⟩
                    refine DR_s 10 rfl (by kernel_rfl) rfl rfl (t_v (fun _ => (r_add (by omega) rfl rfl)) ?_)
                    refine DR_s 11 rfl (by kernel_rfl) rfl rfl (t_v (fun _ => (r_min rfl rfl)) ?_)
                    refine DR_one 12 (by kernel_rfl) ?_
                    refine DO_s rfl rfl rfl ?_
                    refine s_indexO (j := k) _f_122 el32 sz3 rfl rfl rfl (by (first | omega | (simp only [List.length_replicate, List.length_set, crN_len, crS_len, crK_len]; omega))) fun _g83 _o83 _cp83 _q83 => ?_
                    refine ⟨(Ch.refl _ _), ?_⟩
                    refine DR_one 13 (by kernel_rfl) ?_
                    refine DO_s rfl rfl rfl ?_
                    refine s_storeO (j := k) (if (_y75 + _y79) < 1000000 then (_y75 + _y79) else 1000000) _f_122 _q83 ics_len sz3 rfl rfl rfl rfl (by (first | omega | (simp only [List.length_replicate, List.length_set, crN_len, crS_len, crK_len]; omega))) fun _w_123 _o_124 _cw_123 => ?_
                    have _cw_123z := _cw_123.size
                    have E := E.step _cw_123 (fun i hi => .inl (by have _h1 := _lo38 _ hi; omega))
                    have _S_125 : Ch (bl (.slice _Av38 ((List.replicate (pL.length + 1) (0 : Int))).length _Cv38)) _w_71 _w_123 := ((Ch.refl _ _).step _cw_123 (fun i hm => by exact .inr hm))
                    refine ⟨_S_125, ?_⟩
                    refine DR_done (by kernel_rfl) ?_
                    refine inB_nrm ?_
                    refine thn_nrm (_hK_68 _ _ ?_)
                    clear _hK_68
                    refine W_region ?_
                    refine WL_step rfl rfl (r_move rfl) ?_
                    refine WL_step rfl rfl (r_add (by omega) rfl rfl) ?_
                    refine WL_step rfl rfl (r_assign rfl) ?_
                    refine WL_nil ?_
                    have _on_126 : Ol ics 3 1 _w_123 (.slice _Av38 ((List.replicate (pL.length + 1) (0 : Int))).length _Cv38) (crK pL pfirst pF wd i s (k + 1)) := by
                      have hx := _o_124
                      first | exact hx.eq (crk_y _hy50 _hy79 _hy75 (by omega) _h70) | exact hx.eq (crk_n _hy50 _hy60 _h70)
                    have _f_127 := ((_F2_0.ch0 _cw_71).ch _cw_123 (fun i hi => by have _h1 := _lo38 _ hi; omega))
                    have _f_128 := ((_F2_1.ch0 _cw_71).ch _cw_123 (fun hm => by have _h1 := _lo38 _ hm; have _h2 := _hiv38 _ hm; omega))
                    have _f_129 := ((_F2_2.ch0 _cw_71).ch _cw_123 (fun i hi => by have _h1 := _lo38 _ hi; omega))
                    have _f_130 := ((_F2_3.ch0 _cw_71).ch _cw_123 (fun i hi => by have _h1 := _lo38 _ hi; omega))
                    have _f_131 := (_f_102.ch _cw_123 (fun g hg hm => by have _h1 := _lo38 _ hm; have _h2 := _hiv38 _ hm; have _h3 := _lo0_5 _ hg; have _h4 := hinv _ hg; omega))
                    exact thn_nrm (Exists.intro (k + 1) ⟨⟨E, (by omega), (by omega), _f_127, _f_128, _f_129, _f_130, _f_131, _on_126⟩, Sub.cons rfl (Sub.cons rfl (Sub.cons rfl (Sub.cons rfl (Sub.cons rfl (Sub.cons rfl (Sub.cons rfl (Sub.cons rfl (Sub.cons rfl (Sub.cons rfl (Sub.cons rfl (Sub.nil _))))))))))), (by first | omega | (dsimp only; omega))⟩)
              · have _kb_70 := _h70
                have _h70 := bf_d _h70
                refine W_skip ?_
                refine inB_nrm ?_
                refine thn_nrm (_hK_68 _ _ ?_)
                clear _hK_68
                refine W_region ?_
                refine WL_step rfl rfl (r_move rfl) ?_
                refine WL_step rfl rfl (r_add (by omega) rfl rfl) ?_
                refine WL_step rfl rfl (r_assign rfl) ?_
                refine WL_nil ?_
                have _on_132 : Ol ics 3 1 _wr_63 (.slice _Av38 ((List.replicate (pL.length + 1) (0 : Int))).length _Cv38) (crK pL pfirst pF wd i s (k + 1)) := by
                  have hx := _o2_7
                  first | exact hx.eq (crk_y _hy50 _hy79 _hy75 (by omega) _h70) | exact hx.eq (crk_n _hy50 _hy60 _h70)
                exact thn_nrm (Exists.intro (k + 1) ⟨⟨E, (by omega), (by omega), _F2_0, _F2_1, _F2_2, _F2_3, _F2_4, _on_132⟩, Sub.cons rfl (Sub.cons rfl (Sub.cons rfl (Sub.cons rfl (Sub.cons rfl (Sub.cons rfl (Sub.cons rfl (Sub.cons rfl (Sub.cons rfl (Sub.cons rfl (Sub.cons rfl (Sub.nil _))))))))))), (by first | omega | (dsimp only; omega))⟩)
            · have _kb_67 := _h63
              have _h63 := bf_d _h63
              refine W_exit (thn_exit (thn_exit (inB_hit ?_)))
              refine inB_nrm ?_
              refine thn_nrm (_hK_46 _ _ ?_)
              clear _hK_46
              refine W_region ?_
              refine WL_step rfl rfl (r_move rfl) ?_
              refine WL_step rfl rfl (r_add (by omega) rfl rfl) ?_
              refine WL_step rfl rfl (r_assign rfl) ?_
              refine WL_nil ?_
              have _on_133 : Ol ics 3 1 _wr_63 (.slice _Av38 ((List.replicate (pL.length + 1) (0 : Int))).length _Cv38) (crS pL pfirst pF wd i (s + 1)) := by
                have hx := _o2_7
                first | exact hx.eq (crs_end1 (by omega)) | exact hx.eq (crs_end2 _hy60 (by omega))
              exact thn_nrm (Exists.intro (s + 1) ⟨⟨E, (by omega), (by omega), _F2_0, _F2_1, _F2_2, _F2_3, _F2_4, _on_133⟩, Sub.cons rfl (Sub.cons rfl (Sub.cons rfl (Sub.cons rfl (Sub.cons rfl (Sub.cons rfl (Sub.cons rfl (Sub.cons rfl (Sub.nil _)))))))), (by first | omega | (dsimp only; omega))⟩)
          · have _kb_66 := _h57
            have _h57 := bf_d _h57
            refine WL_skip rfl rfl ?_
            refine WL_skip rfl rfl ?_
            refine WL_skip rfl rfl ?_
            refine WL_skip rfl rfl ?_
            refine WL_skip rfl rfl ?_
            refine WL_step rfl rfl (r_pickF rfl rfl) ?_
            refine WL_nil ?_
            refine thn_nrm (_hK_65 _ _ ?_)
            clear _hK_65
            refine W_condF rfl ?_
            refine W_exit (thn_exit (thn_exit (inB_hit ?_)))
            refine inB_nrm ?_
            refine thn_nrm (_hK_46 _ _ ?_)
            clear _hK_46
            refine W_region ?_
            refine WL_step rfl rfl (r_move rfl) ?_
            refine WL_step rfl rfl (r_add (by omega) rfl rfl) ?_
            refine WL_step rfl rfl (r_assign rfl) ?_
            refine WL_nil ?_
            have _on_134 : Ol ics 3 1 _wr_63 (.slice _Av38 ((List.replicate (pL.length + 1) (0 : Int))).length _Cv38) (crS pL pfirst pF wd i (s + 1)) := by
              have hx := _o2_7
              first | exact hx.eq (crs_end1 (by omega)) | exact hx.eq (crs_end2 _hy60 (by omega))
            exact thn_nrm (Exists.intro (s + 1) ⟨⟨E, (by omega), (by omega), _F2_0, _F2_1, _F2_2, _F2_3, _F2_4, _on_134⟩, Sub.cons rfl (Sub.cons rfl (Sub.cons rfl (Sub.cons rfl (Sub.cons rfl (Sub.cons rfl (Sub.cons rfl (Sub.cons rfl (Sub.nil _)))))))), (by first | omega | (dsimp only; omega))⟩)
        · have _kb_45 := _h42
          have _h42 := bf_d _h42
          refine W_exit (thn_exit (thn_exit (inB_hit ?_)))
          refine thn_nrm (_hK_34 _ _ ?_)
          clear _hK_34
          refine W_region ?_
          refine WL_step rfl rfl (r_move rfl) ?_
          refine WL_step rfl rfl (r_assign rfl) ?_
          refine WL_nil ?_
          refine inB_nrm ?_
          refine thn_nrm (_hK_31 _ _ ?_)
          clear _hK_31
          refine W_region ?_
          refine WL_step rfl rfl (r_move rfl) ?_
          refine WL_step rfl rfl (r_add (by omega) rfl rfl) ?_
          refine WL_step rfl rfl (r_assign rfl) ?_
          refine WL_nil ?_
          have _on_135 : Ol ics 3 1 _wr_42 (.slice _Av38 ((List.replicate (pL.length + 1) (0 : Int))).length _Cv38) (crN pL pfirst pF wd (i + 1)) := by
            have hx := _o1_7
            exact hx.eq (crn_end (by omega))
          exact thn_nrm (Exists.intro ((i + 1), (.slice _Av38 ((List.replicate (pL.length + 1) (0 : Int))).length _Cv38)) ⟨⟨E, (by omega), (by omega), _F1_0, _F1_1, _F1_2, _F1_3, _on_135, (Lo.down _lo38 (by omega))⟩, Sub.cons rfl (Sub.cons rfl (Sub.cons rfl (Sub.cons rfl (Sub.cons rfl (Sub.nil _))))), (by first | omega | (dsimp only; omega))⟩)
      · have _kb_30 := _h31
        have _h31 := bf_d _h31
        refine W_exit (thn_exit (thn_exit (inB_hit ?_)))
        refine thn_nrm (_hK_20 _ _ ?_)
        clear _hK_20
        refine W_seq fun _K_136 _hK_136 => ?_
        refine W_region ?_
        refine WL_step rfl rfl (r_assign rfl) ?_
        refine WL_nil ?_
        refine thn_nrm (_hK_136 _ _ ?_)
        clear _hK_136
        refine W_seq fun _K_137 _hK_137 => ?_
        refine W_seq fun _K_138 _hK_138 => ?_
        refine W_region ?_
        refine WL_step rfl rfl (r_assign rfl) ?_
        refine WL_nil ?_
        refine thn_nrm (_hK_138 _ _ ?_)
        clear _hK_138
        refine W_block ?_
        refine W_loop (σ := Nat × Int) (fun ⟨q, tt9⟩ => [(2, (.pointer (some ⟨_b2, 0, none⟩))), (4, (.int .i64 0)), (5, (.slice Anv (crN pL pfirst pF wd i).length Cnv)), (11, (.int .i64 tt9)), (12, (.int .i64 ((q : Nat) : Int)))]) (fun ⟨q, tt9⟩ wx => Ch [] w wx ∧ _wr_27.heap.size ≤ wx.heap.size ∧ (q ≤ pL.length + 1) ∧ (tt9 = crSum plast pnull (crN pL pfirst pF wd i) q) ∧ (0 ≤ tt9 ∧ tt9 ≤ 1000000) ∧ Blk wx _b2 37 [(.slice _A_pL pL.length _C_pL), (.int .i64 pfirst), (.int .i64 plast), (.slice _A_pF pF.length _C_pF), (.bool pnull)] ∧ Ls ics 1 wx LL_pL w.heap.size (.slice _A_pL pL.length _C_pL) pL ∧ Ls ics 1 wx LL_pF w.heap.size (.slice _A_pF pF.length _C_pF) pF ∧ Ol ics 3 1 wx (.slice Anv (crN pL pfirst pF wd i).length Cnv) (crN pL pfirst pF wd i)) (fun ⟨q, tt9⟩ => pL.length + 1 - q) (0, 0) (Sub.cons rfl (Sub.cons rfl (Sub.cons rfl (Sub.cons rfl (Sub.cons rfl (Sub.nil _)))))) ⟨E, (Nat.le_refl _), (by omega), rfl, (by omega), _F0_1, _F0_2, _F0_3, _o0_5⟩ ?_
        rintro ⟨q, tt9⟩ _wr_139 ⟨E, _zz3, hq, _ht, hr, _F3_0, _F3_1, _F3_2, _F3_3⟩
        have _E3h := E
        have _E3hz := _E3h.size
        have _F3_0z := _F3_0.lt
        refine W_seq fun _K_140 _hK_140 => ?_
        refine W_seq fun _K_141 _hK_141 => ?_
        refine W_region ?_
        refine WL_step rfl rfl (r_move rfl) ?_
        refine WL_step rfl rfl (r_move rfl) ?_
        refine WL_step rfl rfl (r_len (by rw [el32]; rfl) rfl) ?_
        refine WL_step rfl rfl (r_lss rfl rfl) ?_
        refine WL_nil ?_
        refine thn_nrm (_hK_141 _ _ ?_)
        clear _hK_141
        refine W_cond rfl (fun _h88 => ?_) (fun _h88 => ?_)
        · have _kb_142 := _h88
          have _h88 := bt_d _h88
          refine W_skip ?_
          refine thn_nrm (_hK_140 _ _ ?_)
          clear _hK_140
          refine W_seq fun _K_143 _hK_143 => ?_
          refine W_block ?_
          refine W_seq fun _K_144 _hK_144 => ?_
          refine W_drawC [] 4 mixed rfl fun _w_145 _cw_145 => ?_
          have _cw_145z := _cw_145.size
          have E := E.trans _cw_145
          have _f_146 := (_F3_0.ch0 _cw_145)
          refine DR_s 0 rfl (by kernel_rfl) rfl rfl (t_loadAtA0 _f_146.at_ (fun i hi => absurd hi List.not_mem_nil) agg37 sz37 rfl ?_)
          refine DR_s 1 rfl (by kernel_rfl) rfl rfl (t_v (fun _ => (r_move rfl)) ?_)
          refine DR_s 2 rfl (by kernel_rfl) rfl rfl (t_v (fun _ => (r_shl (by omega) rfl rfl)) ?_)
          refine DR_one 3 (by kernel_rfl) ?_
          refine DO_s rfl rfl rfl ?_
          have _f_147 := (_F3_1.ch0 _cw_145)
          have _f_148 := (_F3_2.ch0 _cw_145)
          refine Step.call (r_call (xs := [.tmp 91, .tmp 93]) fk61 rfl) (c_spec_l10Accepts _f_147 _ _ _f_148 _ _ ) fun _v94 _w_149 _q94 => ?_
          obtain ⟨rfl, _cw_149⟩ := _q94
          have _cw_149z := _cw_149.size
          have E := E.trans _cw_149
          have _S_150 : Ch [] _w_145 _w_149 := ((Ch.refl _ _).trans _cw_149)
          refine ⟨_S_150, ?_⟩
          refine DR_done (by kernel_rfl) ?_
          refine thn_nrm (_hK_144 _ _ ?_)
          clear _hK_144
          refine W_cond rfl (fun _h94 => ?_) (fun _h94 => ?_)
          · have _kb_151 := _h94
            refine W_region ?_
            refine WL_step rfl rfl (r_move rfl) ?_
            refine WL_step rfl rfl (r_move rfl) ?_
            refine WL_step rfl rfl (r_move rfl) ?_
            refine WL_s rfl rfl ?_
            have _f_152 := ((_F3_3.ch0 _cw_145).ch0 _cw_149)
            refine (s_index _f_152.ls ics_len el32 sz3 rfl rfl rfl (by omega) fun _p98 _y98 _hy98 _a98 => ?_)
            have c98 := crn_val _hy98
            refine WL_step rfl rfl (r_loadAt0 _a98 agg3 rfl rfl) ?_
            refine WL_step rfl rfl (r_add (by omega) rfl rfl) ?_
            refine WL_step rfl rfl (r_min rfl rfl) ?_
            refine WL_step rfl rfl (r_assign rfl) ?_
            refine WL_nil ?_
            refine inB_nrm ?_
            refine thn_nrm (_hK_143 _ _ ?_)
            clear _hK_143
            refine W_region ?_
            refine WL_step rfl rfl (r_move rfl) ?_
            refine WL_step rfl rfl (r_add (by omega) rfl rfl) ?_
            refine WL_step rfl rfl (r_assign rfl) ?_
            refine WL_nil ?_
            have _f_153 := (_f_146.ch0 _cw_149)
            have _f_154 := (_f_147.ch0 _cw_149)
            have _f_155 := (_f_148.ch0 _cw_149)
            exact thn_nrm (Exists.intro ((q + 1), (if (tt9 + _y98) < 1000000 then (tt9 + _y98) else 1000000)) ⟨⟨E, (by omega), (by omega), (by first | exact crsum_y _ht _hy98 _h94 | exact crsum_n _ht _h94), (by first | exact hr | (have _v9 := crn_val _hy98; split <;> omega)), _f_153, _f_154, _f_155, _f_152⟩, Sub.cons rfl (Sub.cons rfl (Sub.cons rfl (Sub.cons rfl (Sub.cons rfl (Sub.nil _))))), (by first | omega | (dsimp only; omega))⟩)
          · have _kb_151 := _h94
            refine W_skip ?_
            refine inB_nrm ?_
            refine thn_nrm (_hK_143 _ _ ?_)
            clear _hK_143
            refine W_region ?_
            refine WL_step rfl rfl (r_move rfl) ?_
            refine WL_step rfl rfl (r_add (by omega) rfl rfl) ?_
            refine WL_step rfl rfl (r_assign rfl) ?_
            refine WL_nil ?_
            have _f_156 := (_f_146.ch0 _cw_149)
            have _f_157 := (_f_147.ch0 _cw_149)
            have _f_158 := (_f_148.ch0 _cw_149)
            have _f_159 := ((_F3_3.ch0 _cw_145).ch0 _cw_149)
            exact thn_nrm (Exists.intro ((q + 1), tt9) ⟨⟨E, (by omega), (by omega), (by first | exact crsum_y _ht _hy98 _h94 | exact crsum_n _ht _h94), (by first | exact hr | (have _v9 := crn_val _hy98; split <;> omega)), _f_156, _f_157, _f_158, _f_159⟩, Sub.cons rfl (Sub.cons rfl (Sub.cons rfl (Sub.cons rfl (Sub.cons rfl (Sub.nil _))))), (by first | omega | (dsimp only; omega))⟩)
        · have _kb_142 := _h88
          have _h88 := bf_d _h88
          refine W_exit (thn_exit (thn_exit (inB_hit ?_)))
          refine thn_nrm (_hK_137 _ _ ?_)
          clear _hK_137
          refine W_seq fun _K_160 _hK_160 => ?_
          refine W_region ?_
          refine WL_step rfl rfl (r_move rfl) ?_
          refine WL_step rfl rfl (r_assign rfl) ?_
          refine WL_nil ?_
          refine thn_nrm (_hK_160 _ _ ?_)
          clear _hK_160
          refine W_ret ?_
          clear _hK_28 _hK_140
          exact ret_intro [_] ⟨rfl, trivial⟩ ⟨congrArg (Value.int .i64) (by first | exact crr_n (fun e => _h16 e.1) | exact crr_n (fun e => _h20 e.2) | exact crr_y _h16 _h20 _ht (by omega) (by omega)), E⟩

end Go.Proofs.Ytgpmbjchmphhaaa
