/- Walks of functions that FnExactAcceptsAt reaches: what each returns, and that it leaves the memory that was there alone. -/
import Derived.Test.YthchonkpkgogjaaKF
import Derived.Test.YthchonkpkgogjaaKG
import Derived.Test.YthchonkpkgogjaaKH
import Derived.Test.YthchonkpkgogjaaKI
import Derived.Test.YthchonkpkgogjaaKJ
import Derived.Test.YthchonkpkgogjaaKM
import Derived.Test.YthchonkpkgogjaaKN
import Derived.Test.YthchonkpkgogjaaKO
import Derived.Test.YthchonkpkgogjaaKP
import Derived.Test.YthchonkpkgogjaaKQ
import Derived.Test.YthchonkpkgogjaaKR
import Derived.Test.YthchonkpkgogjaaKS
import Derived.Test.YthchonkpkgogjaaKT
import Derived.Test.YthchonkpkgogjaaKU
import Derived.Test.YthchonkpkgogjaaKV
import Derived.Test.YthchonkpkgogjaaKX
import Derived.Test.YthchonkpkgogjaaKY
import Derived.Test.YthchonkpkgogjaaKZ
import Derived.Test.YthchonkpkgogjaaJA
import Derived.Test.YthchonkpkgogjaaJB
import Derived.Test.YthchonkpkgogjaaJC
import Derived.Test.YthchonkpkgogjaaJD
import Derived.Test.YthchonkpkgogjaaJE
import Derived.Test.YthchonkpkgogjaaJF
import Derived.Test.YthchonkpkgogjaaJG
import Derived.Test.YthchonkpkgogjaaJH
import Derived.Test.YthchonkpkgogjaaJI
import Derived.Test.YthchonkpkgogjaaJK
import Derived.Test.YthchonkpkgogjaaWExactAcceptsAt
import Derived.Test.YthchonkpkgogjaaProg
namespace Go.Proofs.Ythchonkpkgogjaa
open Go.KLib Go.Shelf
set_option maxRecDepth 20000
set_option linter.unusedVariables false
set_option linter.unusedSimpArgs false
namespace TExactAcceptsAtb
theorem agg164 : aggB Try.prog 164 = some true := by kernel_rfl
theorem agg3 : aggB Try.prog 3 = some false := by kernel_rfl
theorem agg33 : aggB Try.prog 33 = some false := by kernel_rfl
theorem agg36 : aggB Try.prog 36 = some true := by kernel_rfl
theorem agg4 : aggB Try.prog 4 = some false := by kernel_rfl
theorem agg40 : aggB Try.prog 40 = some false := by kernel_rfl
theorem agg42 : aggB Try.prog 42 = some true := by kernel_rfl
theorem agg48 : aggB Try.prog 48 = some false := by kernel_rfl
theorem agg49 : aggB Try.prog 49 = some false := by kernel_rfl
theorem agg51 : aggB Try.prog 51 = some true := by kernel_rfl
theorem agg54 : aggB Try.prog 54 = some true := by kernel_rfl
theorem el33 : elB Try.prog 33 = some 3 := by kernel_rfl
theorem el40 : elB Try.prog 40 = some 164 := by kernel_rfl
theorem el48 : elB Try.prog 48 = some 4 := by kernel_rfl
theorem el49 : elB Try.prog 49 = some 33 := by kernel_rfl
theorem fa164_0 : faB Try.prog 164 0 = some 0 := by kernel_rfl
theorem fa164_1 : faB Try.prog 164 1 = some 1 := by kernel_rfl
theorem fa164_2 : faB Try.prog 164 2 = some 2 := by kernel_rfl
theorem fa164_3 : faB Try.prog 164 3 = some 3 := by kernel_rfl
theorem fa42_0 : faB Try.prog 42 0 = some 0 := by kernel_rfl
theorem fa42_1 : faB Try.prog 42 1 = some 1 := by kernel_rfl
theorem fa54_0 : faB Try.prog 54 0 = some 0 := by kernel_rfl
theorem fa54_1 : faB Try.prog 54 1 = some 1 := by kernel_rfl
theorem fa54_2 : faB Try.prog 54 2 = some 2 := by kernel_rfl
theorem fk130 : fnB Try.prog 130 = true := by kernel_rfl
theorem fk137 : fnB Try.prog 137 = true := by kernel_rfl
theorem fk138 : fnB Try.prog 138 = true := by kernel_rfl
theorem fk172 : fnB Try.prog 172 = true := by kernel_rfl
theorem fk174 : fnB Try.prog 174 = true := by kernel_rfl
theorem fk18 : fnB Try.prog 18 = true := by kernel_rfl
theorem fk20 : fnB Try.prog 20 = true := by kernel_rfl
theorem fk22 : fnB Try.prog 22 = true := by kernel_rfl
theorem fk26 : fnB Try.prog 26 = true := by kernel_rfl
theorem fk27 : fnB Try.prog 27 = true := by kernel_rfl
theorem fk28 : fnB Try.prog 28 = true := by kernel_rfl
theorem fk29 : fnB Try.prog 29 = true := by kernel_rfl
theorem fk30 : fnB Try.prog 30 = true := by kernel_rfl
theorem fk85 : fnB Try.prog 85 = true := by kernel_rfl
theorem fk86 : fnB Try.prog 86 = true := by kernel_rfl
theorem fk93 : fnB Try.prog 93 = true := by kernel_rfl
theorem mixed : Try.prog.follows .mixedOrders = true := by kernel_rfl
theorem sz164 : sizeB Try.prog 164 = some 4 := by kernel_rfl
theorem sz3 : sizeB Try.prog 3 = some 1 := by kernel_rfl
theorem sz33 : sizeB Try.prog 33 = some 1 := by kernel_rfl
theorem sz36 : sizeB Try.prog 36 = some 2 := by kernel_rfl
theorem sz4 : sizeB Try.prog 4 = some 1 := by kernel_rfl
theorem sz42 : sizeB Try.prog 42 = some 2 := by kernel_rfl
theorem sz51 : sizeB Try.prog 51 = some 3 := by kernel_rfl
theorem sz54 : sizeB Try.prog 54 = some 3 := by kernel_rfl
theorem un4 : Try.prog.underlying 4 = some (.bool) := by kernel_rfl
theorem zr42 : zeroB Try.prog 42 = some (.agg #[.slice none 0 0, .slice none 0 0]) := by kernel_rfl
theorem zr54 : zeroB Try.prog 54 = some (.agg #[.int .i64 0, .slice none 0 0, .slice none 0 0]) := by kernel_rfl
end TExactAcceptsAtb
open TExactAcceptsAtb

/-- spec.l14Accepts -/
theorem c_spec_l14Accepts {w : World} {LL_gV _B_gV : Nat} {_v_gV : Value} {gV : List Int} (_h_gV : Ls ics 1 w LL_gV _B_gV _v_gV gV) {LL_gE _B_gE : Nat} {_v_gE : Value} {gE : List GEdge} (_h_gE : Ls GEdge.cs 4 w LL_gE _B_gE _v_gE gE) (aS : Int) {LL_aA _B_aA : Nat} {_v_aA : Value} {aA : List Bool} (_h_aA : Ls bcs 1 w LL_aA _B_aA _v_aA aA) {LL_saN _B_saN : Nat} {_v_saN : Value} {saN : List Sv} (_h_saN : Ls Sv.cs 1 w LL_saN _B_saN _v_saN saN) {LR_aN BB_aN : Nat} {aN : List (List Int)} (_rd_aN : Rd ics 1 w LR_aN BB_aN saN aN) (node : Int) (s : Int) (hp : GoodP gV gE aS aA aN node s) :
    Ctr Try.prog 86 #[(.agg #[_v_gV, _v_gE]), (.agg #[(.int .i64 aS), _v_aA, _v_saN]), (.int .i64 node), (.int .i64 s)] w (fun v w' => v = .bool (accN aA (cloR aN (6 + gV.getD node.toNat 0) s)) ∧ Ch [] w w') := by
  obtain ⟨_A_gV, _C_gV, _e1_gV⟩ := _h_gV.val
  subst _e1_gV
  have _l_gV := _h_gV.len
  have _h_gV := _h_gV.here (by decide)
  obtain ⟨_A_gE, _C_gE, _e1_gE⟩ := _h_gE.val
  subst _e1_gE
  have _l_gE := _h_gE.len
  have _h_gE := _h_gE.here (by decide)
  obtain ⟨_A_aA, _C_aA, _e1_aA⟩ := _h_aA.val
  subst _e1_aA
  have _l_aA := _h_aA.len
  have _h_aA := _h_aA.here (by decide)
  obtain ⟨_A_saN, _C_saN, _e1_saN⟩ := _h_saN.val
  subst _e1_saN
  have _l_saN := _h_saN.len
  have _h_saN := _h_saN.here (by decide)
  have _rd_aN := _rd_aN.here (by decide)
  have _rl_aN := _rd_aN.1
  have E := Ch.refl [] w
  have hg := hp.1; have hv := hp.2.1; have hv1 := hv.1; have hv2 := hv.2.2.1; have hn := hp.2.2.1; have hs := hp.2.2.2
  refine Ctr_of_W (N := 38) (vs0 := [(.agg #[(.slice _A_gV gV.length _C_gV), (.slice _A_gE gE.length _C_gE)]), (.agg #[(.int .i64 aS), (.slice _A_aA aA.length _C_aA), (.slice _A_saN saN.length _C_saN)]), (.int .i64 node), (.int .i64 s)]) Try.func86 rfl rfl rfl ?_
  refine W_seq fun _K_1 _hK_1 => ?_
  refine W_region ?_
  refine WL_s rfl rfl ?_
  refine s_box rfl fun _b4 _w_2 _m4 _cw_2 _e4 => ?_
  have _cw_2z := _cw_2.size
  have E := E.trans _cw_2
  have _z4 := _m4.lt
  replace _m4 : Blk _w_2 _b4 42 [(.slice _A_gV gV.length _C_gV), (.slice _A_gE gE.length _C_gE)] := _m4
  refine WL_s rfl rfl ?_
  refine s_box rfl fun _b5 _w_3 _m5 _cw_3 _e5 => ?_
  have _cw_3z := _cw_3.size
  have E := E.trans _cw_3
  have _z5 := _m5.lt
  replace _m5 : Blk _w_3 _b5 54 [(.int .i64 aS), (.slice _A_aA aA.length _C_aA), (.slice _A_saN saN.length _C_saN)] := _m5
  refine WL_step rfl rfl (r_assign rfl) ?_
  refine WL_nil ?_
  refine thn_nrm (_hK_1 _ _ ?_)
  clear _hK_1
  refine W_seq fun _K_4 _hK_4 => ?_
  refine W_drawC [] 9 mixed rfl fun _w_5 _cw_5 => ?_
  have _cw_5z := _cw_5.size
  have E := E.trans _cw_5
  have _f_6 := (_m5.ch0 _cw_5)
  refine DR_s 0 rfl (by kernel_rfl) rfl rfl (t_loadAtA0 _f_6.at_ (fun i hi => absurd hi List.not_mem_nil) agg54 sz54 rfl ?_)
  refine DR_s 1 rfl (by kernel_rfl) rfl rfl (t_v (fun _ => (r_move rfl)) ?_)
  refine DR_s 2 rfl (by kernel_rfl) rfl rfl (t_v (fun _ => (r_fieldAddr fa42_0 rfl)) ?_)
  have _f_7 := ((_m4.ch0 _cw_3).ch0 _cw_5)
  refine DR_s 3 rfl (by kernel_rfl) rfl rfl (t_loadAt _f_7.at_ (fun i hi => absurd hi List.not_mem_nil) agg33 rfl rfl ?_)
  refine DR_s 4 rfl (by kernel_rfl) rfl rfl (t_v (fun _ => (r_move rfl)) ?_)
  have _f_8 := (((_h_gV.ch0 _cw_2).ch0 _cw_3).ch0 _cw_5)
  refine DR_s 5 rfl (by kernel_rfl) rfl rfl (t_index (j := node.toNat) _f_8 ics_len el33 sz3 rfl rfl (by omega) (by omega) fun _p16 _y16 _hy16 _a16 => ?_)
  have _v16 := vals_val hg _hy16
  have _e16 := getD_of (d := 0) _hy16
  refine DR_s 6 rfl (by kernel_rfl) rfl rfl (t_loadAt0 _a16 (fun i hi => absurd hi List.not_mem_nil) agg3 rfl rfl ?_)
  refine DR_one 7 (by kernel_rfl) ?_
  refine DO_s rfl rfl rfl ?_
  have _f_9 := (((_h_aA.ch0 _cw_2).ch0 _cw_3).ch0 _cw_5)
  have _f_10 := (((_rd_aN.ch0 _cw_2).ch0 _cw_3).ch0 _cw_5)
  have _f_11 := (((_h_saN.ch0 _cw_2).ch0 _cw_3).ch0 _cw_5)
  refine Step.call (r_call (xs := [.tmp 11, .tmp 12, .tmp 17]) fk138 rfl) (c_spec_l14Closure _ _f_9 _f_11 _f_10 _ _ hv hs _v16) fun _v18 _w_12 _q18 => ?_
  obtain ⟨rfl, _cw_12⟩ := _q18
  have _cw_12z := _cw_12.size
  have E := E.trans _cw_12
  have _S_13 : Ch [] _w_5 _w_12 := ((Ch.refl _ _).trans _cw_12)
  refine ⟨_S_13, ?_⟩
  refine DR_s 8 rfl (by kernel_rfl) rfl rfl (t_v (fun _ => (r_assign rfl)) ?_)
  refine DR_done (by kernel_rfl) ?_
  refine thn_nrm (_hK_4 _ _ ?_)
  clear _hK_4
  refine W_seq fun _K_14 _hK_14 => ?_
  refine W_seq fun _K_15 _hK_15 => ?_
  refine W_region ?_
  refine WL_step rfl rfl (r_assign rfl) ?_
  refine WL_nil ?_
  refine thn_nrm (_hK_15 _ _ ?_)
  clear _hK_15
  refine W_block ?_
  have _f_16 := (_f_6.ch0 _cw_12)
  have _f_17 := (_f_9.ch0 _cw_12)
  have _f_18 := (_f_11.ch0 _cw_12)
  have _f_19 := (_f_10.ch0 _cw_12)
  refine W_loop (σ := Nat) (fun (q : Nat) => [(5, (.pointer (some ⟨_b5, 0, none⟩))), (9, (.int .i64 ((cloR aN (6 + _y16) s : Nat) : Int))), (10, (.int .i64 ((q : Nat) : Int)))]) (fun (q : Nat) wx => Ch [] w wx ∧ _w_12.heap.size ≤ wx.heap.size ∧ (q ≤ aA.length) ∧ (AccP aA (cloR aN (6 + _y16) s) q) ∧ Blk wx _b5 54 [(.int .i64 aS), (.slice _A_aA aA.length _C_aA), (.slice _A_saN saN.length _C_saN)] ∧ Ls bcs 1 wx LL_aA w.heap.size (.slice _A_aA aA.length _C_aA) aA ∧ Ls Sv.cs 1 wx LL_saN w.heap.size (.slice _A_saN saN.length _C_saN) saN ∧ Rd ics 1 wx LR_aN w.heap.size saN aN) (fun (q : Nat) => aA.length - q) 0 (Sub.cons rfl (Sub.cons rfl (Sub.cons rfl (Sub.nil _)))) ⟨E, (Nat.le_refl _), (by omega), (fun _ h => absurd h (by omega)), _f_16, _f_17, _f_18, _f_19⟩ ?_
  rintro q _wr_20 ⟨E, _zz0, hq, _ht, _F0_0, _F0_1, _F0_2, _F0_3⟩
  have _E0h := E
  have _E0hz := _E0h.size
  have _F0_0z := _F0_0.lt
  have hb9 := cloR_pow (c := 6 + _y16) hv (by omega : -1 ≤ s ∧ s ≤ (aA.length : Int) - 1)
  have hb8 := cloR_lt (c := 6 + _y16) hv (by omega : -1 ≤ s ∧ s ≤ (aA.length : Int) - 1)
  refine W_seq fun _K_21 _hK_21 => ?_
  refine W_seq fun _K_22 _hK_22 => ?_
  refine W_region ?_
  refine WL_step rfl rfl (r_move rfl) ?_
  refine WL_step rfl rfl (r_fieldAddr fa54_1 rfl) ?_
  refine WL_step rfl rfl (r_loadAt _F0_0.at_ agg48 rfl rfl) ?_
  refine WL_step rfl rfl (r_len (by rw [el48]; rfl) rfl) ?_
  refine WL_step rfl rfl (r_lss rfl rfl) ?_
  refine WL_nil ?_
  refine thn_nrm (_hK_22 _ _ ?_)
  clear _hK_22
  refine W_cond rfl (fun _h23 => ?_) (fun _h23 => ?_)
  · have _kb_23 := _h23
    have _h23 := bt_d _h23
    refine W_skip ?_
    refine thn_nrm (_hK_21 _ _ ?_)
    clear _hK_21
    refine W_seq fun _K_24 _hK_24 => ?_
    refine W_block ?_
    refine W_seq fun _K_25 _hK_25 => ?_
    refine W_region ?_
    refine WL_step rfl rfl (r_move rfl) ?_
    refine WL_step rfl rfl (r_move rfl) ?_
    refine WL_step rfl rfl (r_shr (by omega) rfl rfl) ?_
    refine WL_step rfl rfl (r_and rfl rfl) ?_
    refine WL_step rfl rfl (r_eql rfl rfl) ?_
    refine WL_step rfl rfl (r_move rfl) ?_
    refine WL_split (d := 31) rfl (fun _h31 => ?_) (fun _h31 => ?_)
    · have _kb_26 := _h31
      have _h31 := bt_d _h31
      refine WL_step rfl rfl (r_fieldAddr fa54_1 rfl) ?_
      refine WL_step rfl rfl (r_loadAt _F0_0.at_ agg48 rfl rfl) ?_
      refine WL_step rfl rfl (r_move rfl) ?_
      refine WL_s rfl rfl ?_
      refine (s_index _F0_1 bcs_len el48 sz4 rfl rfl rfl (by omega) fun _p35 _y35 _hy35 _a35 => ?_)
      refine WL_step rfl rfl (r_loadAt0 _a35 agg4 rfl rfl) ?_
      refine WL_step rfl rfl (r_pickT rfl rfl) ?_
      refine WL_nil ?_
      refine thn_nrm (_hK_25 _ _ ?_)
      clear _hK_25
      refine W_cond rfl (fun _h37 => ?_) (fun _h37 => ?_)
      · have _kb_27 := _h37
        refine W_seq fun _K_28 _hK_28 => ?_
        refine W_region ?_
        refine WL_step rfl rfl (r_assign rfl) ?_
        refine WL_nil ?_
        refine thn_nrm (_hK_28 _ _ ?_)
        clear _hK_28
        refine W_ret (inB_ret (thn_ret (thn_ret (inB_ret (thn_ret ?_)))))
        clear _hK_14 _hK_24
        exact ret_intro [_] ⟨rfl, trivial⟩ ⟨congrArg Value.bool (by rw [_e16]; first | exact acc_yes (by simpa using bit_y _h31 (by omega) (by omega) (by omega)) (by omega) (by rw [_hy35, _h37]) | exact acc_end hb9 _ht (by omega)), E⟩
      · have _kb_27 := _h37
        refine W_skip ?_
        refine inB_nrm ?_
        refine thn_nrm (_hK_24 _ _ ?_)
        clear _hK_24
        refine W_region ?_
        refine WL_step rfl rfl (r_move rfl) ?_
        refine WL_step rfl rfl (r_add (by omega) rfl rfl) ?_
        refine WL_step rfl rfl (r_assign rfl) ?_
        refine WL_nil ?_
        exact thn_nrm (Exists.intro (q + 1) ⟨⟨E, (by omega), (by omega), (by first | exact acc_step1 _ht _hy35 _h37 | exact acc_step2 _ht (by simpa using bit_n _h31 (by omega) (by omega) (by omega))), _F0_0, _F0_1, _F0_2, _F0_3⟩, Sub.cons rfl (Sub.cons rfl (Sub.cons rfl (Sub.nil _))), (by first | omega | (dsimp only; omega))⟩)
    · have _kb_26 := _h31
      have _h31 := bf_d _h31
      refine WL_skip rfl rfl ?_
      refine WL_skip rfl rfl ?_
      refine WL_skip rfl rfl ?_
      refine WL_skip rfl rfl ?_
      refine WL_skip rfl rfl ?_
      refine WL_step rfl rfl (r_pickF rfl rfl) ?_
      refine WL_nil ?_
      refine thn_nrm (_hK_25 _ _ ?_)
      clear _hK_25
      refine W_condF rfl ?_
      refine W_skip ?_
      refine inB_nrm ?_
      refine thn_nrm (_hK_24 _ _ ?_)
      clear _hK_24
      refine W_region ?_
      refine WL_step rfl rfl (r_move rfl) ?_
      refine WL_step rfl rfl (r_add (by omega) rfl rfl) ?_
      refine WL_step rfl rfl (r_assign rfl) ?_
      refine WL_nil ?_
      exact thn_nrm (Exists.intro (q + 1) ⟨⟨E, (by omega), (by omega), (by first | exact acc_step1 _ht _hy35 _h37 | exact acc_step2 _ht (by simpa using bit_n _h31 (by omega) (by omega) (by omega))), _F0_0, _F0_1, _F0_2, _F0_3⟩, Sub.cons rfl (Sub.cons rfl (Sub.cons rfl (Sub.nil _))), (by first | omega | (dsimp only; omega))⟩)
  · have _kb_23 := _h23
    have _h23 := bf_d _h23
    refine W_exit (thn_exit (thn_exit (inB_hit ?_)))
    refine thn_nrm (_hK_14 _ _ ?_)
    clear _hK_14
    refine W_seq fun _K_29 _hK_29 => ?_
    refine W_region ?_
    refine WL_step rfl rfl (r_assign rfl) ?_
    refine WL_nil ?_
    refine thn_nrm (_hK_29 _ _ ?_)
    clear _hK_29
    refine W_ret ?_
    clear _hK_21
    exact ret_intro [_] ⟨rfl, trivial⟩ ⟨congrArg Value.bool (by rw [_e16]; first | exact acc_yes (by simpa using bit_y _h31 (by omega) (by omega) (by omega)) (by omega) (by rw [_hy35, _h37]) | exact acc_end hb9 _ht (by omega)), E⟩

/-- spec.l1In -/
theorem c_spec_l1In {w : World} (n : Int) (a : Int) (b : Int) :
    Ctr Try.prog 93 #[(.int .i64 n), (.int .i64 a), (.int .i64 b)] w (fun v w' => v = .bool (decide (a ≤ n ∧ n ≤ b)) ∧ Ch [] w w') := by
  have E := Ch.refl [] w
  refine Ctr_of_W (N := 15) (vs0 := [(.int .i64 n), (.int .i64 a), (.int .i64 b)]) Try.func93 rfl rfl rfl ?_
  refine W_seq fun _K_1 _hK_1 => ?_
  refine W_region ?_
  refine WL_step rfl rfl (r_assign rfl) ?_
  refine WL_nil ?_
  refine thn_nrm (_hK_1 _ _ ?_)
  clear _hK_1
  refine W_seq fun _K_2 _hK_2 => ?_
  refine W_region ?_
  refine WL_step rfl rfl (r_move rfl) ?_
  refine WL_step rfl rfl (r_move rfl) ?_
  refine WL_step rfl rfl (r_geq rfl rfl) ?_
  refine WL_step rfl rfl (r_move rfl) ?_
  refine WL_split (d := 10) rfl (fun _h10 => ?_) (fun _h10 => ?_)
  · have _kb_3 := _h10
    have _h10 := bt_d _h10
    refine WL_step rfl rfl (r_move rfl) ?_
    refine WL_step rfl rfl (r_move rfl) ?_
    refine WL_step rfl rfl (r_leq rfl rfl) ?_
    refine WL_step rfl rfl (r_pickT rfl rfl) ?_
    refine WL_step rfl rfl (r_assign rfl) ?_
    refine WL_nil ?_
    refine thn_nrm (_hK_2 _ _ ?_)
    clear _hK_2
    refine W_ret ?_
    exact ret_intro [_] ⟨rfl, trivial⟩ ⟨congrArg Value.bool (by first | rfl | (rw [Bool.eq_iff_iff]; simp <;> omega) | (rw [Bool.eq_iff_iff]; simp_all; done) | simp_all), E⟩
  · have _kb_3 := _h10
    have _h10 := bf_d _h10
    refine WL_skip rfl rfl ?_
    refine WL_skip rfl rfl ?_
    refine WL_skip rfl rfl ?_
    refine WL_step rfl rfl (r_pickF rfl rfl) ?_
    refine WL_step rfl rfl (r_assign rfl) ?_
    refine WL_nil ?_
    refine thn_nrm (_hK_2 _ _ ?_)
    clear _hK_2
    refine W_ret ?_
    exact ret_intro [_] ⟨rfl, trivial⟩ ⟨congrArg Value.bool (by first | rfl | (rw [Bool.eq_iff_iff]; simp <;> omega) | (rw [Bool.eq_iff_iff]; simp_all; done) | simp_all), E⟩

/-- spec.l11Fits -/
theorem c_spec_l11Fits {w : World} (aS : Int) {LL_aA _B_aA : Nat} {_v_aA : Value} {aA : List Bool} (_h_aA : Ls bcs 1 w LL_aA _B_aA _v_aA aA) {LL_saN _B_saN : Nat} {_v_saN : Value} {saN : List Sv} (_h_saN : Ls Sv.cs 1 w LL_saN _B_saN _v_saN saN) {LR_aN BB_aN : Nat} {aN : List (List Int)} (_rd_aN : Rd ics 1 w LR_aN BB_aN saN aN) :
    Ctr Try.prog 174 #[(.agg #[(.int .i64 aS), _v_aA, _v_saN])] w (fun v w' => v = .bool (tt (FitsA aS aA aN)) ∧ Ch [] w w') := by
  obtain ⟨_A_aA, _C_aA, _e1_aA⟩ := _h_aA.val
  subst _e1_aA
  have _l_aA := _h_aA.len
  have _h_aA := _h_aA.here (by decide)
  obtain ⟨_A_saN, _C_saN, _e1_saN⟩ := _h_saN.val
  subst _e1_saN
  have _l_saN := _h_saN.len
  have _h_saN := _h_saN.here (by decide)
  have _rd_aN := _rd_aN.here (by decide)
  have _rl_aN := _rd_aN.1
  have E := Ch.refl [] w
  refine Ctr_of_W (N := 50) (vs0 := [(.agg #[(.int .i64 aS), (.slice _A_aA aA.length _C_aA), (.slice _A_saN saN.length _C_saN)])]) Try.func174 rfl rfl rfl ?_
  refine W_seq fun _K_1 _hK_1 => ?_
  refine W_region ?_
  refine WL_s rfl rfl ?_
  refine s_box rfl fun _b1 _w_2 _m1 _cw_2 _e1 => ?_
  have _cw_2z := _cw_2.size
  have E := E.trans _cw_2
  have _z1 := _m1.lt
  replace _m1 : Blk _w_2 _b1 54 [(.int .i64 aS), (.slice _A_aA aA.length _C_aA), (.slice _A_saN saN.length _C_saN)] := _m1
  refine WL_step rfl rfl (r_assign rfl) ?_
  refine WL_nil ?_
  refine thn_nrm (_hK_1 _ _ ?_)
  clear _hK_1
  refine W_seq fun _K_3 _hK_3 => ?_
  refine W_region ?_
  refine WL_step rfl rfl (r_fieldAddr fa54_1 rfl) ?_
  refine WL_step rfl rfl (r_loadAt _m1.at_ agg48 rfl rfl) ?_
  refine WL_step rfl rfl (r_len (by rw [el48]; rfl) rfl) ?_
  refine WL_step rfl rfl (r_assign rfl) ?_
  refine WL_nil ?_
  refine thn_nrm (_hK_3 _ _ ?_)
  clear _hK_3
  refine W_seq fun _K_4 _hK_4 => ?_
  refine W_seq fun _K_5 _hK_5 => ?_
  refine W_region ?_
  refine WL_step rfl rfl (r_fieldAddr fa54_0 rfl) ?_
  refine WL_step rfl rfl (r_loadAt _m1.at_ agg3 rfl rfl) ?_
  refine WL_step rfl rfl (r_move rfl) ?_
  refine WL_step rfl rfl (r_sub (by omega) rfl rfl) ?_
  refine WL_s rfl rfl ?_
  refine Step.call (r_call (xs := [.tmp 10, .const (Go.Value.int Go.IntKind.i64 0), .tmp 12]) fk93 rfl) (c_spec_l1In _ _ _ ) fun _v13 _w_6 _q13 => ?_
  obtain ⟨rfl, _cw_6⟩ := _q13
  have _cw_6z := _cw_6.size
  have E := E.trans _cw_6
  refine WL_step rfl rfl (r_not rfl) ?_
  refine WL_step rfl rfl (r_move rfl) ?_
  refine WL_split (d := 15) rfl (fun _h15 => ?_) (fun _h15 => ?_)
  · have _kb_7 := _h15
    have _h15 := bf_d (bt_n _h15)
    refine WL_skip rfl rfl ?_
    refine WL_skip rfl rfl ?_
    refine WL_skip rfl rfl ?_
    refine WL_skip rfl rfl ?_
    refine WL_skip rfl rfl ?_
    refine WL_step rfl rfl (r_pickT rfl rfl) ?_
    refine WL_nil ?_
    refine thn_nrm (_hK_5 _ _ ?_)
    clear _hK_5
    refine W_condT rfl ?_
    refine W_seq fun _K_8 _hK_8 => ?_
    refine W_region ?_
    refine WL_step rfl rfl (r_assign rfl) ?_
    refine WL_nil ?_
    refine thn_nrm (_hK_8 _ _ ?_)
    clear _hK_8
    refine W_ret (thn_ret ?_)
    clear _hK_4
    exact ret_intro [_] ⟨rfl, trivial⟩ ⟨congrArg Value.bool (by first | exact tt_true ⟨_h15, by omega, rows_all _ht (by omega)⟩ | exact tt_false (fun e => _h15 e.1) | exact tt_false (fun e => _h21 (by have _h1 := e.2.1; omega)) | exact tt_false (fun e => _h49 (fits_el e _hys41 _hy44)) | exact tt_false (fun e => _h33 (by have _h1 := (fits_row e _hys30).1; omega))), E⟩
  · have _kb_7 := _h15
    have _h15 := bt_d (bf_n _h15)
    refine WL_step rfl rfl (r_fieldAddr fa54_2 rfl) ?_
    have _f_9 := (_m1.ch0 _cw_6)
    refine WL_step rfl rfl (r_loadAt _f_9.at_ agg49 rfl rfl) ?_
    refine WL_step rfl rfl (r_len (by rw [el49]; rfl) rfl) ?_
    refine WL_step rfl rfl (r_move rfl) ?_
    refine WL_step rfl rfl (r_neq rfl rfl) ?_
    refine WL_step rfl rfl (r_pickF rfl rfl) ?_
    refine WL_nil ?_
    refine thn_nrm (_hK_5 _ _ ?_)
    clear _hK_5
    refine W_cond rfl (fun _h21 => ?_) (fun _h21 => ?_)
    · have _kb_10 := _h21
      have _h21 := bf_d (bt_n _h21)
      refine W_seq fun _K_11 _hK_11 => ?_
      refine W_region ?_
      refine WL_step rfl rfl (r_assign rfl) ?_
      refine WL_nil ?_
      refine thn_nrm (_hK_11 _ _ ?_)
      clear _hK_11
      refine W_ret (thn_ret ?_)
      clear _hK_4
      exact ret_intro [_] ⟨rfl, trivial⟩ ⟨congrArg Value.bool (by first | exact tt_true ⟨_h15, by omega, rows_all _ht (by omega)⟩ | exact tt_false (fun e => _h15 e.1) | exact tt_false (fun e => _h21 (by have _h1 := e.2.1; omega)) | exact tt_false (fun e => _h49 (fits_el e _hys41 _hy44)) | exact tt_false (fun e => _h33 (by have _h1 := (fits_row e _hys30).1; omega))), E⟩
    · have _kb_10 := _h21
      have _h21 := bt_d (bf_n _h21)
      refine W_skip ?_
      refine thn_nrm (_hK_4 _ _ ?_)
      clear _hK_4
      refine W_seq fun _K_12 _hK_12 => ?_
      refine W_seq fun _K_13 _hK_13 => ?_
      refine W_region ?_
      refine WL_step rfl rfl (r_assign rfl) ?_
      refine WL_nil ?_
      refine thn_nrm (_hK_13 _ _ ?_)
      clear _hK_13
      refine W_block ?_
      refine W_loop (σ := Nat) (fun (s : Nat) => [(1, (.pointer (some ⟨_b1, 0, none⟩))), (3, (.int .i64 ((aA.length : Nat) : Int))), (4, (.int .i64 ((s : Nat) : Int)))]) (fun (s : Nat) wx => Ch [] w wx ∧ _w_6.heap.size ≤ wx.heap.size ∧ (s ≤ aN.length) ∧ (RowsP aA.length aN s) ∧ Blk wx _b1 54 [(.int .i64 aS), (.slice _A_aA aA.length _C_aA), (.slice _A_saN saN.length _C_saN)]) (fun (s : Nat) => aN.length - s) 0 (Sub.cons rfl (Sub.cons rfl (Sub.cons rfl (Sub.nil _)))) ⟨E, (Nat.le_refl _), (by omega), (rows_zero _ _), _f_9⟩ ?_
      rintro s _wr_14 ⟨E, _zz0, hs, _ht, _F0_0⟩
      have _E0h := E
      have _E0hz := _E0h.size
      have _F0_0z := _F0_0.lt
      refine W_seq fun _K_15 _hK_15 => ?_
      refine W_seq fun _K_16 _hK_16 => ?_
      refine W_region ?_
      refine WL_step rfl rfl (r_move rfl) ?_
      refine WL_step rfl rfl (r_move rfl) ?_
      refine WL_step rfl rfl (r_lss rfl rfl) ?_
      refine WL_nil ?_
      refine thn_nrm (_hK_16 _ _ ?_)
      clear _hK_16
      refine W_cond rfl (fun _h24 => ?_) (fun _h24 => ?_)
      · have _kb_17 := _h24
        have _h24 := bt_d _h24
        refine W_skip ?_
        refine thn_nrm (_hK_15 _ _ ?_)
        clear _hK_15
        refine W_seq fun _K_18 _hK_18 => ?_
        refine W_block ?_
        refine W_seq fun _K_19 _hK_19 => ?_
        refine W_seq fun _K_20 _hK_20 => ?_
        refine W_region ?_
        refine WL_step rfl rfl (r_fieldAddr fa54_2 rfl) ?_
        refine WL_step rfl rfl (r_loadAt _F0_0.at_ agg49 rfl rfl) ?_
        refine WL_step rfl rfl (r_move rfl) ?_
        refine WL_s rfl rfl ?_
        have _f_21 := (_h_saN.ch0 _E0h)
        refine (s_index _f_21 Sv.len el49 sz33 rfl rfl rfl (by omega) fun _p30 _y30 _hy30 _a30 => ?_)
        have _f_22 := (_rd_aN.ch0 _E0h)
        obtain ⟨_ys30, _hys30, _fs30⟩ := _f_22.get _hy30
        obtain ⟨_A30, _n30, _C30⟩ := _y30
        obtain rfl := _fs30.eqn
        have _l30 := _fs30.len
        replace _fs30 : Ls ics 1 _wr_14 LR_aN w.heap.size (.slice _A30 _ys30.length _C30) _ys30 := _fs30
        replace _a30 : At _wr_14 LL_saN w.heap.size _p30 ([(.slice _A30 _ys30.length _C30)]) := _a30
        refine WL_step rfl rfl (r_loadAt0 _a30 agg33 rfl rfl) ?_
        refine WL_step rfl rfl (r_len (by rw [el33]; rfl) rfl) ?_
        refine WL_step rfl rfl (r_neq rfl rfl) ?_
        refine WL_nil ?_
        refine thn_nrm (_hK_20 _ _ ?_)
        clear _hK_20
        refine W_cond rfl (fun _h33 => ?_) (fun _h33 => ?_)
        · have _kb_23 := _h33
          have _h33 := bf_d (bt_n _h33)
          refine W_seq fun _K_24 _hK_24 => ?_
          refine W_region ?_
          refine WL_step rfl rfl (r_assign rfl) ?_
          refine WL_nil ?_
          refine thn_nrm (_hK_24 _ _ ?_)
          clear _hK_24
          refine W_ret (thn_ret (inB_ret (thn_ret (thn_ret (inB_ret (thn_ret ?_))))))
          clear _hK_12 _hK_18 _hK_19
          exact ret_intro [_] ⟨rfl, trivial⟩ ⟨congrArg Value.bool (by first | exact tt_true ⟨_h15, by omega, rows_all _ht (by omega)⟩ | exact tt_false (fun e => _h15 e.1) | exact tt_false (fun e => _h21 (by have _h1 := e.2.1; omega)) | exact tt_false (fun e => _h49 (fits_el e _hys41 _hy44)) | exact tt_false (fun e => _h33 (by have _h1 := (fits_row e _hys30).1; omega))), E⟩
        · have _kb_23 := _h33
          have _h33 := bt_d (bf_n _h33)
          refine W_skip ?_
          refine thn_nrm (_hK_19 _ _ ?_)
          clear _hK_19
          refine W_seq fun _K_25 _hK_25 => ?_
          refine W_region ?_
          refine WL_step rfl rfl (r_assign rfl) ?_
          refine WL_nil ?_
          refine thn_nrm (_hK_25 _ _ ?_)
          clear _hK_25
          refine W_block ?_
          refine W_loop (σ := Nat) (fun (k : Nat) => [(1, (.pointer (some ⟨_b1, 0, none⟩))), (3, (.int .i64 ((aA.length : Nat) : Int))), (4, (.int .i64 ((s : Nat) : Int))), (5, (.int .i64 ((k : Nat) : Int))), (22, (.int .i64 ((s : Nat) : Int))), (23, (.int .i64 ((aA.length : Nat) : Int))), (24, (.bool (decide (((s : Nat) : Int) < ((aA.length : Nat) : Int))))), (27, (.pointer (some (Addr.add ⟨_b1, 0, none⟩ 2)))), (28, (.slice _A_saN saN.length _C_saN)), (29, (.int .i64 ((s : Nat) : Int))), (30, (.pointer (some _p30))), (31, (.slice _A30 _ys30.length _C30)), (32, (.int .i64 ((_ys30.length : Nat) : Int))), (33, (.bool (!decide (((_ys30.length : Nat) : Int) = 9))))]) (fun (k : Nat) wx => Ch [] w wx ∧ _wr_14.heap.size ≤ wx.heap.size ∧ (k ≤ 9) ∧ (RowP aA.length _ys30 k) ∧ Blk wx _b1 54 [(.int .i64 aS), (.slice _A_aA aA.length _C_aA), (.slice _A_saN saN.length _C_saN)] ∧ Ls Sv.cs 1 wx LL_saN w.heap.size (.slice _A_saN saN.length _C_saN) saN ∧ Rd ics 1 wx LR_aN w.heap.size saN aN ∧ At wx LL_saN w.heap.size _p30 ([(.slice _A30 _ys30.length _C30)]) ∧ Ls ics 1 wx LR_aN w.heap.size (.slice _A30 _ys30.length _C30) _ys30) (fun (k : Nat) => 9 - k) 0 (Sub.cons rfl (Sub.cons rfl (Sub.cons rfl (Sub.cons rfl (Sub.cons rfl (Sub.cons rfl (Sub.cons rfl (Sub.cons rfl (Sub.cons rfl (Sub.cons rfl (Sub.cons rfl (Sub.cons rfl (Sub.cons rfl (Sub.cons rfl (Sub.nil _))))))))))))))) ⟨E, (Nat.le_refl _), (by omega), (rowp_zero _ _), _F0_0, _f_21, _f_22, _a30, _fs30⟩ ?_
          rintro k _wr_26 ⟨E, _zz1, _hk, hp, _F1_0, _F1_2, _F1_3, _F1_4, _F1_5⟩
          have _E1h := E
          have _E1hz := _E1h.size
          have _F1_0z := _F1_0.lt
          refine W_seq fun _K_27 _hK_27 => ?_
          refine W_seq fun _K_28 _hK_28 => ?_
          refine W_region ?_
          refine WL_step rfl rfl (r_move rfl) ?_
          refine WL_step rfl rfl (r_lss rfl rfl) ?_
          refine WL_nil ?_
          refine thn_nrm (_hK_28 _ _ ?_)
          clear _hK_28
          refine W_cond rfl (fun _h35 => ?_) (fun _h35 => ?_)
          · have _kb_29 := _h35
            have _h35 := bt_d _h35
            refine W_skip ?_
            refine thn_nrm (_hK_27 _ _ ?_)
            clear _hK_27
            refine W_seq fun _K_30 _hK_30 => ?_
            refine W_block ?_
            refine W_seq fun _K_31 _hK_31 => ?_
            refine W_region ?_
            refine WL_step rfl rfl (r_fieldAddr fa54_2 rfl) ?_
            refine WL_step rfl rfl (r_loadAt _F1_0.at_ agg49 rfl rfl) ?_
            refine WL_step rfl rfl (r_move rfl) ?_
            refine WL_s rfl rfl ?_
            refine (s_index _F1_2 Sv.len el49 sz33 rfl rfl rfl (by omega) fun _p41 _y41 _hy41 _a41 => ?_)
            obtain ⟨_ys41, _hys41, _fs41⟩ := _F1_3.get _hy41
            obtain ⟨_A41, _n41, _C41⟩ := _y41
            obtain rfl := _fs41.eqn
            have _l41 := _fs41.len
            replace _fs41 : Ls ics 1 _wr_26 LR_aN w.heap.size (.slice _A41 _ys41.length _C41) _ys41 := _fs41
            replace _a41 : At _wr_26 LL_saN w.heap.size _p41 ([(.slice _A41 _ys41.length _C41)]) := _a41
            have _e41 := congrArg List.length (get_uniq _hys30 _hys41)
            refine WL_step rfl rfl (r_loadAt0 _a41 agg33 rfl rfl) ?_
            refine WL_step rfl rfl (r_move rfl) ?_
            refine WL_s rfl rfl ?_
            refine (s_index _fs41 ics_len el33 sz3 rfl rfl rfl (by omega) fun _p44 _y44 _hy44 _a44 => ?_)
            refine WL_step rfl rfl (r_loadAt0 _a44 agg3 rfl rfl) ?_
            refine WL_step rfl rfl (r_move rfl) ?_
            refine WL_step rfl rfl (r_sub (by omega) rfl rfl) ?_
            refine WL_s rfl rfl ?_
            refine Step.call (r_call (xs := [.tmp 45, .const (Go.Value.int Go.IntKind.i64 (-1)), .tmp 47]) fk93 rfl) (c_spec_l1In _ _ _ ) fun _v48 _w_32 _q48 => ?_
            obtain ⟨rfl, _cw_32⟩ := _q48
            have _cw_32z := _cw_32.size
            have E := E.trans _cw_32
            refine WL_step rfl rfl (r_not rfl) ?_
            refine WL_nil ?_
            refine thn_nrm (_hK_31 _ _ ?_)
            clear _hK_31
            refine W_cond rfl (fun _h49 => ?_) (fun _h49 => ?_)
            · have _kb_33 := _h49
              have _h49 := bf_d (bt_n _h49)
              refine W_seq fun _K_34 _hK_34 => ?_
              refine W_region ?_
              refine WL_step rfl rfl (r_assign rfl) ?_
              refine WL_nil ?_
              refine thn_nrm (_hK_34 _ _ ?_)
              clear _hK_34
              refine W_ret (inB_ret (thn_ret (thn_ret (inB_ret (inB_ret (thn_ret (thn_ret (inB_ret (thn_ret ?_)))))))))
              clear _hK_12 _hK_18 _hK_30
              exact ret_intro [_] ⟨rfl, trivial⟩ ⟨congrArg Value.bool (by first | exact tt_true ⟨_h15, by omega, rows_all _ht (by omega)⟩ | exact tt_false (fun e => _h15 e.1) | exact tt_false (fun e => _h21 (by have _h1 := e.2.1; omega)) | exact tt_false (fun e => _h49 (fits_el e _hys41 _hy44)) | exact tt_false (fun e => _h33 (by have _h1 := (fits_row e _hys30).1; omega))), E⟩
            · have _kb_33 := _h49
              have _h49 := bt_d (bf_n _h49)
              refine W_skip ?_
              refine inB_nrm ?_
              refine thn_nrm (_hK_30 _ _ ?_)
              clear _hK_30
              refine W_region ?_
              refine WL_step rfl rfl (r_move rfl) ?_
              refine WL_step rfl rfl (r_add (by omega) rfl rfl) ?_
              refine WL_step rfl rfl (r_assign rfl) ?_
              refine WL_nil ?_
              have _f_35 := (_F1_0.ch0 _cw_32)
              have _f_36 := (_F1_2.ch0 _cw_32)
              have _f_37 := (_F1_3.ch0 _cw_32)
              have _f_38 := (_F1_4.ch0 _cw_32)
              have _f_39 := (_F1_5.ch0 _cw_32)
              exact thn_nrm (Exists.intro (k + 1) ⟨⟨E, (by omega), (by omega), (rowp_step hp (get_uniq _hys41 _hys30 ▸ _hy44) _h49), _f_35, _f_36, _f_37, _f_38, _f_39⟩, Sub.cons rfl (Sub.cons rfl (Sub.cons rfl (Sub.cons rfl (Sub.cons rfl (Sub.cons rfl (Sub.cons rfl (Sub.cons rfl (Sub.cons rfl (Sub.cons rfl (Sub.cons rfl (Sub.cons rfl (Sub.cons rfl (Sub.cons rfl (Sub.nil _)))))))))))))), (by first | omega | (dsimp only; omega))⟩)
          · have _kb_29 := _h35
            have _h35 := bf_d _h35
            refine W_exit (thn_exit (thn_exit (inB_hit ?_)))
            refine inB_nrm ?_
            refine thn_nrm (_hK_18 _ _ ?_)
            clear _hK_18
            refine W_region ?_
            refine WL_step rfl rfl (r_move rfl) ?_
            refine WL_step rfl rfl (r_add (by omega) rfl rfl) ?_
            refine WL_step rfl rfl (r_assign rfl) ?_
            refine WL_nil ?_
            exact thn_nrm (Exists.intro (s + 1) ⟨⟨E, (by omega), (by omega), (rows_step _ht _hys30 ⟨by omega, rowp_all hp (by omega)⟩), _F1_0⟩, Sub.cons rfl (Sub.cons rfl (Sub.cons rfl (Sub.nil _))), (by first | omega | (dsimp only; omega))⟩)
      · have _kb_17 := _h24
        have _h24 := bf_d _h24
        refine W_exit (thn_exit (thn_exit (inB_hit ?_)))
        refine thn_nrm (_hK_12 _ _ ?_)
        clear _hK_12
        refine W_seq fun _K_40 _hK_40 => ?_
        refine W_region ?_
        refine WL_step rfl rfl (r_assign rfl) ?_
        refine WL_nil ?_
        refine thn_nrm (_hK_40 _ _ ?_)
        clear _hK_40
        refine W_ret ?_
        clear _hK_15
        exact ret_intro [_] ⟨rfl, trivial⟩ ⟨congrArg Value.bool (by first | exact tt_true ⟨_h15, by omega, rows_all _ht (by omega)⟩ | exact tt_false (fun e => _h15 e.1) | exact tt_false (fun e => _h21 (by have _h1 := e.2.1; omega)) | exact tt_false (fun e => _h49 (fits_el e _hys41 _hy44)) | exact tt_false (fun e => _h33 (by have _h1 := (fits_row e _hys30).1; omega))), E⟩

/-- spec.IsValidAutomaton -/
theorem c_spec_IsValidAutomaton {w : World} (aS : Int) {LL_aA _B_aA : Nat} {_v_aA : Value} {aA : List Bool} (_h_aA : Ls bcs 1 w LL_aA _B_aA _v_aA aA) {LL_saN _B_saN : Nat} {_v_saN : Value} {saN : List Sv} (_h_saN : Ls Sv.cs 1 w LL_saN _B_saN _v_saN saN) {LR_aN BB_aN : Nat} {aN : List (List Int)} (_rd_aN : Rd ics 1 w LR_aN BB_aN saN aN) :
    Ctr Try.prog 137 #[(.agg #[(.int .i64 aS), _v_aA, _v_saN])] w (fun v w' => v = .bool (tt (ValidA aS aA aN)) ∧ Ch [] w w') := by
  obtain ⟨_A_aA, _C_aA, _e1_aA⟩ := _h_aA.val
  subst _e1_aA
  have _l_aA := _h_aA.len
  have _h_aA := _h_aA.here (by decide)
  obtain ⟨_A_saN, _C_saN, _e1_saN⟩ := _h_saN.val
  subst _e1_saN
  have _l_saN := _h_saN.len
  have _h_saN := _h_saN.here (by decide)
  have _rd_aN := _rd_aN.here (by decide)
  have _rl_aN := _rd_aN.1
  have E := Ch.refl [] w
  refine Ctr_of_W (N := 11) (vs0 := [(.agg #[(.int .i64 aS), (.slice _A_aA aA.length _C_aA), (.slice _A_saN saN.length _C_saN)])]) Try.func137 rfl rfl rfl ?_
  refine W_seq fun _K_1 _hK_1 => ?_
  refine W_region ?_
  refine WL_s rfl rfl ?_
  refine s_box rfl fun _b1 _w_2 _m1 _cw_2 _e1 => ?_
  have _cw_2z := _cw_2.size
  have E := E.trans _cw_2
  have _z1 := _m1.lt
  replace _m1 : Blk _w_2 _b1 54 [(.int .i64 aS), (.slice _A_aA aA.length _C_aA), (.slice _A_saN saN.length _C_saN)] := _m1
  refine WL_step rfl rfl (r_assign rfl) ?_
  refine WL_nil ?_
  refine thn_nrm (_hK_1 _ _ ?_)
  clear _hK_1
  refine W_seq fun _K_3 _hK_3 => ?_
  refine W_region ?_
  refine WL_step rfl rfl (r_fieldAddr fa54_1 rfl) ?_
  refine WL_step rfl rfl (r_loadAt _m1.at_ agg48 rfl rfl) ?_
  refine WL_step rfl rfl (r_len (by rw [el48]; rfl) rfl) ?_
  refine WL_step rfl rfl (r_leq rfl rfl) ?_
  refine WL_step rfl rfl (r_move rfl) ?_
  refine WL_split (d := 7) rfl (fun _h7 => ?_) (fun _h7 => ?_)
  · have _kb_4 := _h7
    have _h7 := bt_d _h7
    refine WL_step rfl rfl (r_loadAtA0 _m1.at_ agg54 sz54 rfl) ?_
    refine WL_s rfl rfl ?_
    have _f_5 := (_h_aA.ch0 _cw_2)
    have _f_6 := (_rd_aN.ch0 _cw_2)
    have _f_7 := (_h_saN.ch0 _cw_2)
    refine Step.call (r_call (xs := [.tmp 8]) fk174 rfl) (c_spec_l11Fits _ _f_5 _f_7 _f_6 ) fun _v9 _w_8 _q9 => ?_
    obtain ⟨rfl, _cw_8⟩ := _q9
    have _cw_8z := _cw_8.size
    have E := E.trans _cw_8
    refine WL_step rfl rfl (r_pickT rfl rfl) ?_
    refine WL_step rfl rfl (r_assign rfl) ?_
    refine WL_nil ?_
    refine thn_nrm (_hK_3 _ _ ?_)
    clear _hK_3
    refine W_ret ?_
    exact ret_intro [_] ⟨rfl, trivial⟩ ⟨congrArg Value.bool (by first | exact tt_eq ⟨fun e => ⟨by omega, e⟩, fun e => e.2⟩ | exact tt_false (fun e => _h7 (by have _h1 := e.1; omega))), E⟩
  · have _kb_4 := _h7
    have _h7 := bf_d _h7
    refine WL_skip rfl rfl ?_
    refine WL_skip rfl rfl ?_
    refine WL_step rfl rfl (r_pickF rfl rfl) ?_
    refine WL_step rfl rfl (r_assign rfl) ?_
    refine WL_nil ?_
    refine thn_nrm (_hK_3 _ _ ?_)
    clear _hK_3
    refine W_ret ?_
    exact ret_intro [_] ⟨rfl, trivial⟩ ⟨congrArg Value.bool (by first | exact tt_eq ⟨fun e => ⟨by omega, e⟩, fun e => e.2⟩ | exact tt_false (fun e => _h7 (by have _h1 := e.1; omega))), E⟩

/-- spec.l3Edge -/
theorem c_spec_l3Edge {w : World} {LL_gV _B_gV : Nat} {_v_gV : Value} {gV : List Int} (_h_gV : Ls ics 1 w LL_gV _B_gV _v_gV gV) {LL_gE _B_gE : Nat} {_v_gE : Value} {gE : List GEdge} (_h_gE : Ls GEdge.cs 4 w LL_gE _B_gE _v_gE gE) (e : GEdge) :
    Ctr Try.prog 172 #[(.agg #[_v_gV, _v_gE]), (.agg #[(.int .i64 e.id), (.int .i64 e.f), (.int .i64 e.t), (.int .i64 e.label)])] w (fun v w' => v = .bool (tt (EdgeOk ((gV.length : Int) - 1) e)) ∧ Ch [] w w') := by
  obtain ⟨_A_gV, _C_gV, _e1_gV⟩ := _h_gV.val
  subst _e1_gV
  have _l_gV := _h_gV.len
  have _h_gV := _h_gV.here (by decide)
  obtain ⟨_A_gE, _C_gE, _e1_gE⟩ := _h_gE.val
  subst _e1_gE
  have _l_gE := _h_gE.len
  have _h_gE := _h_gE.here (by decide)
  have E := Ch.refl [] w
  refine Ctr_of_W (N := 30) (vs0 := [(.agg #[(.slice _A_gV gV.length _C_gV), (.slice _A_gE gE.length _C_gE)]), (.agg #[(.int .i64 e.id), (.int .i64 e.f), (.int .i64 e.t), (.int .i64 e.label)])]) Try.func172 rfl rfl rfl ?_
  refine W_seq fun _K_1 _hK_1 => ?_
  refine W_region ?_
  refine WL_s rfl rfl ?_
  refine s_box rfl fun _b2 _w_2 _m2 _cw_2 _e2 => ?_
  have _cw_2z := _cw_2.size
  have E := E.trans _cw_2
  have _z2 := _m2.lt
  replace _m2 : Blk _w_2 _b2 42 [(.slice _A_gV gV.length _C_gV), (.slice _A_gE gE.length _C_gE)] := _m2
  refine WL_s rfl rfl ?_
  refine s_box rfl fun _b3 _w_3 _m3 _cw_3 _e3 => ?_
  have _cw_3z := _cw_3.size
  have E := E.trans _cw_3
  have _z3 := _m3.lt
  replace _m3 : Blk _w_3 _b3 164 [(.int .i64 e.id), (.int .i64 e.f), (.int .i64 e.t), (.int .i64 e.label)] := _m3
  refine WL_step rfl rfl (r_assign rfl) ?_
  refine WL_nil ?_
  refine thn_nrm (_hK_1 _ _ ?_)
  clear _hK_1
  refine W_seq fun _K_4 _hK_4 => ?_
  refine W_region ?_
  refine WL_step rfl rfl (r_fieldAddr fa42_0 rfl) ?_
  have _f_5 := (_m2.ch0 _cw_3)
  refine WL_step rfl rfl (r_loadAt _f_5.at_ agg33 rfl rfl) ?_
  refine WL_step rfl rfl (r_len (by rw [el33]; rfl) rfl) ?_
  refine WL_step rfl rfl (r_sub (by omega) rfl rfl) ?_
  refine WL_step rfl rfl (r_assign rfl) ?_
  refine WL_nil ?_
  refine thn_nrm (_hK_4 _ _ ?_)
  clear _hK_4
  refine W_seq fun _K_6 _hK_6 => ?_
  refine W_region ?_
  refine WL_step rfl rfl (r_fieldAddr fa164_0 rfl) ?_
  refine WL_step rfl rfl (r_loadAt _m3.at_ agg3 rfl rfl) ?_
  refine WL_s rfl rfl ?_
  refine Step.call (r_call (xs := [.tmp 11, .const (Go.Value.int Go.IntKind.i64 1), .const (Go.Value.int Go.IntKind.i64 99)]) fk93 rfl) (c_spec_l1In _ _ _ ) fun _v12 _w_7 _q12 => ?_
  obtain ⟨rfl, _cw_7⟩ := _q12
  have _cw_7z := _cw_7.size
  have E := E.trans _cw_7
  refine WL_step rfl rfl (r_move rfl) ?_
  refine WL_split (d := 13) rfl (fun _h13 => ?_) (fun _h13 => ?_)
  · have _kb_8 := _h13
    have _h13 := bt_d _h13
    refine WL_step rfl rfl (r_fieldAddr fa164_1 rfl) ?_
    have _f_9 := (_m3.ch0 _cw_7)
    refine WL_step rfl rfl (r_loadAt _f_9.at_ agg3 rfl rfl) ?_
    refine WL_step rfl rfl (r_move rfl) ?_
    refine WL_s rfl rfl ?_
    refine Step.call (r_call (xs := [.tmp 15, .const (Go.Value.int Go.IntKind.i64 0), .tmp 16]) fk93 rfl) (c_spec_l1In _ _ _ ) fun _v17 _w_10 _q17 => ?_
    obtain ⟨rfl, _cw_10⟩ := _q17
    have _cw_10z := _cw_10.size
    have E := E.trans _cw_10
    refine WL_step rfl rfl (r_pickT rfl rfl) ?_
    refine WL_step rfl rfl (r_move rfl) ?_
    refine WL_split (d := 19) rfl (fun _h19 => ?_) (fun _h19 => ?_)
    · have _kb_11 := _h19
      have _h19 := bt_d _h19
      refine WL_step rfl rfl (r_fieldAddr fa164_2 rfl) ?_
      have _f_12 := (_f_9.ch0 _cw_10)
      refine WL_step rfl rfl (r_loadAt _f_12.at_ agg3 rfl rfl) ?_
      refine WL_step rfl rfl (r_move rfl) ?_
      refine WL_s rfl rfl ?_
      refine Step.call (r_call (xs := [.tmp 21, .const (Go.Value.int Go.IntKind.i64 0), .tmp 22]) fk93 rfl) (c_spec_l1In _ _ _ ) fun _v23 _w_13 _q23 => ?_
      obtain ⟨rfl, _cw_13⟩ := _q23
      have _cw_13z := _cw_13.size
      have E := E.trans _cw_13
      refine WL_step rfl rfl (r_pickT rfl rfl) ?_
      refine WL_step rfl rfl (r_move rfl) ?_
      refine WL_split (d := 25) rfl (fun _h25 => ?_) (fun _h25 => ?_)
      · have _kb_14 := _h25
        have _h25 := bt_d _h25
        refine WL_step rfl rfl (r_fieldAddr fa164_3 rfl) ?_
        have _f_15 := (_f_12.ch0 _cw_13)
        refine WL_step rfl rfl (r_loadAt _f_15.at_ agg3 rfl rfl) ?_
        refine WL_s rfl rfl ?_
        refine Step.call (r_call (xs := [.tmp 27, .const (Go.Value.int Go.IntKind.i64 0), .const (Go.Value.int Go.IntKind.i64 2)]) fk93 rfl) (c_spec_l1In _ _ _ ) fun _v28 _w_16 _q28 => ?_
        obtain ⟨rfl, _cw_16⟩ := _q28
        have _cw_16z := _cw_16.size
        have E := E.trans _cw_16
        refine WL_step rfl rfl (r_pickT rfl rfl) ?_
        refine WL_step rfl rfl (r_assign rfl) ?_
        refine WL_nil ?_
        refine thn_nrm (_hK_6 _ _ ?_)
        clear _hK_6
        refine W_ret ?_
        exact ret_intro [_] ⟨rfl, trivial⟩ ⟨congrArg Value.bool (by first | exact tt_false (fun q => by unfold EdgeOk at q; omega) | (rw [tt_dec]; exact tt_eq ⟨fun q => by unfold EdgeOk; omega, fun q => by unfold EdgeOk at q; omega⟩)), E⟩
      · have _kb_14 := _h25
        have _h25 := bf_d _h25
        refine WL_skip rfl rfl ?_
        refine WL_skip rfl rfl ?_
        refine WL_skip rfl rfl ?_
        refine WL_step rfl rfl (r_pickF rfl rfl) ?_
        refine WL_step rfl rfl (r_assign rfl) ?_
        refine WL_nil ?_
        refine thn_nrm (_hK_6 _ _ ?_)
        clear _hK_6
        refine W_ret ?_
        exact ret_intro [_] ⟨rfl, trivial⟩ ⟨congrArg Value.bool (by first | exact tt_false (fun q => by unfold EdgeOk at q; omega) | (rw [tt_dec]; exact tt_eq ⟨fun q => by unfold EdgeOk; omega, fun q => by unfold EdgeOk at q; omega⟩)), E⟩
    · have _kb_11 := _h19
      have _h19 := bf_d _h19
      refine WL_skip rfl rfl ?_
      refine WL_skip rfl rfl ?_
      refine WL_skip rfl rfl ?_
      refine WL_skip rfl rfl ?_
      refine WL_step rfl rfl (r_pickF rfl rfl) ?_
      refine WL_step rfl rfl (r_move rfl) ?_
      refine WL_skip rfl rfl ?_
      refine WL_skip rfl rfl ?_
      refine WL_skip rfl rfl ?_
      refine WL_step rfl rfl (r_pickF rfl rfl) ?_
      refine WL_step rfl rfl (r_assign rfl) ?_
      refine WL_nil ?_
      refine thn_nrm (_hK_6 _ _ ?_)
      clear _hK_6
      refine W_ret ?_
      exact ret_intro [_] ⟨rfl, trivial⟩ ⟨congrArg Value.bool (by first | exact tt_false (fun q => by unfold EdgeOk at q; omega) | (rw [tt_dec]; exact tt_eq ⟨fun q => by unfold EdgeOk; omega, fun q => by unfold EdgeOk at q; omega⟩)), E⟩
  · have _kb_8 := _h13
    have _h13 := bf_d _h13
    refine WL_skip rfl rfl ?_
    refine WL_skip rfl rfl ?_
    refine WL_skip rfl rfl ?_
    refine WL_skip rfl rfl ?_
    refine WL_step rfl rfl (r_pickF rfl rfl) ?_
    refine WL_step rfl rfl (r_move rfl) ?_
    refine WL_skip rfl rfl ?_
    refine WL_skip rfl rfl ?_
    refine WL_skip rfl rfl ?_
    refine WL_skip rfl rfl ?_
    refine WL_step rfl rfl (r_pickF rfl rfl) ?_
    refine WL_step rfl rfl (r_move rfl) ?_
    refine WL_skip rfl rfl ?_
    refine WL_skip rfl rfl ?_
    refine WL_skip rfl rfl ?_
    refine WL_step rfl rfl (r_pickF rfl rfl) ?_
    refine WL_step rfl rfl (r_assign rfl) ?_
    refine WL_nil ?_
    refine thn_nrm (_hK_6 _ _ ?_)
    clear _hK_6
    refine W_ret ?_
    exact ret_intro [_] ⟨rfl, trivial⟩ ⟨congrArg Value.bool (by first | exact tt_false (fun q => by unfold EdgeOk at q; omega) | (rw [tt_dec]; exact tt_eq ⟨fun q => by unfold EdgeOk; omega, fun q => by unfold EdgeOk at q; omega⟩)), E⟩

/-- spec.IsValidGraph -/
theorem c_spec_IsValidGraph {w : World} {LL_gV _B_gV : Nat} {_v_gV : Value} {gV : List Int} (_h_gV : Ls ics 1 w LL_gV _B_gV _v_gV gV) {LL_gE _B_gE : Nat} {_v_gE : Value} {gE : List GEdge} (_h_gE : Ls GEdge.cs 4 w LL_gE _B_gE _v_gE gE) :
    Ctr Try.prog 130 #[(.agg #[_v_gV, _v_gE])] w (fun v w' => v = .bool (tt (ValidG gV gE)) ∧ Ch [] w w') := by
  obtain ⟨_A_gV, _C_gV, _e1_gV⟩ := _h_gV.val
  subst _e1_gV
  have _l_gV := _h_gV.len
  have _h_gV := _h_gV.here (by decide)
  obtain ⟨_A_gE, _C_gE, _e1_gE⟩ := _h_gE.val
  subst _e1_gE
  have _l_gE := _h_gE.len
  have _h_gE := _h_gE.here (by decide)
  have E := Ch.refl [] w
  refine Ctr_of_W (N := 64) (vs0 := [(.agg #[(.slice _A_gV gV.length _C_gV), (.slice _A_gE gE.length _C_gE)])]) Try.func130 rfl rfl rfl ?_
  refine W_seq fun _K_1 _hK_1 => ?_
  refine W_region ?_
  refine WL_s rfl rfl ?_
  refine s_box rfl fun _b1 _w_2 _m1 _cw_2 _e1 => ?_
  have _cw_2z := _cw_2.size
  have E := E.trans _cw_2
  have _z1 := _m1.lt
  replace _m1 : Blk _w_2 _b1 42 [(.slice _A_gV gV.length _C_gV), (.slice _A_gE gE.length _C_gE)] := _m1
  refine WL_step rfl rfl (r_assign rfl) ?_
  refine WL_nil ?_
  refine thn_nrm (_hK_1 _ _ ?_)
  clear _hK_1
  refine W_seq fun _K_3 _hK_3 => ?_
  refine W_seq fun _K_4 _hK_4 => ?_
  refine W_region ?_
  refine WL_step rfl rfl (r_assign rfl) ?_
  refine WL_nil ?_
  refine thn_nrm (_hK_4 _ _ ?_)
  clear _hK_4
  refine W_block ?_
  refine W_loop (σ := Nat) (fun (k : Nat) => [(1, (.pointer (some ⟨_b1, 0, none⟩))), (3, (.int .i64 ((k : Nat) : Int)))]) (fun (k : Nat) wx => Ch [] w wx ∧ _w_2.heap.size ≤ wx.heap.size ∧ (k ≤ gV.length) ∧ (ValsP gV k) ∧ Blk wx _b1 42 [(.slice _A_gV gV.length _C_gV), (.slice _A_gE gE.length _C_gE)]) (fun (k : Nat) => gV.length - k) 0 (Sub.cons rfl (Sub.cons rfl (Sub.nil _))) ⟨E, (Nat.le_refl _), (by omega), (vals_zero _), _m1⟩ ?_
  rintro k _wr_5 ⟨E, _zz0, _hk, hv, _F0_0⟩
  have _E0h := E
  have _E0hz := _E0h.size
  have _F0_0z := _F0_0.lt
  refine W_seq fun _K_6 _hK_6 => ?_
  refine W_seq fun _K_7 _hK_7 => ?_
  refine W_region ?_
  refine WL_step rfl rfl (r_move rfl) ?_
  refine WL_step rfl rfl (r_fieldAddr fa42_0 rfl) ?_
  refine WL_step rfl rfl (r_loadAt _F0_0.at_ agg33 rfl rfl) ?_
  refine WL_step rfl rfl (r_len (by rw [el33]; rfl) rfl) ?_
  refine WL_step rfl rfl (r_lss rfl rfl) ?_
  refine WL_nil ?_
  refine thn_nrm (_hK_7 _ _ ?_)
  clear _hK_7
  refine W_cond rfl (fun _h9 => ?_) (fun _h9 => ?_)
  · have _kb_8 := _h9
    have _h9 := bt_d _h9
    refine W_skip ?_
    refine thn_nrm (_hK_6 _ _ ?_)
    clear _hK_6
    refine W_seq fun _K_9 _hK_9 => ?_
    refine W_block ?_
    refine W_seq fun _K_10 _hK_10 => ?_
    refine W_region ?_
    refine WL_step rfl rfl (r_fieldAddr fa42_0 rfl) ?_
    refine WL_step rfl rfl (r_loadAt _F0_0.at_ agg33 rfl rfl) ?_
    refine WL_step rfl rfl (r_move rfl) ?_
    refine WL_s rfl rfl ?_
    have _f_11 := (_h_gV.ch0 _E0h)
    refine (s_index _f_11 ics_len el33 sz3 rfl rfl rfl (by omega) fun _p15 _y15 _hy15 _a15 => ?_)
    refine WL_step rfl rfl (r_loadAt0 _a15 agg3 rfl rfl) ?_
    refine WL_s rfl rfl ?_
    refine Step.call (r_call (xs := [.tmp 16, .const (Go.Value.int Go.IntKind.i64 0), .const (Go.Value.int Go.IntKind.i64 2)]) fk93 rfl) (c_spec_l1In _ _ _ ) fun _v17 _w_12 _q17 => ?_
    obtain ⟨rfl, _cw_12⟩ := _q17
    have _cw_12z := _cw_12.size
    have E := E.trans _cw_12
    refine WL_step rfl rfl (r_not rfl) ?_
    refine WL_nil ?_
    refine thn_nrm (_hK_10 _ _ ?_)
    clear _hK_10
    refine W_cond rfl (fun _h18 => ?_) (fun _h18 => ?_)
    · have _kb_13 := _h18
      have _h18 := bf_d (bt_n _h18)
      refine W_seq fun _K_14 _hK_14 => ?_
      refine W_region ?_
      refine WL_step rfl rfl (r_assign rfl) ?_
      refine WL_nil ?_
      refine thn_nrm (_hK_14 _ _ ?_)
      clear _hK_14
      refine W_ret (inB_ret (thn_ret (thn_ret (inB_ret (thn_ret ?_)))))
      clear _hK_3 _hK_9
      exact ret_intro [_] ⟨rfl, trivial⟩ ⟨congrArg Value.bool (by first | exact tt_false (fun q => _h18 (vals_val q _hy15)) | exact tt_false (fun q => _h34 (edge_val q _hy30)) | exact tt_false (fun q => by have _e2 := gedge_lt2 q _hy48 _hy42 (by omega); omega) | exact vg_y hv (by omega) hE (by omega) (by omega) | exact tt_false (fun q => by have _e2 := q.2.2.1; omega)), E⟩
    · have _kb_13 := _h18
      have _h18 := bt_d (bf_n _h18)
      refine W_skip ?_
      refine inB_nrm ?_
      refine thn_nrm (_hK_9 _ _ ?_)
      clear _hK_9
      refine W_region ?_
      refine WL_step rfl rfl (r_move rfl) ?_
      refine WL_step rfl rfl (r_add (by omega) rfl rfl) ?_
      refine WL_step rfl rfl (r_assign rfl) ?_
      refine WL_nil ?_
      have _f_15 := (_F0_0.ch0 _cw_12)
      exact thn_nrm (Exists.intro (k + 1) ⟨⟨E, (by omega), (by omega), (vals_step hv _hy15 _h18), _f_15⟩, Sub.cons rfl (Sub.cons rfl (Sub.nil _)), (by first | omega | (dsimp only; omega))⟩)
  · have _kb_8 := _h9
    have _h9 := bf_d _h9
    refine W_exit (thn_exit (thn_exit (inB_hit ?_)))
    refine thn_nrm (_hK_3 _ _ ?_)
    clear _hK_3
    refine W_seq fun _K_16 _hK_16 => ?_
    refine W_seq fun _K_17 _hK_17 => ?_
    refine W_region ?_
    refine WL_step rfl rfl (r_assign rfl) ?_
    refine WL_nil ?_
    refine thn_nrm (_hK_17 _ _ ?_)
    clear _hK_17
    refine W_block ?_
    refine W_loop (σ := Nat) (fun (q : Nat) => [(1, (.pointer (some ⟨_b1, 0, none⟩))), (4, (.int .i64 ((q : Nat) : Int)))]) (fun (q : Nat) wx => Ch [] w wx ∧ _wr_5.heap.size ≤ wx.heap.size ∧ (q ≤ gE.length) ∧ (EdgesP ((gV.length : Int) - 1) gE q) ∧ Blk wx _b1 42 [(.slice _A_gV gV.length _C_gV), (.slice _A_gE gE.length _C_gE)]) (fun (q : Nat) => gE.length - q) 0 (Sub.cons rfl (Sub.cons rfl (Sub.nil _))) ⟨E, (Nat.le_refl _), (by omega), (edges_zero _ _), _F0_0⟩ ?_
    rintro q _wr_18 ⟨E, _zz1, hq, hE, _F1_0⟩
    have _E1h := E
    have _E1hz := _E1h.size
    have _F1_0z := _F1_0.lt
    refine W_seq fun _K_19 _hK_19 => ?_
    refine W_seq fun _K_20 _hK_20 => ?_
    refine W_region ?_
    refine WL_step rfl rfl (r_move rfl) ?_
    refine WL_step rfl rfl (r_fieldAddr fa42_1 rfl) ?_
    refine WL_step rfl rfl (r_loadAt _F1_0.at_ agg40 rfl rfl) ?_
    refine WL_step rfl rfl (r_len (by rw [el40]; rfl) rfl) ?_
    refine WL_step rfl rfl (r_lss rfl rfl) ?_
    refine WL_nil ?_
    refine thn_nrm (_hK_20 _ _ ?_)
    clear _hK_20
    refine W_cond rfl (fun _h23 => ?_) (fun _h23 => ?_)
    · have _kb_21 := _h23
      have _h23 := bt_d _h23
      refine W_skip ?_
      refine thn_nrm (_hK_19 _ _ ?_)
      clear _hK_19
      refine W_seq fun _K_22 _hK_22 => ?_
      refine W_block ?_
      refine W_seq fun _K_23 _hK_23 => ?_
      refine W_drawC [] 28 mixed rfl fun _w_24 _cw_24 => ?_
      have _cw_24z := _cw_24.size
      have E := E.trans _cw_24
      have _f_25 := (_F1_0.ch0 _cw_24)
      refine DR_s 0 rfl (by kernel_rfl) rfl rfl (t_loadAtA0 _f_25.at_ (fun i hi => absurd hi List.not_mem_nil) agg42 sz42 rfl ?_)
      refine DR_s 1 rfl (by kernel_rfl) rfl rfl (t_v (fun _ => (r_fieldAddr fa42_1 rfl)) ?_)
      refine DR_s 2 rfl (by kernel_rfl) rfl rfl (t_loadAt _f_25.at_ (fun i hi => absurd hi List.not_mem_nil) agg40 rfl rfl ?_)
      refine DR_s 3 rfl (by kernel_rfl) rfl rfl (t_v (fun _ => (r_move rfl)) ?_)
      have _f_26 := ((_h_gE.ch0 _E1h).ch0 _cw_24)
      refine DR_s 4 rfl (by kernel_rfl) rfl rfl (t_index _f_26 GEdge.len el40 sz164 rfl rfl rfl (by omega) fun _p30 _y30 _hy30 _a30 => ?_)
      refine DR_s 5 rfl (by kernel_rfl) rfl rfl (t_loadAtA0 _a30 (fun i hi => absurd hi List.not_mem_nil) agg164 sz164 rfl ?_)
      refine DR_one 6 (by kernel_rfl) ?_
      refine DO_s rfl rfl rfl ?_
      have _f_27 := ((_h_gV.ch0 _E1h).ch0 _cw_24)
      refine Step.call (r_call (xs := [.tmp 26, .tmp 31]) fk172 rfl) (c_spec_l3Edge _f_27 _f_26 _y30 ) fun _v32 _w_28 _q32 => ?_
      obtain ⟨rfl, _cw_28⟩ := _q32
      have _cw_28z := _cw_28.size
      have E := E.trans _cw_28
      have _S_29 : Ch [] _w_24 _w_28 := ((Ch.refl _ _).trans _cw_28)
      refine ⟨_S_29, ?_⟩
      refine DR_s 7 rfl (by kernel_rfl) rfl rfl (t_v (fun _ => (r_not rfl)) ?_)
      refine DR_s 8 rfl (by kernel_rfl) rfl rfl (t_v (fun _ => (r_move rfl)) ?_)
      refine DR_split (d := 34) rfl (fun _h34 => ?_) (fun _h34 => ?_)
      · have _kb_30 := _h34
        have _h34 := bf_t (bt_n _h34)
        refine DR_skip 9 rfl (by kernel_rfl) rfl rfl ?_
        refine DR_skip 10 rfl (by kernel_rfl) rfl rfl ?_
        refine DR_skip 11 rfl (by kernel_rfl) rfl rfl ?_
        refine DR_skip 12 rfl (by kernel_rfl) rfl rfl ?_
        refine DR_skip 13 rfl (by kernel_rfl) rfl rfl ?_
        refine DR_skip 14 rfl (by kernel_rfl) rfl rfl ?_
        refine DR_skip 15 rfl (by kernel_rfl) rfl rfl ?_
        refine DR_skip 16 rfl (by kernel_rfl) rfl rfl ?_
        refine DR_skip 17 rfl (by kernel_rfl) rfl rfl ?_
        refine DR_skip 18 rfl (by kernel_rfl) rfl rfl ?_
        refine DR_skip 19 rfl (by kernel_rfl) rfl rfl ?_
        refine DR_skip 20 rfl (by kernel_rfl) rfl rfl ?_
        refine DR_skip 21 rfl (by kernel_rfl) rfl rfl ?_
        refine DR_skip 22 rfl (by kernel_rfl) rfl rfl ?_
        refine DR_skip 23 rfl (by kernel_rfl) rfl rfl ?_
        refine DR_skip 24 rfl (by kernel_rfl) rfl rfl ?_
        refine DR_skip 25 rfl (by kernel_rfl) rfl rfl ?_
        refine DR_skip 26 rfl (by kernel_rfl) rfl rfl ?_
        refine DR_s 27 rfl (by kernel_rfl) rfl rfl (t_v (fun _ => (r_pickT rfl rfl)) ?_)
        refine DR_done (by kernel_rfl) ?_
        refine thn_nrm (_hK_23 _ _ ?_)
        clear _hK_23
        refine W_condT rfl ?_
        refine W_seq fun _K_31 _hK_31 => ?_
        refine W_region ?_
        refine WL_step rfl rfl (r_assign rfl) ?_
        refine WL_nil ?_
        refine thn_nrm (_hK_31 _ _ ?_)
        clear _hK_31
        refine W_ret (inB_ret (thn_ret (thn_ret (inB_ret (thn_ret ?_)))))
        clear _hK_6 _hK_16 _hK_22
        exact ret_intro [_] ⟨rfl, trivial⟩ ⟨congrArg Value.bool (by first | exact tt_false (fun q => _h18 (vals_val q _hy15)) | exact tt_false (fun q => _h34 (edge_val q _hy30)) | exact tt_false (fun q => by have _e2 := gedge_lt2 q _hy48 _hy42 (by omega); omega) | exact vg_y hv (by omega) hE (by omega) (by omega) | exact tt_false (fun q => by have _e2 := q.2.2.1; omega)), E⟩
      · have _kb_30 := _h34
        have _h34 := bt_t (bf_n _h34)
        refine DR_s 9 rfl (by kernel_rfl) rfl rfl (t_v (fun _ => (r_move rfl)) ?_)
        refine DR_s 10 rfl (by kernel_rfl) rfl rfl (t_v (fun _ => (r_gtr rfl rfl)) ?_)
        refine DR_s 11 rfl (by kernel_rfl) rfl rfl (t_v (fun _ => (r_move rfl)) ?_)
        refine DR_split (d := 37) rfl (fun _h37 => ?_) (fun _h37 => ?_)
        · have _kb_32 := _h37
          have _h37 := bt_d _h37
          refine DR_s 12 rfl (by kernel_rfl) rfl rfl (t_v (fun _ => (r_fieldAddr fa42_1 rfl)) ?_)
          refine DR_s 13 rfl (by kernel_rfl) rfl rfl (t_loadAt _f_25.at_ (fun i hi => absurd hi List.not_mem_nil) agg40 rfl rfl ?_)
          refine DR_s 14 rfl (by kernel_rfl) rfl rfl (t_v (fun _ => (r_move rfl)) ?_)
          refine DR_s 15 rfl (by kernel_rfl) rfl rfl (t_v (fun _ => (r_sub (by omega) rfl rfl)) ?_)
          refine DR_s 16 rfl (by kernel_rfl) rfl rfl (t_index (j := (((q : Nat) : Int) - 1).toNat) _f_26 GEdge.len el40 sz164 rfl rfl (by omega) (by omega) fun _p42 _y42 _hy42 _a42 => ?_)
          refine DR_s 17 rfl (by kernel_rfl) rfl rfl (t_v (fun _ => (r_fieldAddr fa164_0 rfl)) ?_)
          refine DR_s 18 rfl (by kernel_rfl) rfl rfl (t_loadAt _a42 (fun i hi => absurd hi List.not_mem_nil) agg3 rfl rfl ?_)
          refine DR_s 19 rfl (by kernel_rfl) rfl rfl (t_v (fun _ => (r_fieldAddr fa42_1 rfl)) ?_)
          refine DR_s 20 rfl (by kernel_rfl) rfl rfl (t_loadAt _f_25.at_ (fun i hi => absurd hi List.not_mem_nil) agg40 rfl rfl ?_)
          refine DR_s 21 rfl (by kernel_rfl) rfl rfl (t_v (fun _ => (r_move rfl)) ?_)
          refine DR_s 22 rfl (by kernel_rfl) rfl rfl (t_index _f_26 GEdge.len el40 sz164 rfl rfl rfl (by omega) fun _p48 _y48 _hy48 _a48 => ?_)
          refine DR_s 23 rfl (by kernel_rfl) rfl rfl (t_v (fun _ => (r_fieldAddr fa164_0 rfl)) ?_)
          refine DR_s 24 rfl (by kernel_rfl) rfl rfl (t_loadAt _a48 (fun i hi => absurd hi List.not_mem_nil) agg3 rfl rfl ?_)
          refine DR_s 25 rfl (by kernel_rfl) rfl rfl (t_v (fun _ => (r_geq rfl rfl)) ?_)
          refine DR_s 26 rfl (by kernel_rfl) rfl rfl (t_v (fun _ => (r_pickT rfl rfl)) ?_)
          refine DR_s 27 rfl (by kernel_rfl) rfl rfl (t_v (fun _ => (r_pickF rfl rfl)) ?_)
          refine DR_done (by kernel_rfl) ?_
          refine thn_nrm (_hK_23 _ _ ?_)
          clear _hK_23
          refine W_cond rfl (fun _h53 => ?_) (fun _h53 => ?_)
          · have _kb_33 := _h53
            have _h53 := bt_d _h53
            refine W_seq fun _K_34 _hK_34 => ?_
            refine W_region ?_
            refine WL_step rfl rfl (r_assign rfl) ?_
            refine WL_nil ?_
            refine thn_nrm (_hK_34 _ _ ?_)
            clear _hK_34
            refine W_ret (inB_ret (thn_ret (thn_ret (inB_ret (thn_ret ?_)))))
            clear _hK_6 _hK_16 _hK_22
            exact ret_intro [_] ⟨rfl, trivial⟩ ⟨congrArg Value.bool (by first | exact tt_false (fun q => _h18 (vals_val q _hy15)) | exact tt_false (fun q => _h34 (edge_val q _hy30)) | exact tt_false (fun q => by have _e2 := gedge_lt2 q _hy48 _hy42 (by omega); omega) | exact vg_y hv (by omega) hE (by omega) (by omega) | exact tt_false (fun q => by have _e2 := q.2.2.1; omega)), E⟩
          · have _kb_33 := _h53
            have _h53 := bf_d _h53
            refine W_skip ?_
            refine inB_nrm ?_
            refine thn_nrm (_hK_22 _ _ ?_)
            clear _hK_22
            refine W_region ?_
            refine WL_step rfl rfl (r_move rfl) ?_
            refine WL_step rfl rfl (r_add (by omega) rfl rfl) ?_
            refine WL_step rfl rfl (r_assign rfl) ?_
            refine WL_nil ?_
            have _f_35 := (_f_25.ch0 _cw_28)
            exact thn_nrm (Exists.intro (q + 1) ⟨⟨E, (by omega), (by omega), (by first | exact edges_step0 hE _hy30 _h34 (by omega) | (have _u9 := get_uniq _hy30 _hy48; exact edges_stepj hE _hy30 _h34 _hy42 (by omega) (by first | omega | (rw [_u9]; omega)))), _f_35⟩, Sub.cons rfl (Sub.cons rfl (Sub.nil _)), (by first | omega | (dsimp only; omega))⟩)
        · have _kb_32 := _h37
          have _h37 := bf_d _h37
          refine DR_skip 12 rfl (by kernel_rfl) rfl rfl ?_
          refine DR_skip 13 rfl (by kernel_rfl) rfl rfl ?_
          refine DR_skip 14 rfl (by kernel_rfl) rfl rfl ?_
          refine DR_skip 15 rfl (by kernel_rfl) rfl rfl ?_
          refine DR_skip 16 rfl (by kernel_rfl) rfl rfl ?_
          refine DR_skip 17 rfl (by kernel_rfl) rfl rfl ?_
          refine DR_skip 18 rfl (by kernel_rfl) rfl rfl ?_
          refine DR_skip 19 rfl (by kernel_rfl) rfl rfl ?_
          refine DR_skip 20 rfl (by kernel_rfl) rfl rfl ?_
          refine DR_skip 21 rfl (by kernel_rfl) rfl rfl ?_
          refine DR_skip 22 rfl (by kernel_rfl) rfl rfl ?_
          refine DR_skip 23 rfl (by kernel_rfl) rfl rfl ?_
          refine DR_skip 24 rfl (by kernel_rfl) rfl rfl ?_
          refine DR_skip 25 rfl (by kernel_rfl) rfl rfl ?_
          refine DR_s 26 rfl (by kernel_rfl) rfl rfl (t_v (fun _ => (r_pickF rfl rfl)) ?_)
          refine DR_s 27 rfl (by kernel_rfl) rfl rfl (t_v (fun _ => (r_pickF rfl rfl)) ?_)
          refine DR_done (by kernel_rfl) ?_
          refine thn_nrm (_hK_23 _ _ ?_)
          clear _hK_23
          refine W_condF rfl ?_
          refine W_skip ?_
          refine inB_nrm ?_
          refine thn_nrm (_hK_22 _ _ ?_)
          clear _hK_22
          refine W_region ?_
          refine WL_step rfl rfl (r_move rfl) ?_
          refine WL_step rfl rfl (r_add (by omega) rfl rfl) ?_
          refine WL_step rfl rfl (r_assign rfl) ?_
          refine WL_nil ?_
          have _f_36 := (_f_25.ch0 _cw_28)
          exact thn_nrm (Exists.intro (q + 1) ⟨⟨E, (by omega), (by omega), (by first | exact edges_step0 hE _hy30 _h34 (by omega) | (have _u9 := get_uniq _hy30 _hy48; exact edges_stepj hE _hy30 _h34 _hy42 (by omega) (by first | omega | (rw [_u9]; omega)))), _f_36⟩, Sub.cons rfl (Sub.cons rfl (Sub.nil _)), (by first | omega | (dsimp only; omega))⟩)
    · have _kb_21 := _h23
      have _h23 := bf_d _h23
      refine W_exit (thn_exit (thn_exit (inB_hit ?_)))
      refine thn_nrm (_hK_16 _ _ ?_)
      clear _hK_16
      refine W_seq fun _K_37 _hK_37 => ?_
      refine W_region ?_
      refine WL_step rfl rfl (r_fieldAddr fa42_0 rfl) ?_
      refine WL_step rfl rfl (r_loadAt _F1_0.at_ agg33 rfl rfl) ?_
      refine WL_step rfl rfl (r_len (by rw [el33]; rfl) rfl) ?_
      refine WL_s rfl rfl ?_
      refine Step.call (r_call (xs := [.tmp 56, .const (Go.Value.int Go.IntKind.i64 1), .const (Go.Value.int Go.IntKind.i64 5)]) fk93 rfl) (c_spec_l1In _ _ _ ) fun _v57 _w_38 _q57 => ?_
      obtain ⟨rfl, _cw_38⟩ := _q57
      have _cw_38z := _cw_38.size
      have E := E.trans _cw_38
      refine WL_step rfl rfl (r_move rfl) ?_
      refine WL_split (d := 58) rfl (fun _h58 => ?_) (fun _h58 => ?_)
      · have _kb_39 := _h58
        have _h58 := bt_d _h58
        refine WL_step rfl rfl (r_fieldAddr fa42_1 rfl) ?_
        have _f_40 := (_F1_0.ch0 _cw_38)
        refine WL_step rfl rfl (r_loadAt _f_40.at_ agg40 rfl rfl) ?_
        refine WL_step rfl rfl (r_len (by rw [el40]; rfl) rfl) ?_
        refine WL_step rfl rfl (r_leq rfl rfl) ?_
        refine WL_step rfl rfl (r_pickT rfl rfl) ?_
        refine WL_step rfl rfl (r_assign rfl) ?_
        refine WL_nil ?_
        refine thn_nrm (_hK_37 _ _ ?_)
        clear _hK_37
        refine W_ret ?_
        clear _hK_6 _hK_19
        exact ret_intro [_] ⟨rfl, trivial⟩ ⟨congrArg Value.bool (by first | exact tt_false (fun q => _h18 (vals_val q _hy15)) | exact tt_false (fun q => _h34 (edge_val q _hy30)) | exact tt_false (fun q => by have _e2 := gedge_lt2 q _hy48 _hy42 (by omega); omega) | exact vg_y hv (by omega) hE (by omega) (by omega) | exact tt_false (fun q => by have _e2 := q.2.2.1; omega)), E⟩
      · have _kb_39 := _h58
        have _h58 := bf_d _h58
        refine WL_skip rfl rfl ?_
        refine WL_skip rfl rfl ?_
        refine WL_skip rfl rfl ?_
        refine WL_skip rfl rfl ?_
        refine WL_step rfl rfl (r_pickF rfl rfl) ?_
        refine WL_step rfl rfl (r_assign rfl) ?_
        refine WL_nil ?_
        refine thn_nrm (_hK_37 _ _ ?_)
        clear _hK_37
        refine W_ret ?_
        clear _hK_6 _hK_19
        exact ret_intro [_] ⟨rfl, trivial⟩ ⟨congrArg Value.bool (by first | exact tt_false (fun q => _h18 (vals_val q _hy15)) | exact tt_false (fun q => _h34 (edge_val q _hy30)) | exact tt_false (fun q => by have _e2 := gedge_lt2 q _hy48 _hy42 (by omega); omega) | exact vg_y hv (by omega) hE (by omega) (by omega) | exact tt_false (fun q => by have _e2 := q.2.2.1; omega)), E⟩

/-- spec.l14Good -/
theorem c_spec_l14Good {w : World} {LL_gV _B_gV : Nat} {_v_gV : Value} {gV : List Int} (_h_gV : Ls ics 1 w LL_gV _B_gV _v_gV gV) {LL_gE _B_gE : Nat} {_v_gE : Value} {gE : List GEdge} (_h_gE : Ls GEdge.cs 4 w LL_gE _B_gE _v_gE gE) (aS : Int) {LL_aA _B_aA : Nat} {_v_aA : Value} {aA : List Bool} (_h_aA : Ls bcs 1 w LL_aA _B_aA _v_aA aA) {LL_saN _B_saN : Nat} {_v_saN : Value} {saN : List Sv} (_h_saN : Ls Sv.cs 1 w LL_saN _B_saN _v_saN saN) {LR_aN BB_aN : Nat} {aN : List (List Int)} (_rd_aN : Rd ics 1 w LR_aN BB_aN saN aN) (node : Int) (s : Int) :
    Ctr Try.prog 85 #[(.agg #[_v_gV, _v_gE]), (.agg #[(.int .i64 aS), _v_aA, _v_saN]), (.int .i64 node), (.int .i64 s)] w (fun v w' => v = .bool (tt (GoodP gV gE aS aA aN node s)) ∧ Ch [] w w') := by
  obtain ⟨_A_gV, _C_gV, _e1_gV⟩ := _h_gV.val
  subst _e1_gV
  have _l_gV := _h_gV.len
  have _h_gV := _h_gV.here (by decide)
  obtain ⟨_A_gE, _C_gE, _e1_gE⟩ := _h_gE.val
  subst _e1_gE
  have _l_gE := _h_gE.len
  have _h_gE := _h_gE.here (by decide)
  obtain ⟨_A_aA, _C_aA, _e1_aA⟩ := _h_aA.val
  subst _e1_aA
  have _l_aA := _h_aA.len
  have _h_aA := _h_aA.here (by decide)
  obtain ⟨_A_saN, _C_saN, _e1_saN⟩ := _h_saN.val
  subst _e1_saN
  have _l_saN := _h_saN.len
  have _h_saN := _h_saN.here (by decide)
  have _rd_aN := _rd_aN.here (by decide)
  have _rl_aN := _rd_aN.1
  have E := Ch.refl [] w
  refine Ctr_of_W (N := 31) (vs0 := [(.agg #[(.slice _A_gV gV.length _C_gV), (.slice _A_gE gE.length _C_gE)]), (.agg #[(.int .i64 aS), (.slice _A_aA aA.length _C_aA), (.slice _A_saN saN.length _C_saN)]), (.int .i64 node), (.int .i64 s)]) Try.func85 rfl rfl rfl ?_
  refine W_seq fun _K_1 _hK_1 => ?_
  refine W_region ?_
  refine WL_s rfl rfl ?_
  refine s_box rfl fun _b4 _w_2 _m4 _cw_2 _e4 => ?_
  have _cw_2z := _cw_2.size
  have E := E.trans _cw_2
  have _z4 := _m4.lt
  replace _m4 : Blk _w_2 _b4 42 [(.slice _A_gV gV.length _C_gV), (.slice _A_gE gE.length _C_gE)] := _m4
  refine WL_s rfl rfl ?_
  refine s_box rfl fun _b5 _w_3 _m5 _cw_3 _e5 => ?_
  have _cw_3z := _cw_3.size
  have E := E.trans _cw_3
  have _z5 := _m5.lt
  replace _m5 : Blk _w_3 _b5 54 [(.int .i64 aS), (.slice _A_aA aA.length _C_aA), (.slice _A_saN saN.length _C_saN)] := _m5
  refine WL_step rfl rfl (r_assign rfl) ?_
  refine WL_nil ?_
  refine thn_nrm (_hK_1 _ _ ?_)
  clear _hK_1
  refine W_seq fun _K_4 _hK_4 => ?_
  refine W_region ?_
  have _f_5 := (_m4.ch0 _cw_3)
  refine WL_step rfl rfl (r_loadAtA0 _f_5.at_ agg42 sz42 rfl) ?_
  refine WL_s rfl rfl ?_
  have _f_6 := ((_h_gV.ch0 _cw_2).ch0 _cw_3)
  have _f_7 := ((_h_gE.ch0 _cw_2).ch0 _cw_3)
  refine Step.call (r_call (xs := [.tmp 9]) fk130 rfl) (c_spec_IsValidGraph _f_6 _f_7 ) fun _v10 _w_8 _q10 => ?_
  obtain ⟨rfl, _cw_8⟩ := _q10
  have _cw_8z := _cw_8.size
  have E := E.trans _cw_8
  refine WL_step rfl rfl (r_move rfl) ?_
  refine WL_split (d := 11) rfl (fun _h11 => ?_) (fun _h11 => ?_)
  · have _kb_9 := _h11
    have _h11 := bt_t _h11
    have _f_10 := (_m5.ch0 _cw_8)
    refine WL_step rfl rfl (r_loadAtA0 _f_10.at_ agg54 sz54 rfl) ?_
    refine WL_s rfl rfl ?_
    have _f_11 := (((_h_aA.ch0 _cw_2).ch0 _cw_3).ch0 _cw_8)
    have _f_12 := (((_rd_aN.ch0 _cw_2).ch0 _cw_3).ch0 _cw_8)
    have _f_13 := (((_h_saN.ch0 _cw_2).ch0 _cw_3).ch0 _cw_8)
    refine Step.call (r_call (xs := [.tmp 12]) fk137 rfl) (c_spec_IsValidAutomaton _ _f_11 _f_13 _f_12 ) fun _v13 _w_14 _q13 => ?_
    obtain ⟨rfl, _cw_14⟩ := _q13
    have _cw_14z := _cw_14.size
    have E := E.trans _cw_14
    refine WL_step rfl rfl (r_pickT rfl rfl) ?_
    refine WL_step rfl rfl (r_move rfl) ?_
    refine WL_split (d := 15) rfl (fun _h15 => ?_) (fun _h15 => ?_)
    · have _kb_15 := _h15
      have _h15 := bt_t _h15
      refine WL_step rfl rfl (r_move rfl) ?_
      refine WL_step rfl rfl (r_fieldAddr fa42_0 rfl) ?_
      have _f_16 := ((_f_5.ch0 _cw_8).ch0 _cw_14)
      refine WL_step rfl rfl (r_loadAt _f_16.at_ agg33 rfl rfl) ?_
      refine WL_step rfl rfl (r_len (by rw [el33]; rfl) rfl) ?_
      refine WL_step rfl rfl (r_sub (by omega) rfl rfl) ?_
      refine WL_s rfl rfl ?_
      refine Step.call (r_call (xs := [.tmp 16, .const (Go.Value.int Go.IntKind.i64 0), .tmp 20]) fk93 rfl) (c_spec_l1In _ _ _ ) fun _v21 _w_17 _q21 => ?_
      obtain ⟨rfl, _cw_17⟩ := _q21
      have _cw_17z := _cw_17.size
      have E := E.trans _cw_17
      refine WL_step rfl rfl (r_pickT rfl rfl) ?_
      refine WL_step rfl rfl (r_move rfl) ?_
      refine WL_split (d := 23) rfl (fun _h23 => ?_) (fun _h23 => ?_)
      · have _kb_18 := _h23
        have _h23 := bt_d _h23
        refine WL_step rfl rfl (r_move rfl) ?_
        refine WL_step rfl rfl (r_fieldAddr fa54_1 rfl) ?_
        have _f_19 := ((_f_10.ch0 _cw_14).ch0 _cw_17)
        refine WL_step rfl rfl (r_loadAt _f_19.at_ agg48 rfl rfl) ?_
        refine WL_step rfl rfl (r_len (by rw [el48]; rfl) rfl) ?_
        refine WL_step rfl rfl (r_sub (by omega) rfl rfl) ?_
        refine WL_s rfl rfl ?_
        refine Step.call (r_call (xs := [.tmp 24, .const (Go.Value.int Go.IntKind.i64 0), .tmp 28]) fk93 rfl) (c_spec_l1In _ _ _ ) fun _v29 _w_20 _q29 => ?_
        obtain ⟨rfl, _cw_20⟩ := _q29
        have _cw_20z := _cw_20.size
        have E := E.trans _cw_20
        refine WL_step rfl rfl (r_pickT rfl rfl) ?_
        refine WL_step rfl rfl (r_assign rfl) ?_
        refine WL_nil ?_
        refine thn_nrm (_hK_4 _ _ ?_)
        clear _hK_4
        refine W_ret ?_
        exact ret_intro [_] ⟨rfl, trivial⟩ ⟨congrArg Value.bool (by first | exact good_y _h11 _h15 _h23 | exact tt_false (fun q => _h11 q.1) | exact tt_false (fun q => _h15 q.2.1) | exact tt_false (fun q => _h23 q.2.2.1)), E⟩
      · have _kb_18 := _h23
        have _h23 := bf_d _h23
        refine WL_skip rfl rfl ?_
        refine WL_skip rfl rfl ?_
        refine WL_skip rfl rfl ?_
        refine WL_skip rfl rfl ?_
        refine WL_skip rfl rfl ?_
        refine WL_skip rfl rfl ?_
        refine WL_step rfl rfl (r_pickF rfl rfl) ?_
        refine WL_step rfl rfl (r_assign rfl) ?_
        refine WL_nil ?_
        refine thn_nrm (_hK_4 _ _ ?_)
        clear _hK_4
        refine W_ret ?_
        exact ret_intro [_] ⟨rfl, trivial⟩ ⟨congrArg Value.bool (by first | exact good_y _h11 _h15 _h23 | exact tt_false (fun q => _h11 q.1) | exact tt_false (fun q => _h15 q.2.1) | exact tt_false (fun q => _h23 q.2.2.1)), E⟩
    · have _kb_15 := _h15
      have _h15 := bf_t _h15
      refine WL_skip rfl rfl ?_
      refine WL_skip rfl rfl ?_
      refine WL_skip rfl rfl ?_
      refine WL_skip rfl rfl ?_
      refine WL_skip rfl rfl ?_
      refine WL_skip rfl rfl ?_
      refine WL_step rfl rfl (r_pickF rfl rfl) ?_
      refine WL_step rfl rfl (r_move rfl) ?_
      refine WL_skip rfl rfl ?_
      refine WL_skip rfl rfl ?_
      refine WL_skip rfl rfl ?_
      refine WL_skip rfl rfl ?_
      refine WL_skip rfl rfl ?_
      refine WL_skip rfl rfl ?_
      refine WL_step rfl rfl (r_pickF rfl rfl) ?_
      refine WL_step rfl rfl (r_assign rfl) ?_
      refine WL_nil ?_
      refine thn_nrm (_hK_4 _ _ ?_)
      clear _hK_4
      refine W_ret ?_
      exact ret_intro [_] ⟨rfl, trivial⟩ ⟨congrArg Value.bool (by first | exact good_y _h11 _h15 _h23 | exact tt_false (fun q => _h11 q.1) | exact tt_false (fun q => _h15 q.2.1) | exact tt_false (fun q => _h23 q.2.2.1)), E⟩
  · have _kb_9 := _h11
    have _h11 := bf_t _h11
    refine WL_skip rfl rfl ?_
    refine WL_skip rfl rfl ?_
    refine WL_step rfl rfl (r_pickF rfl rfl) ?_
    refine WL_step rfl rfl (r_move rfl) ?_
    refine WL_skip rfl rfl ?_
    refine WL_skip rfl rfl ?_
    refine WL_skip rfl rfl ?_
    refine WL_skip rfl rfl ?_
    refine WL_skip rfl rfl ?_
    refine WL_skip rfl rfl ?_
    refine WL_step rfl rfl (r_pickF rfl rfl) ?_
    refine WL_step rfl rfl (r_move rfl) ?_
    refine WL_skip rfl rfl ?_
    refine WL_skip rfl rfl ?_
    refine WL_skip rfl rfl ?_
    refine WL_skip rfl rfl ?_
    refine WL_skip rfl rfl ?_
    refine WL_skip rfl rfl ?_
    refine WL_step rfl rfl (r_pickF rfl rfl) ?_
    refine WL_step rfl rfl (r_assign rfl) ?_
    refine WL_nil ?_
    refine thn_nrm (_hK_4 _ _ ?_)
    clear _hK_4
    refine W_ret ?_
    exact ret_intro [_] ⟨rfl, trivial⟩ ⟨congrArg Value.bool (by first | exact good_y _h11 _h15 _h23 | exact tt_false (fun q => _h11 q.1) | exact tt_false (fun q => _h15 q.2.1) | exact tt_false (fun q => _h23 q.2.2.1)), E⟩

/-- spec.AcceptsAt -/
theorem c_spec_AcceptsAt {w : World} {LL_gV _B_gV : Nat} {_v_gV : Value} {gV : List Int} (_h_gV : Ls ics 1 w LL_gV _B_gV _v_gV gV) {LL_gE _B_gE : Nat} {_v_gE : Value} {gE : List GEdge} (_h_gE : Ls GEdge.cs 4 w LL_gE _B_gE _v_gE gE) (aS : Int) {LL_aA _B_aA : Nat} {_v_aA : Value} {aA : List Bool} (_h_aA : Ls bcs 1 w LL_aA _B_aA _v_aA aA) {LL_saN _B_saN : Nat} {_v_saN : Value} {saN : List Sv} (_h_saN : Ls Sv.cs 1 w LL_saN _B_saN _v_saN saN) {LR_aN BB_aN : Nat} {aN : List (List Int)} (_rd_aN : Rd ics 1 w LR_aN BB_aN saN aN) (node : Int) (s : Int) :
    Ctr Try.prog 27 #[(.agg #[_v_gV, _v_gE]), (.agg #[(.int .i64 aS), _v_aA, _v_saN]), (.int .i64 node), (.int .i64 s)] w (fun v w' => v = .bool (atR gV gE aS aA aN node s) ∧ Ch [] w w') := by
  obtain ⟨_A_gV, _C_gV, _e1_gV⟩ := _h_gV.val
  subst _e1_gV
  have _l_gV := _h_gV.len
  have _h_gV := _h_gV.here (by decide)
  obtain ⟨_A_gE, _C_gE, _e1_gE⟩ := _h_gE.val
  subst _e1_gE
  have _l_gE := _h_gE.len
  have _h_gE := _h_gE.here (by decide)
  obtain ⟨_A_aA, _C_aA, _e1_aA⟩ := _h_aA.val
  subst _e1_aA
  have _l_aA := _h_aA.len
  have _h_aA := _h_aA.here (by decide)
  obtain ⟨_A_saN, _C_saN, _e1_saN⟩ := _h_saN.val
  subst _e1_saN
  have _l_saN := _h_saN.len
  have _h_saN := _h_saN.here (by decide)
  have _rd_aN := _rd_aN.here (by decide)
  have _rl_aN := _rd_aN.1
  have E := Ch.refl [] w
  refine Ctr_of_W (N := 21) (vs0 := [(.agg #[(.slice _A_gV gV.length _C_gV), (.slice _A_gE gE.length _C_gE)]), (.agg #[(.int .i64 aS), (.slice _A_aA aA.length _C_aA), (.slice _A_saN saN.length _C_saN)]), (.int .i64 node), (.int .i64 s)]) Try.func27 rfl rfl rfl ?_
  refine W_seq fun _K_1 _hK_1 => ?_
  refine W_region ?_
  refine WL_s rfl rfl ?_
  refine s_box rfl fun _b4 _w_2 _m4 _cw_2 _e4 => ?_
  have _cw_2z := _cw_2.size
  have E := E.trans _cw_2
  have _z4 := _m4.lt
  replace _m4 : Blk _w_2 _b4 42 [(.slice _A_gV gV.length _C_gV), (.slice _A_gE gE.length _C_gE)] := _m4
  refine WL_s rfl rfl ?_
  refine s_box rfl fun _b5 _w_3 _m5 _cw_3 _e5 => ?_
  have _cw_3z := _cw_3.size
  have E := E.trans _cw_3
  have _z5 := _m5.lt
  replace _m5 : Blk _w_3 _b5 54 [(.int .i64 aS), (.slice _A_aA aA.length _C_aA), (.slice _A_saN saN.length _C_saN)] := _m5
  refine WL_step rfl rfl (r_assign rfl) ?_
  refine WL_nil ?_
  refine thn_nrm (_hK_1 _ _ ?_)
  clear _hK_1
  refine W_seq fun _K_4 _hK_4 => ?_
  refine W_region ?_
  have _f_5 := (_m4.ch0 _cw_3)
  refine WL_step rfl rfl (r_loadAtA0 _f_5.at_ agg42 sz42 rfl) ?_
  refine WL_step rfl rfl (r_loadAtA0 _m5.at_ agg54 sz54 rfl) ?_
  refine WL_step rfl rfl (r_move rfl) ?_
  refine WL_step rfl rfl (r_move rfl) ?_
  refine WL_s rfl rfl ?_
  have _f_6 := ((_h_gV.ch0 _cw_2).ch0 _cw_3)
  have _f_7 := ((_h_gE.ch0 _cw_2).ch0 _cw_3)
  have _f_8 := ((_h_aA.ch0 _cw_2).ch0 _cw_3)
  have _f_9 := ((_rd_aN.ch0 _cw_2).ch0 _cw_3)
  have _f_10 := ((_h_saN.ch0 _cw_2).ch0 _cw_3)
  refine Step.call (r_call (xs := [.tmp 9, .tmp 10, .tmp 11, .tmp 12]) fk85 rfl) (c_spec_l14Good _f_6 _f_7 _ _f_8 _f_10 _f_9 _ _ ) fun _v13 _w_11 _q13 => ?_
  obtain ⟨rfl, _cw_11⟩ := _q13
  have _cw_11z := _cw_11.size
  have E := E.trans _cw_11
  refine WL_step rfl rfl (r_move rfl) ?_
  refine WL_split (d := 14) rfl (fun _h14 => ?_) (fun _h14 => ?_)
  · have _kb_12 := _h14
    have _h14 := bt_t _h14
    have _f_13 := (_f_5.ch0 _cw_11)
    refine WL_step rfl rfl (r_loadAtA0 _f_13.at_ agg42 sz42 rfl) ?_
    have _f_14 := (_m5.ch0 _cw_11)
    refine WL_step rfl rfl (r_loadAtA0 _f_14.at_ agg54 sz54 rfl) ?_
    refine WL_step rfl rfl (r_move rfl) ?_
    refine WL_step rfl rfl (r_move rfl) ?_
    refine WL_s rfl rfl ?_
    have _f_15 := (_f_6.ch0 _cw_11)
    have _f_16 := (_f_7.ch0 _cw_11)
    have _f_17 := (_f_8.ch0 _cw_11)
    have _f_18 := (_f_9.ch0 _cw_11)
    have _f_19 := (_f_10.ch0 _cw_11)
    refine Step.call (r_call (xs := [.tmp 15, .tmp 16, .tmp 17, .tmp 18]) fk86 rfl) (c_spec_l14Accepts _f_15 _f_16 _ _f_17 _f_19 _f_18 _ _ _h14) fun _v19 _w_20 _q19 => ?_
    obtain ⟨rfl, _cw_20⟩ := _q19
    have _cw_20z := _cw_20.size
    have E := E.trans _cw_20
    refine WL_step rfl rfl (r_pickT rfl rfl) ?_
    refine WL_step rfl rfl (r_assign rfl) ?_
    refine WL_nil ?_
    refine thn_nrm (_hK_4 _ _ ?_)
    clear _hK_4
    refine W_ret ?_
    exact ret_intro [_] ⟨rfl, trivial⟩ ⟨congrArg Value.bool (by first | exact atR_y _h14 | exact atR_n _h14), E⟩
  · have _kb_12 := _h14
    have _h14 := bf_t _h14
    refine WL_skip rfl rfl ?_
    refine WL_skip rfl rfl ?_
    refine WL_skip rfl rfl ?_
    refine WL_skip rfl rfl ?_
    refine WL_skip rfl rfl ?_
    refine WL_step rfl rfl (r_pickF rfl rfl) ?_
    refine WL_step rfl rfl (r_assign rfl) ?_
    refine WL_nil ?_
    refine thn_nrm (_hK_4 _ _ ?_)
    clear _hK_4
    refine W_ret ?_
    exact ret_intro [_] ⟨rfl, trivial⟩ ⟨congrArg Value.bool (by first | exact atR_y _h14 | exact atR_n _h14), E⟩

/-- laws.FnExactAcceptsAt -/
theorem c_laws_FnExactAcceptsAt {w : World} {LL_gV _B_gV : Nat} {_v_gV : Value} {gV : List Int} (_h_gV : Ls ics 1 w LL_gV _B_gV _v_gV gV) {LL_gE _B_gE : Nat} {_v_gE : Value} {gE : List GEdge} (_h_gE : Ls GEdge.cs 4 w LL_gE _B_gE _v_gE gE) (aS : Int) {LL_aA _B_aA : Nat} {_v_aA : Value} {aA : List Bool} (_h_aA : Ls bcs 1 w LL_aA _B_aA _v_aA aA) {LL_saN _B_saN : Nat} {_v_saN : Value} {saN : List Sv} (_h_saN : Ls Sv.cs 1 w LL_saN _B_saN _v_saN saN) {LR_aN BB_aN : Nat} {aN : List (List Int)} (_rd_aN : Rd ics 1 w LR_aN BB_aN saN aN) (node : Int) (s : Int) :
    Ctr Try.prog 5 #[(.agg #[_v_gV, _v_gE]), (.agg #[(.int .i64 aS), _v_aA, _v_saN]), (.int .i64 node), (.int .i64 s)] w (fun v w' => v = .bool (true) ∧ Ch [] w w') := by
  obtain ⟨_A_gV, _C_gV, _e1_gV⟩ := _h_gV.val
  subst _e1_gV
  have _l_gV := _h_gV.len
  have _h_gV := _h_gV.here (by decide)
  obtain ⟨_A_gE, _C_gE, _e1_gE⟩ := _h_gE.val
  subst _e1_gE
  have _l_gE := _h_gE.len
  have _h_gE := _h_gE.here (by decide)
  obtain ⟨_A_aA, _C_aA, _e1_aA⟩ := _h_aA.val
  subst _e1_aA
  have _l_aA := _h_aA.len
  have _h_aA := _h_aA.here (by decide)
  obtain ⟨_A_saN, _C_saN, _e1_saN⟩ := _h_saN.val
  subst _e1_saN
  have _l_saN := _h_saN.len
  have _h_saN := _h_saN.here (by decide)
  have _rd_aN := _rd_aN.here (by decide)
  have _rl_aN := _rd_aN.1
  have E := Ch.refl [] w
  refine Ctr_of_W (N := 53) (vs0 := [(.agg #[(.slice _A_gV gV.length _C_gV), (.slice _A_gE gE.length _C_gE)]), (.agg #[(.int .i64 aS), (.slice _A_aA aA.length _C_aA), (.slice _A_saN saN.length _C_saN)]), (.int .i64 node), (.int .i64 s)]) Try.func5 rfl rfl rfl ?_
  refine W_seq fun _K_1 _hK_1 => ?_
  refine W_region ?_
  refine WL_s rfl rfl ?_
  refine s_box rfl fun _b4 _w_2 _m4 _cw_2 _e4 => ?_
  have _cw_2z := _cw_2.size
  have E := E.trans _cw_2
  have _z4 := _m4.lt
  replace _m4 : Blk _w_2 _b4 36 [(.slice _A_gV gV.length _C_gV), (.slice _A_gE gE.length _C_gE)] := _m4
  refine WL_s rfl rfl ?_
  refine s_box rfl fun _b5 _w_3 _m5 _cw_3 _e5 => ?_
  have _cw_3z := _cw_3.size
  have E := E.trans _cw_3
  have _z5 := _m5.lt
  replace _m5 : Blk _w_3 _b5 51 [(.int .i64 aS), (.slice _A_aA aA.length _C_aA), (.slice _A_saN saN.length _C_saN)] := _m5
  refine WL_step rfl rfl (r_assign rfl) ?_
  refine WL_nil ?_
  refine thn_nrm (_hK_1 _ _ ?_)
  clear _hK_1
  refine W_seq fun _K_4 _hK_4 => ?_
  refine W_region ?_
  refine WL_step rfl rfl (r_assign rfl) ?_
  refine WL_nil ?_
  refine thn_nrm (_hK_4 _ _ ?_)
  clear _hK_4
  refine W_seq fun _K_5 _hK_5 => ?_
  refine W_region ?_
  have _f_6 := (_m4.ch0 _cw_3)
  refine WL_step rfl rfl (r_loadAtA0 _f_6.at_ agg36 sz36 rfl) ?_
  refine WL_step rfl rfl (r_move rfl) ?_
  refine WL_s rfl rfl ?_
  have _f_7 := ((_h_gV.ch0 _cw_2).ch0 _cw_3)
  have _f_8 := ((_h_gE.ch0 _cw_2).ch0 _cw_3)
  refine Step.call (r_call (xs := [.tmp 14, .tmp 15]) fk18 rfl) (c_laws_szGraph _f_7 _f_8 _ (by omega) (by omega)) fun _v16 _w_9 _q16 => ?_
  obtain ⟨rfl, _cw_9⟩ := _q16
  have _cw_9z := _cw_9.size
  have E := E.trans _cw_9
  refine WL_step rfl rfl (r_assign rfl) ?_
  refine WL_nil ?_
  refine thn_nrm (_hK_5 _ _ ?_)
  clear _hK_5
  refine W_seq fun _K_10 _hK_10 => ?_
  refine W_seq fun _K_11 _hK_11 => ?_
  refine W_region ?_
  refine WL_step rfl rfl (r_move rfl) ?_
  refine WL_step rfl rfl (r_lss rfl rfl) ?_
  refine WL_nil ?_
  refine thn_nrm (_hK_11 _ _ ?_)
  clear _hK_11
  refine W_cond rfl (fun _h18 => ?_) (fun _h18 => ?_)
  · have _kb_12 := _h18
    have _h18 := bt_d _h18
    refine W_seq fun _K_13 _hK_13 => ?_
    refine W_region ?_
    refine WL_step rfl rfl (r_assign rfl) ?_
    refine WL_nil ?_
    refine thn_nrm (_hK_13 _ _ ?_)
    clear _hK_13
    refine W_ret (thn_ret ?_)
    clear _hK_10
    exact ret_intro [_] ⟨rfl, trivial⟩ ⟨congrArg Value.bool (by first | rfl | (exfalso; omega) | (exfalso; revert _h18; simp; done) | (exfalso; revert _h18; simp; omega)), E⟩
  · have _kb_12 := _h18
    have _h18 := bf_d _h18
    refine W_skip ?_
    refine thn_nrm (_hK_10 _ _ ?_)
    clear _hK_10
    refine W_seq fun _K_14 _hK_14 => ?_
    refine W_region ?_
    have _f_15 := (_m5.ch0 _cw_9)
    refine WL_step rfl rfl (r_loadAtA0 _f_15.at_ agg51 sz51 rfl) ?_
    refine WL_step rfl rfl (r_move rfl) ?_
    refine WL_s rfl rfl ?_
    have _f_16 := (((_h_aA.ch0 _cw_2).ch0 _cw_3).ch0 _cw_9)
    have _f_17 := (((_rd_aN.ch0 _cw_2).ch0 _cw_3).ch0 _cw_9)
    have _f_18 := (((_h_saN.ch0 _cw_2).ch0 _cw_3).ch0 _cw_9)
    refine Step.call (r_call (xs := [.tmp 19, .tmp 20]) fk26 rfl) (c_laws_szAutomaton _ _f_16 _f_18 _f_17 _ (by omega) (by omega)) fun _v21 _w_19 _q21 => ?_
    obtain ⟨rfl, _cw_19⟩ := _q21
    have _cw_19z := _cw_19.size
    have E := E.trans _cw_19
    refine WL_step rfl rfl (r_assign rfl) ?_
    refine WL_nil ?_
    refine thn_nrm (_hK_14 _ _ ?_)
    clear _hK_14
    refine W_seq fun _K_20 _hK_20 => ?_
    refine W_seq fun _K_21 _hK_21 => ?_
    refine W_region ?_
    refine WL_step rfl rfl (r_move rfl) ?_
    refine WL_step rfl rfl (r_lss rfl rfl) ?_
    refine WL_nil ?_
    refine thn_nrm (_hK_21 _ _ ?_)
    clear _hK_21
    refine W_cond rfl (fun _h23 => ?_) (fun _h23 => ?_)
    · have _kb_22 := _h23
      have _h23 := bt_d _h23
      refine W_seq fun _K_23 _hK_23 => ?_
      refine W_region ?_
      refine WL_step rfl rfl (r_assign rfl) ?_
      refine WL_nil ?_
      refine thn_nrm (_hK_23 _ _ ?_)
      clear _hK_23
      refine W_ret (thn_ret ?_)
      clear _hK_20
      exact ret_intro [_] ⟨rfl, trivial⟩ ⟨congrArg Value.bool (by first | rfl | (exfalso; omega) | (exfalso; revert _h23; simp; done) | (exfalso; revert _h23; simp; omega)), E⟩
    · have _kb_22 := _h23
      have _h23 := bf_d _h23
      refine W_skip ?_
      refine thn_nrm (_hK_20 _ _ ?_)
      clear _hK_20
      refine W_seq fun _K_24 _hK_24 => ?_
      refine W_drawC [] 8 mixed rfl fun _w_25 _cw_25 => ?_
      have _cw_25z := _cw_25.size
      have E := E.trans _cw_25
      have _f_26 := (((_f_6.ch0 _cw_9).ch0 _cw_19).ch0 _cw_25)
      refine DR_s 0 rfl (by kernel_rfl) rfl rfl (t_loadAtA0 _f_26.at_ (fun i hi => absurd hi List.not_mem_nil) agg36 sz36 rfl ?_)
      have _f_27 := ((_f_15.ch0 _cw_19).ch0 _cw_25)
      refine DR_s 2 rfl (by kernel_rfl) rfl rfl (t_loadAtA0 _f_27.at_ (fun i hi => absurd hi List.not_mem_nil) agg51 sz51 rfl ?_)
      refine DR_s 4 rfl (by kernel_rfl) rfl rfl (t_v (fun _ => (r_move rfl)) ?_)
      refine DR_s 5 rfl (by kernel_rfl) rfl rfl (t_v (fun _ => (r_move rfl)) ?_)
      refine DR_one 1 (by kernel_rfl) ?_
      refine DO_s rfl rfl rfl ?_
      have _f_28 := (((_f_7.ch0 _cw_9).ch0 _cw_19).ch0 _cw_25)
      have _f_29 := (((_f_8.ch0 _cw_9).ch0 _cw_19).ch0 _cw_25)
      refine Step.call (r_call (xs := [.tmp 24]) fk20 rfl) (c_laws_toGraph _f_28 _f_29 (by omega)) fun _v25 _w_30 _q25 => ?_
      obtain ⟨u25_0x0, u25_0x1, rfl, _q_u25_0x0, _lo_u25_0x0, _q_u25_0x1, _lo_u25_0x1, _dj_u25_0x0_u25_0x1, _cw_30⟩ := _q25
      have _cw_30z := _cw_30.size
      have E := E.trans _cw_30
      obtain ⟨Au25_0x0, Cu25_0x0, eu25_0x0⟩ := _q_u25_0x0.val
      subst eu25_0x0
      have lu25_0x0 := _q_u25_0x0.len
      have _hiu25_0x0 := _q_u25_0x0.lt
      obtain ⟨Au25_0x1, Cu25_0x1, eu25_0x1⟩ := _q_u25_0x1.val
      subst eu25_0x1
      have lu25_0x1 := _q_u25_0x1.len
      have _hiu25_0x1 := _q_u25_0x1.lt
      have _S_31 : Ch [] _w_25 _w_30 := ((Ch.refl _ _).trans _cw_30)
      refine ⟨_S_31, ?_⟩
      refine DR_one 3 (by kernel_rfl) ?_
      refine DO_s rfl rfl rfl ?_
      have _f_32 := (((_f_16.ch0 _cw_19).ch0 _cw_25).ch0 _cw_30)
      have _f_33 := (((_f_17.ch0 _cw_19).ch0 _cw_25).ch0 _cw_30)
      have _f_34 := (((_f_18.ch0 _cw_19).ch0 _cw_25).ch0 _cw_30)
      refine Step.call (r_call (xs := [.tmp 26]) fk28 rfl) (c_laws_toAutomaton _ _f_32 _f_34 _f_33 (by omega)) fun _v27 _w_35 _q27 => ?_
      obtain ⟨u27_0x1, u27_0x2, _vs27_0x2, rfl, _q_u27_0x1, _lo_u27_0x1, _q_u27_0x2, _lo_u27_0x2, _od_vs27_0x2, _sep_vs27_0x2, _dj_u27_0x1_u27_0x2, _sep_u27_0x1_vs27_0x2, _cw_35⟩ := _q27
      have _cw_35z := _cw_35.size
      have E := E.trans _cw_35
      obtain ⟨Au27_0x1, Cu27_0x1, eu27_0x1⟩ := _q_u27_0x1.val
      subst eu27_0x1
      have lu27_0x1 := _q_u27_0x1.len
      have _hiu27_0x1 := _q_u27_0x1.lt
      obtain ⟨Au27_0x2, Cu27_0x2, eu27_0x2⟩ := _q_u27_0x2.val
      subst eu27_0x2
      have lu27_0x2 := _q_u27_0x2.len
      have _hiu27_0x2 := _q_u27_0x2.lt
      have _S_36 : Ch [] _w_25 _w_35 := (_S_31.trans _cw_35)
      refine ⟨_S_36, ?_⟩
      refine DR_one 6 (by kernel_rfl) ?_
      refine DO_s rfl rfl rfl ?_
      have _f_37 := (_q_u25_0x0.ch0 _cw_35)
      have _f_38 := (_q_u25_0x1.ch0 _cw_35)
      refine Step.call (r_call (xs := [.tmp 25, .tmp 27, .tmp 28, .tmp 29]) fk27 rfl) (c_spec_AcceptsAt _f_37.ls _f_38.ls _ _q_u27_0x1.ls _q_u27_0x2.ls _od_vs27_0x2.rd _ _ ) fun _v30 _w_39 _q30 => ?_
      obtain ⟨rfl, _cw_39⟩ := _q30
      have _cw_39z := _cw_39.size
      have E := E.trans _cw_39
      have _S_40 : Ch [] _w_25 _w_39 := (_S_36.trans _cw_39)
      refine ⟨_S_40, ?_⟩
      refine DR_s 7 rfl (by kernel_rfl) rfl rfl (t_v (fun _ => (r_assign rfl)) ?_)
      refine DR_done (by kernel_rfl) ?_
      refine thn_nrm (_hK_24 _ _ ?_)
      clear _hK_24
      refine W_seq fun _K_41 _hK_41 => ?_
      refine W_region ?_
      have _f_42 := (((_f_26.ch0 _cw_30).ch0 _cw_35).ch0 _cw_39)
      refine WL_step rfl rfl (r_loadAtA0 _f_42.at_ agg36 sz36 rfl) ?_
      refine WL_s rfl rfl ?_
      have _f_43 := (((_f_28.ch0 _cw_30).ch0 _cw_35).ch0 _cw_39)
      have _f_44 := (((_f_29.ch0 _cw_30).ch0 _cw_35).ch0 _cw_39)
      refine Step.call (r_call (xs := [.tmp 31]) fk20 rfl) (c_laws_toGraph _f_43 _f_44 (by omega)) fun _v32 _w_45 _q32 => ?_
      obtain ⟨u32_0x0, u32_0x1, rfl, _q_u32_0x0, _lo_u32_0x0, _q_u32_0x1, _lo_u32_0x1, _dj_u32_0x0_u32_0x1, _cw_45⟩ := _q32
      have _cw_45z := _cw_45.size
      have E := E.trans _cw_45
      obtain ⟨Au32_0x0, Cu32_0x0, eu32_0x0⟩ := _q_u32_0x0.val
      subst eu32_0x0
      have lu32_0x0 := _q_u32_0x0.len
      have _hiu32_0x0 := _q_u32_0x0.lt
      obtain ⟨Au32_0x1, Cu32_0x1, eu32_0x1⟩ := _q_u32_0x1.val
      subst eu32_0x1
      have lu32_0x1 := _q_u32_0x1.len
      have _hiu32_0x1 := _q_u32_0x1.lt
      refine WL_s rfl rfl ?_
      refine s_alloc zr42 fun _b11 _w_46 _m11 _cw_46 _e11 => ?_
      have _cw_46z := _cw_46.size
      have E := E.trans _cw_46
      have _z11 := _m11.lt
      replace _m11 : Blk _w_46 _b11 42 [(.slice none 0 0), (.slice none 0 0)] := _m11
      refine WL_s rfl rfl ?_
      refine s_storeA (off := 0) 2 _m11 sz42 rfl (us := [(.slice Au32_0x0 (gV).length Cu32_0x0), (.slice Au32_0x1 (gE).length Cu32_0x1)]) rfl rfl rfl rfl fun _w_47 _m_48 _cw_47 => ?_
      have _cw_47z := _cw_47.size
      have E := E.step _cw_47 (fun i hi => .inl (by have _h1 := List.mem_singleton.1 hi; omega))
      replace _m_48 : Blk _w_47 _b11 42 [(.slice Au32_0x0 (gV).length Cu32_0x0), (.slice Au32_0x1 (gE).length Cu32_0x1)] := _m_48
      refine WL_nil ?_
      refine thn_nrm (_hK_41 _ _ ?_)
      clear _hK_41
      refine W_seq fun _K_49 _hK_49 => ?_
      refine W_region ?_
      have _f_50 := ((((((_f_27.ch0 _cw_30).ch0 _cw_35).ch0 _cw_39).ch0 _cw_45).ch0 _cw_46).ch _cw_47 (fun hm => by have _h1 := List.mem_singleton.1 hm; omega))
      refine WL_step rfl rfl (r_loadAtA0 _f_50.at_ agg51 sz51 rfl) ?_
      refine WL_s rfl rfl ?_
      have _f_51 := (((((_f_32.ch0 _cw_35).ch0 _cw_39).ch0 _cw_45).ch0 _cw_46).ch _cw_47 (fun i hi => by have _h1 := List.mem_singleton.1 hi; omega))
      have _f_52 := (((((_f_33.ch0 _cw_35).ch0 _cw_39).ch0 _cw_45).ch0 _cw_46).ch _cw_47 (fun i hi => by have _h1 := List.mem_singleton.1 hi; omega))
      have _f_53 := (((((_f_34.ch0 _cw_35).ch0 _cw_39).ch0 _cw_45).ch0 _cw_46).ch _cw_47 (fun i hi => by have _h1 := List.mem_singleton.1 hi; omega))
      refine Step.call (r_call (xs := [.tmp 33]) fk28 rfl) (c_laws_toAutomaton _ _f_51 _f_53 _f_52 (by omega)) fun _v34 _w_54 _q34 => ?_
      obtain ⟨u34_0x1, u34_0x2, _vs34_0x2, rfl, _q_u34_0x1, _lo_u34_0x1, _q_u34_0x2, _lo_u34_0x2, _od_vs34_0x2, _sep_vs34_0x2, _dj_u34_0x1_u34_0x2, _sep_u34_0x1_vs34_0x2, _cw_54⟩ := _q34
      have _cw_54z := _cw_54.size
      have E := E.trans _cw_54
      obtain ⟨Au34_0x1, Cu34_0x1, eu34_0x1⟩ := _q_u34_0x1.val
      subst eu34_0x1
      have lu34_0x1 := _q_u34_0x1.len
      have _hiu34_0x1 := _q_u34_0x1.lt
      obtain ⟨Au34_0x2, Cu34_0x2, eu34_0x2⟩ := _q_u34_0x2.val
      subst eu34_0x2
      have lu34_0x2 := _q_u34_0x2.len
      have _hiu34_0x2 := _q_u34_0x2.lt
      refine WL_s rfl rfl ?_
      refine s_alloc zr54 fun _b12 _w_55 _m12 _cw_55 _e12 => ?_
      have _cw_55z := _cw_55.size
      have E := E.trans _cw_55
      have _z12 := _m12.lt
      replace _m12 : Blk _w_55 _b12 54 [(.int .i64 0), (.slice none 0 0), (.slice none 0 0)] := _m12
      refine WL_s rfl rfl ?_
      refine s_storeA (off := 0) 3 _m12 sz54 rfl (us := [(.int .i64 aS), (.slice Au34_0x1 (aA).length Cu34_0x1), (.slice Au34_0x2 (_vs34_0x2).length Cu34_0x2)]) rfl rfl rfl rfl fun _w_56 _m_57 _cw_56 => ?_
      have _cw_56z := _cw_56.size
      have E := E.step _cw_56 (fun i hi => .inl (by have _h1 := List.mem_singleton.1 hi; omega))
      replace _m_57 : Blk _w_56 _b12 54 [(.int .i64 aS), (.slice Au34_0x1 (aA).length Cu34_0x1), (.slice Au34_0x2 (_vs34_0x2).length Cu34_0x2)] := _m_57
      refine WL_nil ?_
      refine thn_nrm (_hK_49 _ _ ?_)
      clear _hK_49
      refine W_seq fun _K_58 _hK_58 => ?_
      refine W_region ?_
      have _f_59 := (((_m_48.ch0 _cw_54).ch0 _cw_55).ch _cw_56 (fun hm => by have _h1 := List.mem_singleton.1 hm; omega))
      refine WL_step rfl rfl (r_loadAtA0 _f_59.at_ agg42 sz42 rfl) ?_
      refine WL_step rfl rfl (r_loadAtA0 _m_57.at_ agg54 sz54 rfl) ?_
      refine WL_step rfl rfl (r_move rfl) ?_
      refine WL_step rfl rfl (r_move rfl) ?_
      refine WL_s rfl rfl ?_
      have _f_60 := (((((_q_u32_0x0.ch0 _cw_46).ch _cw_47 (fun g hg hm => by have _h0 := List.mem_singleton.1 hm; have _h2 := _lo_u32_0x0 _ hg; have _h3 := _hiu32_0x0 _ hg; omega)).ch0 _cw_54).ch0 _cw_55).ch _cw_56 (fun g hg hm => by have _h0 := List.mem_singleton.1 hm; have _h2 := _lo_u32_0x0 _ hg; have _h3 := _hiu32_0x0 _ hg; omega))
      have _f_61 := (((((_q_u32_0x1.ch0 _cw_46).ch _cw_47 (fun g hg hm => by have _h0 := List.mem_singleton.1 hm; have _h2 := _lo_u32_0x1 _ hg; have _h3 := _hiu32_0x1 _ hg; omega)).ch0 _cw_54).ch0 _cw_55).ch _cw_56 (fun g hg hm => by have _h0 := List.mem_singleton.1 hm; have _h2 := _lo_u32_0x1 _ hg; have _h3 := _hiu32_0x1 _ hg; omega))
      have _f_62 := ((_q_u34_0x1.ch0 _cw_55).ch _cw_56 (fun g hg hm => by have _h0 := List.mem_singleton.1 hm; have _h2 := _lo_u34_0x1 _ hg; have _h3 := _hiu34_0x1 _ hg; omega))
      have _f_63 := ((_od_vs34_0x2.ch0 _cw_55).ch _cw_56 (fun i hi => by have _h1 := List.mem_singleton.1 hi; omega))
      have _f_64 := ((_q_u34_0x2.ch0 _cw_55).ch _cw_56 (fun g hg hm => by have _h0 := List.mem_singleton.1 hm; have _h2 := _lo_u34_0x2 _ hg; have _h3 := _hiu34_0x2 _ hg; omega))
      refine Step.call (r_call (xs := [.tmp 35, .tmp 36, .tmp 37, .tmp 38]) fk29 rfl) (c_impl_AcceptsAt _f_60.ls _f_61.ls _ _f_62.ls _f_64.ls _f_63.rd _ _ ) fun _v39 _w_65 _q39 => ?_
      obtain ⟨rfl, _cw_65⟩ := _q39
      have _cw_65z := _cw_65.size
      have E := E.trans _cw_65
      refine WL_step rfl rfl (r_assign rfl) ?_
      refine WL_nil ?_
      refine thn_nrm (_hK_58 _ _ ?_)
      clear _hK_58
      refine W_seq fun _K_66 _hK_66 => ?_
      refine W_seq fun _K_67 _hK_67 => ?_
      refine W_region ?_
      refine WL_step rfl rfl (r_move rfl) ?_
      refine WL_step rfl rfl (r_move rfl) ?_
      refine WL_step rfl rfl (r_neqB un4 rfl rfl) ?_
      refine WL_nil ?_
      refine thn_nrm (_hK_67 _ _ ?_)
      clear _hK_67
      refine W_cond rfl (fun _h42 => ?_) (fun _h42 => ?_)
      · have _kb_68 := _h42
        have _h42 := bf_e (bt_n _h42)
        refine W_seq fun _K_69 _hK_69 => ?_
        refine W_region ?_
        refine WL_step rfl rfl (r_assign rfl) ?_
        refine WL_nil ?_
        refine thn_nrm (_hK_69 _ _ ?_)
        clear _hK_69
        refine W_ret (thn_ret ?_)
        clear _hK_66
        exact ret_intro [_] ⟨rfl, trivial⟩ ⟨congrArg Value.bool (by first | rfl | (exfalso; omega) | (exfalso; revert _h42; simp; done) | (exfalso; revert _h42; simp; omega)), E⟩
      · have _kb_68 := _h42
        have _h42 := bt_e (bf_n _h42)
        refine W_skip ?_
        refine thn_nrm (_hK_66 _ _ ?_)
        clear _hK_66
        refine W_seq fun _K_70 _hK_70 => ?_
        refine W_seq fun _K_71 _hK_71 => ?_
        refine W_drawC [] 5 mixed rfl fun _w_72 _cw_72 => ?_
        have _cw_72z := _cw_72.size
        have E := E.trans _cw_72
        have _f_73 := ((_f_59.ch0 _cw_65).ch0 _cw_72)
        refine DR_s 0 rfl (by kernel_rfl) rfl rfl (t_loadAtA0 _f_73.at_ (fun i hi => absurd hi List.not_mem_nil) agg42 sz42 rfl ?_)
        have _f_74 := ((((((((_f_42.ch0 _cw_45).ch0 _cw_46).ch _cw_47 (fun hm => by have _h1 := List.mem_singleton.1 hm; omega)).ch0 _cw_54).ch0 _cw_55).ch _cw_56 (fun hm => by have _h1 := List.mem_singleton.1 hm; omega)).ch0 _cw_65).ch0 _cw_72)
        refine DR_s 1 rfl (by kernel_rfl) rfl rfl (t_loadAtA0 _f_74.at_ (fun i hi => absurd hi List.not_mem_nil) agg36 sz36 rfl ?_)
        refine DR_one 2 (by kernel_rfl) ?_
        refine DO_s rfl rfl rfl ?_
        have _f_75 := ((((((((_f_43.ch0 _cw_45).ch0 _cw_46).ch _cw_47 (fun i hi => by have _h1 := List.mem_singleton.1 hi; omega)).ch0 _cw_54).ch0 _cw_55).ch _cw_56 (fun i hi => by have _h1 := List.mem_singleton.1 hi; omega)).ch0 _cw_65).ch0 _cw_72)
        have _f_76 := ((((((((_f_44.ch0 _cw_45).ch0 _cw_46).ch _cw_47 (fun i hi => by have _h1 := List.mem_singleton.1 hi; omega)).ch0 _cw_54).ch0 _cw_55).ch _cw_56 (fun i hi => by have _h1 := List.mem_singleton.1 hi; omega)).ch0 _cw_65).ch0 _cw_72)
        refine Step.call (r_call (xs := [.tmp 44]) fk20 rfl) (c_laws_toGraph _f_75 _f_76 (by omega)) fun _v45 _w_77 _q45 => ?_
        obtain ⟨u45_0x0, u45_0x1, rfl, _q_u45_0x0, _lo_u45_0x0, _q_u45_0x1, _lo_u45_0x1, _dj_u45_0x0_u45_0x1, _cw_77⟩ := _q45
        have _cw_77z := _cw_77.size
        have E := E.trans _cw_77
        obtain ⟨Au45_0x0, Cu45_0x0, eu45_0x0⟩ := _q_u45_0x0.val
        subst eu45_0x0
        have lu45_0x0 := _q_u45_0x0.len
        have _hiu45_0x0 := _q_u45_0x0.lt
        obtain ⟨Au45_0x1, Cu45_0x1, eu45_0x1⟩ := _q_u45_0x1.val
        subst eu45_0x1
        have lu45_0x1 := _q_u45_0x1.len
        have _hiu45_0x1 := _q_u45_0x1.lt
        have _S_78 : Ch [] _w_72 _w_77 := ((Ch.refl _ _).trans _cw_77)
        refine ⟨_S_78, ?_⟩
        refine DR_one 3 (by kernel_rfl) ?_
        refine DO_s rfl rfl rfl ?_
        have _f_79 := (((_f_60.ch0 _cw_65).ch0 _cw_72).ch0 _cw_77)
        have _f_80 := (((_f_61.ch0 _cw_65).ch0 _cw_72).ch0 _cw_77)
        refine Step.call (r_call (xs := [.tmp 43, .tmp 45]) fk22 rfl) (c_laws_eqGraph _f_79.ls _f_80.ls _q_u45_0x0.ls _q_u45_0x1.ls ) fun _v46 _w_81 _q46 => ?_
        obtain ⟨rfl, _cw_81⟩ := _q46
        have _cw_81z := _cw_81.size
        have E := E.trans _cw_81
        have _S_82 : Ch [] _w_72 _w_81 := (_S_78.trans _cw_81)
        refine ⟨_S_82, ?_⟩
        refine DR_s 4 rfl (by kernel_rfl) rfl rfl (t_v (fun _ => (r_not rfl)) ?_)
        refine DR_done (by kernel_rfl) ?_
        refine thn_nrm (_hK_71 _ _ ?_)
        clear _hK_71
        refine W_cond rfl (fun _h47 => ?_) (fun _h47 => ?_)
        · have _kb_83 := _h47
          have _h47 := bf_d (bt_n _h47)
          refine W_seq fun _K_84 _hK_84 => ?_
          refine W_region ?_
          refine WL_step rfl rfl (r_assign rfl) ?_
          refine WL_nil ?_
          refine thn_nrm (_hK_84 _ _ ?_)
          clear _hK_84
          refine W_ret (thn_ret ?_)
          clear _hK_70
          exact ret_intro [_] ⟨rfl, trivial⟩ ⟨congrArg Value.bool (by first | rfl | (exfalso; omega) | (exfalso; revert _h47; simp; done) | (exfalso; revert _h47; simp; omega)), E⟩
        · have _kb_83 := _h47
          have _h47 := bt_d (bf_n _h47)
          refine W_skip ?_
          refine thn_nrm (_hK_70 _ _ ?_)
          clear _hK_70
          refine W_seq fun _K_85 _hK_85 => ?_
          refine W_seq fun _K_86 _hK_86 => ?_
          refine W_drawC [] 5 mixed rfl fun _w_87 _cw_87 => ?_
          have _cw_87z := _cw_87.size
          have E := E.trans _cw_87
          have _f_88 := (((((_m_57.ch0 _cw_65).ch0 _cw_72).ch0 _cw_77).ch0 _cw_81).ch0 _cw_87)
          refine DR_s 0 rfl (by kernel_rfl) rfl rfl (t_loadAtA0 _f_88.at_ (fun i hi => absurd hi List.not_mem_nil) agg54 sz54 rfl ?_)
          have _f_89 := ((((((((_f_50.ch0 _cw_54).ch0 _cw_55).ch _cw_56 (fun hm => by have _h1 := List.mem_singleton.1 hm; omega)).ch0 _cw_65).ch0 _cw_72).ch0 _cw_77).ch0 _cw_81).ch0 _cw_87)
          refine DR_s 1 rfl (by kernel_rfl) rfl rfl (t_loadAtA0 _f_89.at_ (fun i hi => absurd hi List.not_mem_nil) agg51 sz51 rfl ?_)
          refine DR_one 2 (by kernel_rfl) ?_
          refine DO_s rfl rfl rfl ?_
          have _f_90 := ((((((((_f_51.ch0 _cw_54).ch0 _cw_55).ch _cw_56 (fun i hi => by have _h1 := List.mem_singleton.1 hi; omega)).ch0 _cw_65).ch0 _cw_72).ch0 _cw_77).ch0 _cw_81).ch0 _cw_87)
          have _f_91 := ((((((((_f_52.ch0 _cw_54).ch0 _cw_55).ch _cw_56 (fun i hi => by have _h1 := List.mem_singleton.1 hi; omega)).ch0 _cw_65).ch0 _cw_72).ch0 _cw_77).ch0 _cw_81).ch0 _cw_87)
          have _f_92 := ((((((((_f_53.ch0 _cw_54).ch0 _cw_55).ch _cw_56 (fun i hi => by have _h1 := List.mem_singleton.1 hi; omega)).ch0 _cw_65).ch0 _cw_72).ch0 _cw_77).ch0 _cw_81).ch0 _cw_87)
          refine Step.call (r_call (xs := [.tmp 49]) fk28 rfl) (c_laws_toAutomaton _ _f_90 _f_92 _f_91 (by omega)) fun _v50 _w_93 _q50 => ?_
          obtain ⟨u50_0x1, u50_0x2, _vs50_0x2, rfl, _q_u50_0x1, _lo_u50_0x1, _q_u50_0x2, _lo_u50_0x2, _od_vs50_0x2, _sep_vs50_0x2, _dj_u50_0x1_u50_0x2, _sep_u50_0x1_vs50_0x2, _cw_93⟩ := _q50
          have _cw_93z := _cw_93.size
          have E := E.trans _cw_93
          obtain ⟨Au50_0x1, Cu50_0x1, eu50_0x1⟩ := _q_u50_0x1.val
          subst eu50_0x1
          have lu50_0x1 := _q_u50_0x1.len
          have _hiu50_0x1 := _q_u50_0x1.lt
          obtain ⟨Au50_0x2, Cu50_0x2, eu50_0x2⟩ := _q_u50_0x2.val
          subst eu50_0x2
          have lu50_0x2 := _q_u50_0x2.len
          have _hiu50_0x2 := _q_u50_0x2.lt
          have _S_94 : Ch [] _w_87 _w_93 := ((Ch.refl _ _).trans _cw_93)
          refine ⟨_S_94, ?_⟩
          refine DR_one 3 (by kernel_rfl) ?_
          refine DO_s rfl rfl rfl ?_
          have _f_95 := ((((((_f_62.ch0 _cw_65).ch0 _cw_72).ch0 _cw_77).ch0 _cw_81).ch0 _cw_87).ch0 _cw_93)
          have _f_96 := ((((((_f_63.ch0 _cw_65).ch0 _cw_72).ch0 _cw_77).ch0 _cw_81).ch0 _cw_87).ch0 _cw_93)
          have _f_97 := ((((((_f_64.ch0 _cw_65).ch0 _cw_72).ch0 _cw_77).ch0 _cw_81).ch0 _cw_87).ch0 _cw_93)
          refine Step.call (r_call (xs := [.tmp 48, .tmp 50]) fk30 rfl) (c_laws_eqAutomaton _ _f_95.ls _f_97.ls _f_96.rd _ _q_u50_0x1.ls _q_u50_0x2.ls _od_vs50_0x2.rd ) fun _v51 _w_98 _q51 => ?_
          obtain ⟨rfl, _cw_98⟩ := _q51
          have _cw_98z := _cw_98.size
          have E := E.trans _cw_98
          have _S_99 : Ch [] _w_87 _w_98 := (_S_94.trans _cw_98)
          refine ⟨_S_99, ?_⟩
          refine DR_s 4 rfl (by kernel_rfl) rfl rfl (t_v (fun _ => (r_not rfl)) ?_)
          refine DR_done (by kernel_rfl) ?_
          refine thn_nrm (_hK_86 _ _ ?_)
          clear _hK_86
          refine W_cond rfl (fun _h52 => ?_) (fun _h52 => ?_)
          · have _kb_100 := _h52
            have _h52 := bf_d (bt_n _h52)
            refine W_seq fun _K_101 _hK_101 => ?_
            refine W_region ?_
            refine WL_step rfl rfl (r_assign rfl) ?_
            refine WL_nil ?_
            refine thn_nrm (_hK_101 _ _ ?_)
            clear _hK_101
            refine W_ret (thn_ret ?_)
            clear _hK_85
            exact ret_intro [_] ⟨rfl, trivial⟩ ⟨congrArg Value.bool (by first | rfl | (exfalso; omega) | (exfalso; revert _h52; simp; done) | (exfalso; revert _h52; simp; omega)), E⟩
          · have _kb_100 := _h52
            have _h52 := bt_d (bf_n _h52)
            refine W_skip ?_
            refine thn_nrm (_hK_85 _ _ ?_)
            clear _hK_85
            refine W_seq fun _K_102 _hK_102 => ?_
            refine W_region ?_
            refine WL_step rfl rfl (r_assign rfl) ?_
            refine WL_nil ?_
            refine thn_nrm (_hK_102 _ _ ?_)
            clear _hK_102
            refine W_ret ?_
            exact ret_intro [_] ⟨rfl, trivial⟩ ⟨congrArg Value.bool (by first | rfl | (exfalso; omega) | (exfalso; revert _h52; simp; done) | (exfalso; revert _h52; simp; omega)), E⟩

end Go.Proofs.Ythchonkpkgogjaa
