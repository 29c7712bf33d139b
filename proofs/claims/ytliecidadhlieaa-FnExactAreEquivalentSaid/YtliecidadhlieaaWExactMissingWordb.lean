/- Walks of functions that FnExactMissingWord reaches: what each returns, and that it leaves the memory that was there alone. -/
import Derived.Test.YtliecidadhlieaaKF
import Derived.Test.YtliecidadhlieaaKG
import Derived.Test.YtliecidadhlieaaKH
import Derived.Test.YtliecidadhlieaaKI
import Derived.Test.YtliecidadhlieaaKJ
import Derived.Test.YtliecidadhlieaaKM
import Derived.Test.YtliecidadhlieaaKN
import Derived.Test.YtliecidadhlieaaKO
import Derived.Test.YtliecidadhlieaaKP
import Derived.Test.YtliecidadhlieaaKQ
import Derived.Test.YtliecidadhlieaaKR
import Derived.Test.YtliecidadhlieaaKS
import Derived.Test.YtliecidadhlieaaKT
import Derived.Test.YtliecidadhlieaaKU
import Derived.Test.YtliecidadhlieaaKV
import Derived.Test.YtliecidadhlieaaKX
import Derived.Test.YtliecidadhlieaaKY
import Derived.Test.YtliecidadhlieaaKZ
import Derived.Test.YtliecidadhlieaaJA
import Derived.Test.YtliecidadhlieaaJB
import Derived.Test.YtliecidadhlieaaJC
import Derived.Test.YtliecidadhlieaaJD
import Derived.Test.YtliecidadhlieaaJE
import Derived.Test.YtliecidadhlieaaJF
import Derived.Test.YtliecidadhlieaaJG
import Derived.Test.YtliecidadhlieaaJH
import Derived.Test.YtliecidadhlieaaJI
import Derived.Test.YtliecidadhlieaaJK
import Derived.Test.YtliecidadhlieaaJM
import Derived.Test.YtliecidadhlieaaJN
import Derived.Test.YtliecidadhlieaaJO
import Derived.Test.YtliecidadhlieaaJP
import Derived.Test.YtliecidadhlieaaJQ
import Derived.Test.YtliecidadhlieaaJR
import Derived.Test.YtliecidadhlieaaJS
import Derived.Test.YtliecidadhlieaaJU
import Derived.Test.YtliecidadhlieaaWExactMissingWord
import Derived.Test.YtliecidadhlieaaProg
namespace Go.Proofs.Ytliecidadhlieaa
open Go.KLib Go.Shelf
set_option maxRecDepth 20000
set_option linter.unusedVariables false
set_option linter.unusedSimpArgs false
namespace TExactMissingWordb
theorem agg22 : aggB Try.prog 22 = some false := by kernel_rfl
theorem agg23 : aggB Try.prog 23 = some false := by kernel_rfl
theorem agg25 : aggB Try.prog 25 = some true := by kernel_rfl
theorem agg28 : aggB Try.prog 28 = some true := by kernel_rfl
theorem agg3 : aggB Try.prog 3 = some false := by kernel_rfl
theorem agg31 : aggB Try.prog 31 = some false := by kernel_rfl
theorem agg4 : aggB Try.prog 4 = some false := by kernel_rfl
theorem agg68 : aggB Try.prog 68 = some true := by kernel_rfl
theorem by3 : bytesB Try.prog 3 = some 8 := by kernel_rfl
theorem by68 : bytesB Try.prog 68 = some 40 := by kernel_rfl
theorem el22 : elB Try.prog 22 = some 4 := by kernel_rfl
theorem el23 : elB Try.prog 23 = some 31 := by kernel_rfl
theorem el31 : elB Try.prog 31 = some 3 := by kernel_rfl
theorem el69 : elB Try.prog 69 = some 68 := by kernel_rfl
theorem fa28_0 : faB Try.prog 28 0 = some 0 := by kernel_rfl
theorem fa28_1 : faB Try.prog 28 1 = some 1 := by kernel_rfl
theorem fa28_2 : faB Try.prog 28 2 = some 2 := by kernel_rfl
theorem fa68_0 : faB Try.prog 68 0 = some 0 := by kernel_rfl
theorem fa68_1 : faB Try.prog 68 1 = some 1 := by kernel_rfl
theorem fa68_2 : faB Try.prog 68 2 = some 2 := by kernel_rfl
theorem fa68_3 : faB Try.prog 68 3 = some 3 := by kernel_rfl
theorem fa68_4 : faB Try.prog 68 4 = some 4 := by kernel_rfl
theorem fk11 : fnB Try.prog 11 = true := by kernel_rfl
theorem fk13 : fnB Try.prog 13 = true := by kernel_rfl
theorem fk16 : fnB Try.prog 16 = true := by kernel_rfl
theorem fk17 : fnB Try.prog 17 = true := by kernel_rfl
theorem fk18 : fnB Try.prog 18 = true := by kernel_rfl
theorem fk19 : fnB Try.prog 19 = true := by kernel_rfl
theorem fk20 : fnB Try.prog 20 = true := by kernel_rfl
theorem fk21 : fnB Try.prog 21 = true := by kernel_rfl
theorem fk30 : fnB Try.prog 30 = true := by kernel_rfl
theorem fk36 : fnB Try.prog 36 = true := by kernel_rfl
theorem fk59 : fnB Try.prog 59 = true := by kernel_rfl
theorem fk61 : fnB Try.prog 61 = true := by kernel_rfl
theorem fk62 : fnB Try.prog 62 = true := by kernel_rfl
theorem fk63 : fnB Try.prog 63 = true := by kernel_rfl
theorem fk64 : fnB Try.prog 64 = true := by kernel_rfl
theorem fk9 : fnB Try.prog 9 = true := by kernel_rfl
theorem mixed : Try.prog.follows .mixedOrders = true := by kernel_rfl
theorem pl68 : placesB Try.prog 68 = some [(0, 1), (1, 1), (2, 1), (3, 1), (4, 1)] := by kernel_rfl
theorem sz25 : sizeB Try.prog 25 = some 3 := by kernel_rfl
theorem sz28 : sizeB Try.prog 28 = some 3 := by kernel_rfl
theorem sz3 : sizeB Try.prog 3 = some 1 := by kernel_rfl
theorem sz31 : sizeB Try.prog 31 = some 1 := by kernel_rfl
theorem sz4 : sizeB Try.prog 4 = some 1 := by kernel_rfl
theorem sz68 : sizeB Try.prog 68 = some 5 := by kernel_rfl
theorem un4 : Try.prog.underlying 4 = some (.bool) := by kernel_rfl
theorem zr28 : zeroB Try.prog 28 = some (.agg #[.int .i64 0, .slice none 0 0, .slice none 0 0]) := by kernel_rfl
theorem zr3 : zeroB Try.prog 3 = some (.int .i64 0) := by kernel_rfl
theorem zr68 : zeroB Try.prog 68 = some (.agg #[.int .i64 0, .int .i64 0, .bool false, .int .i64 0, .int .i64 0]) := by kernel_rfl
end TExactMissingWordb
open TExactMissingWordb

/-- spec.IsValidAutomaton -/
theorem c_spec_IsValidAutomaton {w : World} (aS : Int) {LL_aA _B_aA : Nat} {_v_aA : Value} {aA : List Bool} (_h_aA : Ls bcs 1 w LL_aA _B_aA _v_aA aA) {LL_saN _B_saN : Nat} {_v_saN : Value} {saN : List Sv} (_h_saN : Ls Sv.cs 1 w LL_saN _B_saN _v_saN saN) {LR_aN BB_aN : Nat} {aN : List (List Int)} (_rd_aN : Rd ics 1 w LR_aN BB_aN saN aN) :
    Ctr Try.prog 30 #[(.agg #[(.int .i64 aS), _v_aA, _v_saN])] w (fun v w' => v = .bool (tt (ValidA aS aA aN)) ∧ Ch [] w w') := by
  obtain ⟨_A_aA, _C_aA, _e1_aA⟩ := _h_aA.val
  subst _e1_aA
  have _l_aA := _h_aA.len
  have _h_aA := _h_aA.here (by decide)
  obtain ⟨_A_saN, _C_saN, _e1_saN⟩ := _h_saN.val
  subst _e1_saN
  have _l_saN := _h_saN.len
  have _h_saN := _h_saN.here (by decide)
  have _rd_aN := _rd_aN.here (by decide)
  have _rl_aN := _rd_aN.1
  have E := Ch.refl [] w
  refine Ctr_of_W (N := 11) (vs0 := [(.agg #[(.int .i64 aS), (.slice _A_aA aA.length _C_aA), (.slice _A_saN saN.length _C_saN)])]) Try.func30 rfl rfl rfl ?_
  refine W_seq fun _K_1 _hK_1 => ?_
  refine W_region ?_
  refine WL_s rfl rfl ?_
  refine s_box rfl fun _b1 _w_2 _m1 _cw_2 _e1 => ?_
  have _cw_2z := _cw_2.size
  have E := E.trans _cw_2
  have _z1 := _m1.lt
  replace _m1 : Blk _w_2 _b1 28 [(.int .i64 aS), (.slice _A_aA aA.length _C_aA), (.slice _A_saN saN.length _C_saN)] := _m1
  refine WL_step rfl rfl (r_assign rfl) ?_
  refine WL_nil ?_
  refine thn_nrm (_hK_1 _ _ ?_)
  clear _hK_1
  refine W_seq fun _K_3 _hK_3 => ?_
  refine W_region ?_
  refine WL_step rfl rfl (r_fieldAddr fa28_1 rfl) ?_
  refine WL_step rfl rfl (r_loadAt _m1.at_ agg22 rfl rfl) ?_
  refine WL_step rfl rfl (r_len (by rw [el22]; rfl) rfl) ?_
  refine WL_step rfl rfl (r_leq rfl rfl) ?_
  refine WL_step rfl rfl (r_move rfl) ?_
  refine WL_split (d := 7) rfl (fun _h7 => ?_) (fun _h7 => ?_)
  · have _kb_4 := _h7
    have _h7 := bt_d _h7
    refine WL_step rfl rfl (r_loadAtA0 _m1.at_ agg28 sz28 rfl) ?_
    refine WL_s rfl rfl ?_
    have _f_5 := (_h_aA.ch0 _cw_2)
    have _f_6 := (_rd_aN.ch0 _cw_2)
    have _f_7 := (_h_saN.ch0 _cw_2)
    refine Step.call (r_call (xs := [.tmp 8]) fk59 rfl) (c_spec_l11Fits _ _f_5 _f_7 _f_6 ) fun _v9 _w_8 _q9 => ?_
    obtain ⟨rfl, _cw_8⟩ := _q9
    have _cw_8z := _cw_8.size
    have E := E.trans _cw_8
    refine WL_step rfl rfl (r_pickT rfl rfl) ?_
    refine WL_step rfl rfl (r_assign rfl) ?_
    refine WL_nil ?_
    refine thn_nrm (_hK_3 _ _ ?_)
    clear _hK_3
    refine W_ret ?_
    exact ret_intro [_] ⟨rfl, trivial⟩ ⟨congrArg Value.bool (by first | exact tt_eq ⟨fun e => ⟨by omega, e⟩, fun e => e.2⟩ | exact tt_false (fun e => _h7 (by have _h1 := e.1; omega))), E⟩
  · have _kb_4 := _h7
    have _h7 := bf_d _h7
    refine WL_skip rfl rfl ?_
    refine WL_skip rfl rfl ?_
    refine WL_step rfl rfl (r_pickF rfl rfl) ?_
    refine WL_step rfl rfl (r_assign rfl) ?_
    refine WL_nil ?_
    refine thn_nrm (_hK_3 _ _ ?_)
    clear _hK_3
    refine W_ret ?_
    exact ret_intro [_] ⟨rfl, trivial⟩ ⟨congrArg Value.bool (by first | exact tt_eq ⟨fun e => ⟨by omega, e⟩, fun e => e.2⟩ | exact tt_false (fun e => _h7 (by have _h1 := e.1; omega))), E⟩

/-- spec.l10Has -/
theorem c_spec_l10Has {w : World} {LL_l _B_l : Nat} {_v_l : Value} {l : List GNode} (_h_l : Ls GNode.cs 5 w LL_l _B_l _v_l l) (x : GNode) :
    Ctr Try.prog 64 #[_v_l, (.agg #[(.int .i64 x.a), (.int .i64 x.b), (.bool x.apart), (.int .i64 x.frm), (.int .i64 x.by_)])] w (fun v w' => v = .bool (tt (hasN l x l.length)) ∧ Ch [] w w') := by
  obtain ⟨_A_l, _C_l, _e1_l⟩ := _h_l.val
  subst _e1_l
  have _l_l := _h_l.len
  have _h_l := _h_l.here (by decide)
  have E := Ch.refl [] w
  refine Ctr_of_W (N := 40) (vs0 := [(.slice _A_l l.length _C_l), (.agg #[(.int .i64 x.a), (.int .i64 x.b), (.bool x.apart), (.int .i64 x.frm), (.int .i64 x.by_)])]) Try.func64 rfl rfl rfl ?_
  refine W_seq fun _K_1 _hK_1 => ?_
  refine W_region ?_
  refine WL_s rfl rfl ?_
  refine s_box rfl fun _b3 _w_2 _m3 _cw_2 _e3 => ?_
  have _cw_2z := _cw_2.size
  have E := E.trans _cw_2
  have _z3 := _m3.lt
  replace _m3 : Blk _w_2 _b3 68 [(.int .i64 x.a), (.int .i64 x.b), (.bool x.apart), (.int .i64 x.frm), (.int .i64 x.by_)] := _m3
  refine WL_step rfl rfl (r_assign rfl) ?_
  refine WL_nil ?_
  refine thn_nrm (_hK_1 _ _ ?_)
  clear _hK_1
  refine W_seq fun _K_3 _hK_3 => ?_
  refine W_seq fun _K_4 _hK_4 => ?_
  refine W_region ?_
  refine WL_step rfl rfl (r_assign rfl) ?_
  refine WL_nil ?_
  refine thn_nrm (_hK_4 _ _ ?_)
  clear _hK_4
  refine W_block ?_
  refine W_loop (σ := Nat) (fun (k : Nat) => [(0, (.slice _A_l l.length _C_l)), (3, (.pointer (some ⟨_b3, 0, none⟩))), (5, (.int .i64 ((k : Nat) : Int)))]) (fun (k : Nat) wx => Ch [] w wx ∧ _w_2.heap.size ≤ wx.heap.size ∧ (k ≤ l.length) ∧ (¬ hasN l x k) ∧ Blk wx _b3 68 [(.int .i64 x.a), (.int .i64 x.b), (.bool x.apart), (.int .i64 x.frm), (.int .i64 x.by_)]) (fun (k : Nat) => l.length - k) 0 (Sub.cons rfl (Sub.cons rfl (Sub.cons rfl (Sub.nil _)))) ⟨E, (Nat.le_refl _), (by omega), has_zero, _m3⟩ ?_
  rintro k _wr_5 ⟨E, _zz0, _hk, _ht, _F0_1⟩
  have _E0h := E
  have _E0hz := _E0h.size
  have _F0_1z := _F0_1.lt
  refine W_seq fun _K_6 _hK_6 => ?_
  refine W_seq fun _K_7 _hK_7 => ?_
  refine W_region ?_
  refine WL_step rfl rfl (r_move rfl) ?_
  refine WL_step rfl rfl (r_move rfl) ?_
  refine WL_step rfl rfl (r_len (by rw [el69]; rfl) rfl) ?_
  refine WL_step rfl rfl (r_lss rfl rfl) ?_
  refine WL_nil ?_
  refine thn_nrm (_hK_7 _ _ ?_)
  clear _hK_7
  refine W_cond rfl (fun _h9 => ?_) (fun _h9 => ?_)
  · have _kb_8 := _h9
    have _h9 := bt_d _h9
    refine W_skip ?_
    refine thn_nrm (_hK_6 _ _ ?_)
    clear _hK_6
    refine W_seq fun _K_9 _hK_9 => ?_
    refine W_block ?_
    refine W_seq fun _K_10 _hK_10 => ?_
    refine W_drawC [] 28 mixed rfl fun _w_11 _cw_11 => ?_
    have _cw_11z := _cw_11.size
    have E := E.trans _cw_11
    refine DR_s 0 rfl (by kernel_rfl) rfl rfl (t_v (fun _ => (r_move rfl)) ?_)
    refine DR_s 1 rfl (by kernel_rfl) rfl rfl (t_v (fun _ => (r_move rfl)) ?_)
    have _f_12 := ((_h_l.ch0 _E0h).ch0 _cw_11)
    refine DR_s 2 rfl (by kernel_rfl) rfl rfl (t_index _f_12 GNode.len el69 sz68 rfl rfl rfl (by omega) fun _p14 _y14 _hy14 _a14 => ?_)
    refine DR_s 3 rfl (by kernel_rfl) rfl rfl (t_v (fun _ => (r_fieldAddr fa68_0 rfl)) ?_)
    refine DR_s 4 rfl (by kernel_rfl) rfl rfl (t_loadAt _a14 (fun i hi => absurd hi List.not_mem_nil) agg3 rfl rfl ?_)
    refine DR_s 5 rfl (by kernel_rfl) rfl rfl (t_v (fun _ => (r_fieldAddr fa68_0 rfl)) ?_)
    have _f_13 := (_F0_1.ch0 _cw_11)
    refine DR_s 6 rfl (by kernel_rfl) rfl rfl (t_loadAt _f_13.at_ (fun i hi => absurd hi List.not_mem_nil) agg3 rfl rfl ?_)
    refine DR_s 7 rfl (by kernel_rfl) rfl rfl (t_v (fun _ => (r_eql rfl rfl)) ?_)
    refine DR_s 8 rfl (by kernel_rfl) rfl rfl (t_v (fun _ => (r_move rfl)) ?_)
    refine DR_split (d := 20) rfl (fun _h20 => ?_) (fun _h20 => ?_)
    · have _kb_14 := _h20
      have _h20 := bt_d _h20
      refine DR_s 9 rfl (by kernel_rfl) rfl rfl (t_v (fun _ => (r_move rfl)) ?_)
      refine DR_s 10 rfl (by kernel_rfl) rfl rfl (t_v (fun _ => (r_move rfl)) ?_)
      refine DR_s 11 rfl (by kernel_rfl) rfl rfl (t_index _f_12 GNode.len el69 sz68 rfl rfl rfl (by omega) fun _p23 _y23 _hy23 _a23 => ?_)
      refine DR_s 12 rfl (by kernel_rfl) rfl rfl (t_v (fun _ => (r_fieldAddr fa68_1 rfl)) ?_)
      refine DR_s 13 rfl (by kernel_rfl) rfl rfl (t_loadAt _a23 (fun i hi => absurd hi List.not_mem_nil) agg3 rfl rfl ?_)
      refine DR_s 14 rfl (by kernel_rfl) rfl rfl (t_v (fun _ => (r_fieldAddr fa68_1 rfl)) ?_)
      refine DR_s 15 rfl (by kernel_rfl) rfl rfl (t_loadAt _f_13.at_ (fun i hi => absurd hi List.not_mem_nil) agg3 rfl rfl ?_)
      refine DR_s 16 rfl (by kernel_rfl) rfl rfl (t_v (fun _ => (r_eql rfl rfl)) ?_)
      refine DR_s 17 rfl (by kernel_rfl) rfl rfl (t_v (fun _ => (r_pickT rfl rfl)) ?_)
      refine DR_s 18 rfl (by kernel_rfl) rfl rfl (t_v (fun _ => (r_move rfl)) ?_)
      refine DR_split (d := 30) rfl (fun _h30 => ?_) (fun _h30 => ?_)
      · have _kb_15 := _h30
        have _h30 := bt_d _h30
        refine DR_s 19 rfl (by kernel_rfl) rfl rfl (t_v (fun _ => (r_move rfl)) ?_)
        refine DR_s 20 rfl (by kernel_rfl) rfl rfl (t_v (fun _ => (r_move rfl)) ?_)
        refine DR_s 21 rfl (by kernel_rfl) rfl rfl (t_index _f_12 GNode.len el69 sz68 rfl rfl rfl (by omega) fun _p33 _y33 _hy33 _a33 => ?_)
        refine DR_s 22 rfl (by kernel_rfl) rfl rfl (t_v (fun _ => (r_fieldAddr fa68_2 rfl)) ?_)
        refine DR_s 23 rfl (by kernel_rfl) rfl rfl (t_loadAt _a33 (fun i hi => absurd hi List.not_mem_nil) agg4 rfl rfl ?_)
        refine DR_s 24 rfl (by kernel_rfl) rfl rfl (t_v (fun _ => (r_fieldAddr fa68_2 rfl)) ?_)
        refine DR_s 25 rfl (by kernel_rfl) rfl rfl (t_loadAt _f_13.at_ (fun i hi => absurd hi List.not_mem_nil) agg4 rfl rfl ?_)
        refine DR_s 26 rfl (by kernel_rfl) rfl rfl (t_v (fun _ => (r_eqlB un4 rfl rfl)) ?_)
        refine DR_s 27 rfl (by kernel_rfl) rfl rfl (t_v (fun _ => (r_pickT rfl rfl)) ?_)
        refine DR_done (by kernel_rfl) ?_
        refine thn_nrm (_hK_10 _ _ ?_)
        clear _hK_10
        refine W_cond rfl (fun _h39 => ?_) (fun _h39 => ?_)
        · have _kb_16 := _h39
          have _h39 := bt_e _h39
          refine W_seq fun _K_17 _hK_17 => ?_
          refine W_region ?_
          refine WL_step rfl rfl (r_assign rfl) ?_
          refine WL_nil ?_
          refine thn_nrm (_hK_17 _ _ ?_)
          clear _hK_17
          refine W_ret (inB_ret (thn_ret (thn_ret (inB_ret (thn_ret ?_)))))
          clear _hK_3 _hK_9
          exact ret_intro [_] ⟨rfl, trivial⟩ ⟨congrArg Value.bool (by first | exact tt_true (has_hit _hy14 (by simp_all) (by simp_all) (by simp_all)) | exact tt_false (has_end _ht (by omega))), E⟩
        · have _kb_16 := _h39
          have _h39 := bf_e _h39
          refine W_skip ?_
          refine inB_nrm ?_
          refine thn_nrm (_hK_9 _ _ ?_)
          clear _hK_9
          refine W_region ?_
          refine WL_step rfl rfl (r_move rfl) ?_
          refine WL_step rfl rfl (r_add (by omega) rfl rfl) ?_
          refine WL_step rfl rfl (r_assign rfl) ?_
          refine WL_nil ?_
          exact thn_nrm (Exists.intro (k + 1) ⟨⟨E, (by omega), (by omega), (has_step _ht _hy14 (fun c => by simp_all)), _f_13⟩, Sub.cons rfl (Sub.cons rfl (Sub.cons rfl (Sub.nil _))), (by first | omega | (dsimp only; omega))⟩)
      · have _kb_15 := _h30
        have _h30 := bf_d _h30
        refine DR_skip 19 rfl (by kernel_rfl) rfl rfl ?_
        refine DR_skip 20 rfl (by kernel_rfl) rfl rfl ?_
        refine DR_skip 21 rfl (by kernel_rfl) rfl rfl ?_
        refine DR_skip 22 rfl (by kernel_rfl) rfl rfl ?_
        refine DR_skip 23 rfl (by kernel_rfl) rfl rfl ?_
        refine DR_skip 24 rfl (by kernel_rfl) rfl rfl ?_
        refine DR_skip 25 rfl (by kernel_rfl) rfl rfl ?_
        refine DR_skip 26 rfl (by kernel_rfl) rfl rfl ?_
        refine DR_s 27 rfl (by kernel_rfl) rfl rfl (t_v (fun _ => (r_pickF rfl rfl)) ?_)
        refine DR_done (by kernel_rfl) ?_
        refine thn_nrm (_hK_10 _ _ ?_)
        clear _hK_10
        refine W_condF rfl ?_
        refine W_skip ?_
        refine inB_nrm ?_
        refine thn_nrm (_hK_9 _ _ ?_)
        clear _hK_9
        refine W_region ?_
        refine WL_step rfl rfl (r_move rfl) ?_
        refine WL_step rfl rfl (r_add (by omega) rfl rfl) ?_
        refine WL_step rfl rfl (r_assign rfl) ?_
        refine WL_nil ?_
        exact thn_nrm (Exists.intro (k + 1) ⟨⟨E, (by omega), (by omega), (has_step _ht _hy14 (fun c => by simp_all)), _f_13⟩, Sub.cons rfl (Sub.cons rfl (Sub.cons rfl (Sub.nil _))), (by first | omega | (dsimp only; omega))⟩)
    · have _kb_14 := _h20
      have _h20 := bf_d _h20
      refine DR_skip 9 rfl (by kernel_rfl) rfl rfl ?_
      refine DR_skip 10 rfl (by kernel_rfl) rfl rfl ?_
      refine DR_skip 11 rfl (by kernel_rfl) rfl rfl ?_
      refine DR_skip 12 rfl (by kernel_rfl) rfl rfl ?_
      refine DR_skip 13 rfl (by kernel_rfl) rfl rfl ?_
      refine DR_skip 14 rfl (by kernel_rfl) rfl rfl ?_
      refine DR_skip 15 rfl (by kernel_rfl) rfl rfl ?_
      refine DR_skip 16 rfl (by kernel_rfl) rfl rfl ?_
      refine DR_s 17 rfl (by kernel_rfl) rfl rfl (t_v (fun _ => (r_pickF rfl rfl)) ?_)
      refine DR_s 18 rfl (by kernel_rfl) rfl rfl (t_v (fun _ => (r_move rfl)) ?_)
      refine DR_skip 19 rfl (by kernel_rfl) rfl rfl ?_
      refine DR_skip 20 rfl (by kernel_rfl) rfl rfl ?_
      refine DR_skip 21 rfl (by kernel_rfl) rfl rfl ?_
      refine DR_skip 22 rfl (by kernel_rfl) rfl rfl ?_
      refine DR_skip 23 rfl (by kernel_rfl) rfl rfl ?_
      refine DR_skip 24 rfl (by kernel_rfl) rfl rfl ?_
      refine DR_skip 25 rfl (by kernel_rfl) rfl rfl ?_
      refine DR_skip 26 rfl (by kernel_rfl) rfl rfl ?_
      refine DR_s 27 rfl (by kernel_rfl) rfl rfl (t_v (fun _ => (r_pickF rfl rfl)) ?_)
      refine DR_done (by kernel_rfl) ?_
      refine thn_nrm (_hK_10 _ _ ?_)
      clear _hK_10
      refine W_condF rfl ?_
      refine W_skip ?_
      refine inB_nrm ?_
      refine thn_nrm (_hK_9 _ _ ?_)
      clear _hK_9
      refine W_region ?_
      refine WL_step rfl rfl (r_move rfl) ?_
      refine WL_step rfl rfl (r_add (by omega) rfl rfl) ?_
      refine WL_step rfl rfl (r_assign rfl) ?_
      refine WL_nil ?_
      exact thn_nrm (Exists.intro (k + 1) ⟨⟨E, (by omega), (by omega), (has_step _ht _hy14 (fun c => by simp_all)), _f_13⟩, Sub.cons rfl (Sub.cons rfl (Sub.cons rfl (Sub.nil _))), (by first | omega | (dsimp only; omega))⟩)
  · have _kb_8 := _h9
    have _h9 := bf_d _h9
    refine W_exit (thn_exit (thn_exit (inB_hit ?_)))
    refine thn_nrm (_hK_3 _ _ ?_)
    clear _hK_3
    refine W_seq fun _K_18 _hK_18 => ?_
    refine W_region ?_
    refine WL_step rfl rfl (r_assign rfl) ?_
    refine WL_nil ?_
    refine thn_nrm (_hK_18 _ _ ?_)
    clear _hK_18
    refine W_ret ?_
    clear _hK_6
    exact ret_intro [_] ⟨rfl, trivial⟩ ⟨congrArg Value.bool (by first | exact tt_true (has_hit _hy14 (by simp_all) (by simp_all) (by simp_all)) | exact tt_false (has_end _ht (by omega))), E⟩

/-- spec.l10Word -/
theorem c_spec_l10Word {w : World} {LL_l _B_l : Nat} {_v_l : Value} {l : List GNode} (_h_l : Ls GNode.cs 5 w LL_l _B_l _v_l l) (k : Int) (EE : List (St2 × List Int)) (hn : NdR l EE) (_hk : 0 ≤ k ∧ k < l.length) (hW : ∀ x ∈ EE, x.2.length ≤ 1000) :
    Ctr Try.prog 62 #[_v_l, (.int .i64 k)] w (fun v w' => Ol ics 3 1 w' v (ndw EE k) ∧ Lo w.heap.size v ∧ Ch [] w w') := by
  obtain ⟨_A_l, _C_l, _e1_l⟩ := _h_l.val
  subst _e1_l
  have _l_l := _h_l.len
  have _h_l := _h_l.here (by decide)
  have E := Ch.refl [] w
  refine Ctr_of_W (N := 23) (vs0 := [(.slice _A_l l.length _C_l), (.int .i64 k)]) Try.func62 rfl rfl rfl ?_
  refine W_seq fun _K_1 _hK_1 => ?_
  refine W_region ?_
  refine WL_step rfl rfl (r_assign rfl) ?_
  refine WL_nil ?_
  refine thn_nrm (_hK_1 _ _ ?_)
  clear _hK_1
  refine W_seq fun _K_2 _hK_2 => ?_
  refine W_region ?_
  refine WL_s rfl rfl ?_
  refine s_buildSlice0 (k := 1) ics el31 sz3 fun _v6 _w_3 _q6 _lo6 _cw_3 => ?_
  have _cw_3z := _cw_3.size
  have E := E.trans _cw_3
  obtain ⟨_Av6, _Cv6, _ev6⟩ := _q6.val
  subst _ev6
  have _lv6 := _q6.len
  have _hiv6 := _q6.lt
  refine WL_step rfl rfl (r_assign rfl) ?_
  refine WL_nil ?_
  refine thn_nrm (_hK_2 _ _ ?_)
  clear _hK_2
  refine W_seq fun _K_4 _hK_4 => ?_
  refine W_block ?_
  have _oi_5 : Ol ics 3 1 _w_3 (.slice _Av6 (([] : List Int)).length _Cv6) (([] : List Int)) := by
    have hx := _q6
    exact hx
  refine W_loop (σ := Int × List Int × Value) (fun ⟨q, o, kv⟩ => [(0, (.slice _A_l l.length _C_l)), (1, (.int .i64 q)), (4, (.slice none 0 0)), (5, kv)]) (fun ⟨q, o, kv⟩ wx => Ch [] w wx ∧ _w_3.heap.size ≤ wx.heap.size ∧ (0 ≤ q ∧ q < l.length) ∧ (ndw EE q ++ o = ndw EE k) ∧ (o.length ≤ 1000) ∧ Ol ics 3 1 wx kv o ∧ Lo w.heap.size kv) (fun ⟨q, o, kv⟩ => q.toNat) (k, ([] : List Int), (.slice _Av6 (([] : List Int)).length _Cv6)) (Sub.cons rfl (Sub.cons rfl (Sub.cons rfl (Sub.cons rfl (Sub.nil _))))) ⟨E, (Nat.le_refl _), _hk, (by simp), (by simp), _oi_5, _lo6⟩ ?_
  rintro ⟨q, o, kv⟩ _wr_6 ⟨E, _zz0, hq, ho, hb, _o0_5, _lo0_5⟩
  have _E0h := E
  have _E0hz := _E0h.size
  obtain ⟨Akv, Ckv, ekv⟩ := _o0_5.val
  subst ekv
  have lkv := _o0_5.len
  have hikv := _o0_5.lt
  refine W_seq fun _K_7 _hK_7 => ?_
  refine W_seq fun _K_8 _hK_8 => ?_
  refine W_region ?_
  refine WL_step rfl rfl (r_move rfl) ?_
  refine WL_step rfl rfl (r_gtr rfl rfl) ?_
  refine WL_nil ?_
  refine thn_nrm (_hK_8 _ _ ?_)
  clear _hK_8
  refine W_cond rfl (fun _h8 => ?_) (fun _h8 => ?_)
  · have _kb_9 := _h8
    have _h8 := bt_d _h8
    refine W_skip ?_
    refine thn_nrm (_hK_7 _ _ ?_)
    clear _hK_7
    refine W_block ?_
    refine W_seq fun _K_10 _hK_10 => ?_
    refine W_region ?_
    refine WL_step rfl rfl (r_move rfl) ?_
    refine WL_step rfl rfl (r_move rfl) ?_
    refine WL_s rfl rfl ?_
    have _f_11 := (_h_l.ch0 _E0h)
    refine (s_index (j := q.toNat) _f_11 GNode.len el69 sz68 rfl rfl (by omega) (by omega) fun _p11 _y11 _hy11 _a11 => ?_)
    have nd := ndw_step hn (by omega) _hy11
    have _l1 := congrArg List.length ho
    have _l2 := ndw_len (k := k) hW
    rw [nd.1] at _l1
    simp only [List.length_append, List.length_singleton] at _l1
    refine WL_step rfl rfl (r_fieldAddr fa68_4 rfl) ?_
    refine WL_step rfl rfl (r_loadAt _a11 agg3 rfl rfl) ?_
    refine WL_s rfl rfl ?_
    refine s_buildSlice (cs := ics) (parts := [(0, .tmp 13)]) (0 : Int) [_y11.by_] el31 sz3 zr3 ics_len (by decide) rfl rfl rfl (by decide) (by decide) rfl fun _v14 _w_12 _q14 _lo14 _cw_12 => ?_
    have _cw_12z := _cw_12.size
    have E := E.trans _cw_12
    obtain ⟨_Av14, _Cv14, _ev14⟩ := _q14.val
    subst _ev14
    have _lv14 := _q14.len
    have _hiv14 := _q14.lt
    refine WL_step rfl rfl (r_move rfl) ?_
    refine WL_s rfl rfl ?_
    have _f_14 := (_o0_5.ch0 _cw_12)
    refine s_append (cs := ics) el31 sz3 by3 zr3 rfl (by decide) ics_one _q14 _f_14.ls rfl rfl (by first | omega | (simp only [List.length_singleton]; omega)) (by first | omega | (simp only [List.length_singleton]; omega)) _lo14 (by omega) fun _v16 _w_13 _q16 _lo16 _ap16 _cw_13 => ?_
    have _cw_13z := _cw_13.size
    have E := E.step _cw_13 (fun i hi => .inl (by have _h1 := _lo14 _ hi; omega))
    obtain ⟨_Av16, _Cv16, _ev16⟩ := _q16.val
    subst _ev16
    have _lv16 := _q16.len
    have _hiv16 := _q16.lt
    refine WL_step rfl rfl (r_assign rfl) ?_
    refine WL_nil ?_
    refine thn_nrm (_hK_10 _ _ ?_)
    clear _hK_10
    refine W_region ?_
    refine WL_step rfl rfl (r_move rfl) ?_
    refine WL_step rfl rfl (r_move rfl) ?_
    refine WL_s rfl rfl ?_
    have _f_15 := ((_f_11.ch0 _cw_12).ch _cw_13 (fun i hi => by have _h1 := _lo14 _ hi; omega))
    refine (s_index (j := q.toNat) _f_15 GNode.len el69 sz68 rfl rfl (by omega) (by omega) fun _p19 _y19 _hy19 _a19 => ?_)
    refine WL_step rfl rfl (r_fieldAddr fa68_3 rfl) ?_
    refine WL_step rfl rfl (r_loadAt _a19 agg3 rfl rfl) ?_
    refine WL_step rfl rfl (r_assign rfl) ?_
    refine WL_nil ?_
    refine inB_nrm ?_
    have _on_16 : Ol ics 3 1 _w_13 (.slice _Av16 (([_y11.by_] ++ o)).length _Cv16) (([_y11.by_] ++ o)) := by
      have hx := _q16
      exact hx
    exact thn_nrm (Exists.intro (_y19.frm, ([_y11.by_] ++ o), (.slice _Av16 (([_y11.by_] ++ o)).length _Cv16)) ⟨⟨E, (by omega), (by have _u9 := get_uniq _hy11 _hy19; rw [← _u9]; omega), (by have _u9 := get_uniq _hy11 _hy19; rw [← ho, nd.1, ← _u9]; simp), (by have _u9 := get_uniq _hy11 _hy19; simp only [List.length_append, List.length_singleton]; omega), _on_16, (Lo.down _lo16 (by omega))⟩, Sub.cons rfl (Sub.cons rfl (Sub.cons rfl (Sub.cons rfl (Sub.nil _)))), (by have _u9 := get_uniq _hy11 _hy19; rw [← _u9]; dsimp only; omega)⟩)
  · have _kb_9 := _h8
    have _h8 := bf_d _h8
    refine W_exit (thn_exit (thn_exit (inB_hit ?_)))
    refine thn_nrm (_hK_4 _ _ ?_)
    clear _hK_4
    refine W_seq fun _K_17 _hK_17 => ?_
    refine W_region ?_
    refine WL_step rfl rfl (r_move rfl) ?_
    refine WL_step rfl rfl (r_assign rfl) ?_
    refine WL_nil ?_
    refine thn_nrm (_hK_17 _ _ ?_)
    clear _hK_17
    refine W_ret ?_
    clear _hK_7
    have _o_18 : Ol ics 3 1 _wr_6 (.slice Akv (o).length Ckv) (ndw EE k) := by
      have hx := _o0_5
      rw [← ho, ndw_zero hn (by omega) (by omega)]; simpa using hx
    exact ret_intro [_] ⟨rfl, trivial⟩ ⟨_o_18, Lo.down _lo0_5 (by omega), E⟩

/-- spec.l12Accept -/
theorem c_spec_l12Accept {w : World} (aS : Int) {LL_aA _B_aA : Nat} {_v_aA : Value} {aA : List Bool} (_h_aA : Ls bcs 1 w LL_aA _B_aA _v_aA aA) {LL_saN _B_saN : Nat} {_v_saN : Value} {saN : List Sv} (_h_saN : Ls Sv.cs 1 w LL_saN _B_saN _v_saN saN) {LR_aN BB_aN : Nat} {aN : List (List Int)} (_rd_aN : Rd ics 1 w LR_aN BB_aN saN aN) (s : Int) (hs : s ≤ (aA.length : Int) - 1) :
    Ctr Try.prog 61 #[(.agg #[(.int .i64 aS), _v_aA, _v_saN]), (.int .i64 s)] w (fun v w' => v = .bool (accA aA s) ∧ Ch [] w w') := by
  obtain ⟨_A_aA, _C_aA, _e1_aA⟩ := _h_aA.val
  subst _e1_aA
  have _l_aA := _h_aA.len
  have _h_aA := _h_aA.here (by decide)
  obtain ⟨_A_saN, _C_saN, _e1_saN⟩ := _h_saN.val
  subst _e1_saN
  have _l_saN := _h_saN.len
  have _h_saN := _h_saN.here (by decide)
  have _rd_aN := _rd_aN.here (by decide)
  have _rl_aN := _rd_aN.1
  have E := Ch.refl [] w
  refine Ctr_of_W (N := 14) (vs0 := [(.agg #[(.int .i64 aS), (.slice _A_aA aA.length _C_aA), (.slice _A_saN saN.length _C_saN)]), (.int .i64 s)]) Try.func61 rfl rfl rfl ?_
  refine W_seq fun _K_1 _hK_1 => ?_
  refine W_region ?_
  refine WL_s rfl rfl ?_
  refine s_box rfl fun _b2 _w_2 _m2 _cw_2 _e2 => ?_
  have _cw_2z := _cw_2.size
  have E := E.trans _cw_2
  have _z2 := _m2.lt
  replace _m2 : Blk _w_2 _b2 28 [(.int .i64 aS), (.slice _A_aA aA.length _C_aA), (.slice _A_saN saN.length _C_saN)] := _m2
  refine WL_step rfl rfl (r_assign rfl) ?_
  refine WL_nil ?_
  refine thn_nrm (_hK_1 _ _ ?_)
  clear _hK_1
  refine W_seq fun _K_3 _hK_3 => ?_
  refine W_region ?_
  refine WL_step rfl rfl (r_move rfl) ?_
  refine WL_step rfl rfl (r_geq rfl rfl) ?_
  refine WL_step rfl rfl (r_move rfl) ?_
  refine WL_split (d := 7) rfl (fun _h7 => ?_) (fun _h7 => ?_)
  · have _kb_4 := _h7
    have _h7 := bt_d _h7
    refine WL_step rfl rfl (r_fieldAddr fa28_1 rfl) ?_
    refine WL_step rfl rfl (r_loadAt _m2.at_ agg22 rfl rfl) ?_
    refine WL_step rfl rfl (r_move rfl) ?_
    refine WL_s rfl rfl ?_
    have _f_5 := (_h_aA.ch0 _cw_2)
    refine (s_index (j := s.toNat) _f_5 bcs_len el22 sz4 rfl rfl (by omega) (by omega) fun _p11 _y11 _hy11 _a11 => ?_)
    refine WL_step rfl rfl (r_loadAt0 _a11 agg4 rfl rfl) ?_
    refine WL_step rfl rfl (r_pickT rfl rfl) ?_
    refine WL_step rfl rfl (r_assign rfl) ?_
    refine WL_nil ?_
    refine thn_nrm (_hK_3 _ _ ?_)
    clear _hK_3
    refine W_ret ?_
    exact ret_intro [_] ⟨rfl, trivial⟩ ⟨congrArg Value.bool (by first | exact accA_y (by omega) _hy11 | exact accA_n (by omega)), E⟩
  · have _kb_4 := _h7
    have _h7 := bf_d _h7
    refine WL_skip rfl rfl ?_
    refine WL_skip rfl rfl ?_
    refine WL_skip rfl rfl ?_
    refine WL_skip rfl rfl ?_
    refine WL_skip rfl rfl ?_
    refine WL_step rfl rfl (r_pickF rfl rfl) ?_
    refine WL_step rfl rfl (r_assign rfl) ?_
    refine WL_nil ?_
    refine thn_nrm (_hK_3 _ _ ?_)
    clear _hK_3
    refine W_ret ?_
    exact ret_intro [_] ⟨rfl, trivial⟩ ⟨congrArg Value.bool (by first | exact accA_y (by omega) _hy11 | exact accA_n (by omega)), E⟩

/-- spec.l12Next -/
theorem c_spec_l12Next {w : World} (aS : Int) {LL_aA _B_aA : Nat} {_v_aA : Value} {aA : List Bool} (_h_aA : Ls bcs 1 w LL_aA _B_aA _v_aA aA) {LL_saN _B_saN : Nat} {_v_saN : Value} {saN : List Sv} (_h_saN : Ls Sv.cs 1 w LL_saN _B_saN _v_saN saN) {LR_aN BB_aN : Nat} {aN : List (List Int)} (_rd_aN : Rd ics 1 w LR_aN BB_aN saN aN) (s : Int) (x : Int) (hv : ValidA aS aA aN) (hs : -1 ≤ s ∧ s ≤ (aA.length : Int) - 1) (hx : 0 ≤ x ∧ x ≤ 8) :
    Ctr Try.prog 63 #[(.agg #[(.int .i64 aS), _v_aA, _v_saN]), (.int .i64 s), (.int .i64 x)] w (fun v w' => v = .int .i64 (moveA aN s x) ∧ Ch [] w w') := by
  obtain ⟨_A_aA, _C_aA, _e1_aA⟩ := _h_aA.val
  subst _e1_aA
  have _l_aA := _h_aA.len
  have _h_aA := _h_aA.here (by decide)
  obtain ⟨_A_saN, _C_saN, _e1_saN⟩ := _h_saN.val
  subst _e1_saN
  have _l_saN := _h_saN.len
  have _h_saN := _h_saN.here (by decide)
  have _rd_aN := _rd_aN.here (by decide)
  have _rl_aN := _rd_aN.1
  have E := Ch.refl [] w
  have hv2 := hv.2.2.1
  refine Ctr_of_W (N := 17) (vs0 := [(.agg #[(.int .i64 aS), (.slice _A_aA aA.length _C_aA), (.slice _A_saN saN.length _C_saN)]), (.int .i64 s), (.int .i64 x)]) Try.func63 rfl rfl rfl ?_
  refine W_seq fun _K_1 _hK_1 => ?_
  refine W_region ?_
  refine WL_s rfl rfl ?_
  refine s_box rfl fun _b3 _w_2 _m3 _cw_2 _e3 => ?_
  have _cw_2z := _cw_2.size
  have E := E.trans _cw_2
  have _z3 := _m3.lt
  replace _m3 : Blk _w_2 _b3 28 [(.int .i64 aS), (.slice _A_aA aA.length _C_aA), (.slice _A_saN saN.length _C_saN)] := _m3
  refine WL_step rfl rfl (r_assign rfl) ?_
  refine WL_nil ?_
  refine thn_nrm (_hK_1 _ _ ?_)
  clear _hK_1
  refine W_seq fun _K_3 _hK_3 => ?_
  refine W_seq fun _K_4 _hK_4 => ?_
  refine W_region ?_
  refine WL_step rfl rfl (r_move rfl) ?_
  refine WL_step rfl rfl (r_lss rfl rfl) ?_
  refine WL_nil ?_
  refine thn_nrm (_hK_4 _ _ ?_)
  clear _hK_4
  refine W_cond rfl (fun _h8 => ?_) (fun _h8 => ?_)
  · have _kb_5 := _h8
    have _h8 := bt_d _h8
    refine W_seq fun _K_6 _hK_6 => ?_
    refine W_region ?_
    refine WL_step rfl rfl (r_assign rfl) ?_
    refine WL_nil ?_
    refine thn_nrm (_hK_6 _ _ ?_)
    clear _hK_6
    refine W_ret (thn_ret ?_)
    clear _hK_3
    exact ret_intro [_] ⟨rfl, trivial⟩ ⟨congrArg (Value.int .i64) (by first | exact move_y (by omega) hx _hys12 _hy15 | exact move_n (.inl (by omega))), E⟩
  · have _kb_5 := _h8
    have _h8 := bf_d _h8
    refine W_skip ?_
    refine thn_nrm (_hK_3 _ _ ?_)
    clear _hK_3
    refine W_seq fun _K_7 _hK_7 => ?_
    refine W_region ?_
    refine WL_step rfl rfl (r_fieldAddr fa28_2 rfl) ?_
    refine WL_step rfl rfl (r_loadAt _m3.at_ agg23 rfl rfl) ?_
    refine WL_step rfl rfl (r_move rfl) ?_
    refine WL_s rfl rfl ?_
    have _f_8 := (_h_saN.ch0 _cw_2)
    refine (s_index (j := s.toNat) _f_8 Sv.len el23 sz31 rfl rfl (by omega) (by omega) fun _p12 _y12 _hy12 _a12 => ?_)
    have _f_9 := (_rd_aN.ch0 _cw_2)
    obtain ⟨_ys12, _hys12, _fs12⟩ := _f_9.get _hy12
    obtain ⟨_A12, _n12, _C12⟩ := _y12
    obtain rfl := _fs12.eqn
    have _l12 := _fs12.len
    replace _fs12 : Ls ics 1 _w_2 LR_aN w.heap.size (.slice _A12 _ys12.length _C12) _ys12 := _fs12
    replace _a12 : At _w_2 LL_saN w.heap.size _p12 ([(.slice _A12 _ys12.length _C12)]) := _a12
    have _e12 := (fits_row hv.2 _hys12).1
    refine WL_step rfl rfl (r_loadAt0 _a12 agg31 rfl rfl) ?_
    refine WL_step rfl rfl (r_move rfl) ?_
    refine WL_s rfl rfl ?_
    refine (s_index (j := x.toNat) _fs12 ics_len el31 sz3 rfl rfl (by omega) (by omega) fun _p15 _y15 _hy15 _a15 => ?_)
    refine WL_step rfl rfl (r_loadAt0 _a15 agg3 rfl rfl) ?_
    refine WL_step rfl rfl (r_assign rfl) ?_
    refine WL_nil ?_
    refine thn_nrm (_hK_7 _ _ ?_)
    clear _hK_7
    refine W_ret ?_
    exact ret_intro [_] ⟨rfl, trivial⟩ ⟨congrArg (Value.int .i64) (by first | exact move_y (by omega) hx _hys12 _hy15 | exact move_n (.inl (by omega))), E⟩

/-- spec.l12Differ -/
theorem c_spec_l12Differ {w : World} (aS : Int) {LL_aA _B_aA : Nat} {_v_aA : Value} {aA : List Bool} (_h_aA : Ls bcs 1 w LL_aA _B_aA _v_aA aA) {LL_saN _B_saN : Nat} {_v_saN : Value} {saN : List Sv} (_h_saN : Ls Sv.cs 1 w LL_saN _B_saN _v_saN saN) {LR_aN BB_aN : Nat} {aN : List (List Int)} (_rd_aN : Rd ics 1 w LR_aN BB_aN saN aN) (s : Int) (bS : Int) {LL_bA _B_bA : Nat} {_v_bA : Value} {bA : List Bool} (_h_bA : Ls bcs 1 w LL_bA _B_bA _v_bA bA) {LL_sbN _B_sbN : Nat} {_v_sbN : Value} {sbN : List Sv} (_h_sbN : Ls Sv.cs 1 w LL_sbN _B_sbN _v_sbN sbN) {LR_bN BB_bN : Nat} {bN : List (List Int)} (_rd_bN : Rd ics 1 w LR_bN BB_bN sbN bN) (t : Int) (only : Bool) (hva : ValidA aS aA aN) (hvb : ValidA bS bA bN) (hs : inA aA s) (_ht : inA bA t) :
    Ctr Try.prog 36 #[(.agg #[(.int .i64 aS), _v_aA, _v_saN]), (.int .i64 s), (.agg #[(.int .i64 bS), _v_bA, _v_sbN]), (.int .i64 t), (.bool only)] w (fun v w' => ∃ (_u0 : Value), v = .tuple #[_u0, .bool ((difR aA aN bA bN ⟨s, t⟩ only).2)] ∧ Ol ics 3 1 w' _u0 ((difR aA aN bA bN ⟨s, t⟩ only).1) ∧ Lo w.heap.size _u0 ∧ Ch [] w w') := by
  obtain ⟨_A_aA, _C_aA, _e1_aA⟩ := _h_aA.val
  subst _e1_aA
  have _l_aA := _h_aA.len
  have _h_aA := _h_aA.here (by decide)
  obtain ⟨_A_saN, _C_saN, _e1_saN⟩ := _h_saN.val
  subst _e1_saN
  have _l_saN := _h_saN.len
  have _h_saN := _h_saN.here (by decide)
  have _rd_aN := _rd_aN.here (by decide)
  have _rl_aN := _rd_aN.1
  obtain ⟨_A_bA, _C_bA, _e1_bA⟩ := _h_bA.val
  subst _e1_bA
  have _l_bA := _h_bA.len
  have _h_bA := _h_bA.here (by decide)
  obtain ⟨_A_sbN, _C_sbN, _e1_sbN⟩ := _h_sbN.val
  subst _e1_sbN
  have _l_sbN := _h_sbN.len
  have _h_sbN := _h_sbN.here (by decide)
  have _rd_bN := _rd_bN.here (by decide)
  have _rl_bN := _rd_bN.1
  have E := Ch.refl [] w
  have hin := inS_all hva hvb (s := ⟨s, t⟩) ⟨hs, _ht⟩; have hle := lenS hva hvb (s := ⟨s, t⟩) ⟨hs, _ht⟩; unfold inS inA at hin; have hwl := wlenS aN bN ⟨s, t⟩
  refine Ctr_of_W (N := 93) (vs0 := [(.agg #[(.int .i64 aS), (.slice _A_aA aA.length _C_aA), (.slice _A_saN saN.length _C_saN)]), (.int .i64 s), (.agg #[(.int .i64 bS), (.slice _A_bA bA.length _C_bA), (.slice _A_sbN sbN.length _C_sbN)]), (.int .i64 t), (.bool only)]) Try.func36 rfl rfl rfl ?_
  refine W_seq fun _K_1 _hK_1 => ?_
  refine W_region ?_
  refine WL_s rfl rfl ?_
  refine s_box rfl fun _b5 _w_2 _m5 _cw_2 _e5 => ?_
  have _cw_2z := _cw_2.size
  have E := E.trans _cw_2
  have _z5 := _m5.lt
  replace _m5 : Blk _w_2 _b5 28 [(.int .i64 aS), (.slice _A_aA aA.length _C_aA), (.slice _A_saN saN.length _C_saN)] := _m5
  refine WL_s rfl rfl ?_
  refine s_box rfl fun _b7 _w_3 _m7 _cw_3 _e7 => ?_
  have _cw_3z := _cw_3.size
  have E := E.trans _cw_3
  have _z7 := _m7.lt
  replace _m7 : Blk _w_3 _b7 28 [(.int .i64 bS), (.slice _A_bA bA.length _C_bA), (.slice _A_sbN sbN.length _C_sbN)] := _m7
  refine WL_step rfl rfl (r_assign rfl) ?_
  refine WL_step rfl rfl (r_assign rfl) ?_
  refine WL_nil ?_
  refine thn_nrm (_hK_1 _ _ ?_)
  clear _hK_1
  refine W_seq fun _K_4 _hK_4 => ?_
  refine W_region ?_
  refine WL_step rfl rfl (r_move rfl) ?_
  refine WL_step rfl rfl (r_move rfl) ?_
  refine WL_step rfl rfl (r_build (parts := [(0, .tmp 18), (1, .tmp 19)]) (cells := [(.int .i64 s), (.int .i64 t), (.bool false), (.int .i64 0), (.int .i64 0)]) zr68 pl68 rfl rfl) ?_
  refine WL_s rfl rfl ?_
  refine s_buildSlice (cs := GNode.cs) (parts := [(0, .tmp 20)]) (⟨0, 0, false, 0, 0⟩ : GNode) [(⟨s, t, false, 0, 0⟩ : GNode)] el69 sz68 zr68 GNode.len (by decide) rfl rfl rfl (by decide) (by decide) rfl fun _v21 _w_5 _q21 _lo21 _cw_5 => ?_
  have _cw_5z := _cw_5.size
  have E := E.trans _cw_5
  obtain ⟨_Av21, _Cv21, _ev21⟩ := _q21.val
  subst _ev21
  have _lv21 := _q21.len
  have _hiv21 := _q21.lt
  refine WL_step rfl rfl (r_assign rfl) ?_
  refine WL_nil ?_
  refine thn_nrm (_hK_4 _ _ ?_)
  clear _hK_4
  refine W_seq fun _K_6 _hK_6 => ?_
  refine W_seq fun _K_7 _hK_7 => ?_
  refine W_region ?_
  refine WL_step rfl rfl (r_assign rfl) ?_
  refine WL_nil ?_
  refine thn_nrm (_hK_7 _ _ ?_)
  clear _hK_7
  refine W_block ?_
  have _oi_8 : Ol GNode.cs 68 5 _w_5 (.slice _Av21 ([(⟨s, t, false, 0, 0⟩ : GNode)]).length _Cv21) ([(⟨s, t, false, 0, 0⟩ : GNode)]) := by
    have hx := _q21
    exact hx
  have _f_9 := ((_m5.ch0 _cw_3).ch0 _cw_5)
  have _f_10 := (_m7.ch0 _cw_5)
  refine W_loop (σ := Nat × List GNode × Value) (fun ⟨k, L, kl⟩ => [(4, (.bool only)), (5, (.pointer (some ⟨_b5, 0, none⟩))), (7, (.pointer (some ⟨_b7, 0, none⟩))), (12, kl), (13, (.int .i64 ((k : Nat) : Int)))]) (fun ⟨k, L, kl⟩ wx => Ch [] w wx ∧ _w_5.heap.size ≤ wx.heap.size ∧ (k ≤ (bE (nxS aN bN) (⟨s, t⟩ : St2) k).length) ∧ (NdR L (bE (nxS aN bN) (⟨s, t⟩ : St2) k)) ∧ (∀ j x, j < k → (bE (nxS aN bN) (⟨s, t⟩ : St2) j)[j]? = some x → (tsD aA bA only) x.1 = false) ∧ Blk wx _b5 28 [(.int .i64 aS), (.slice _A_aA aA.length _C_aA), (.slice _A_saN saN.length _C_saN)] ∧ Blk wx _b7 28 [(.int .i64 bS), (.slice _A_bA bA.length _C_bA), (.slice _A_sbN sbN.length _C_sbN)] ∧ Ol GNode.cs 68 5 wx kl L ∧ Lo _w_3.heap.size kl) (fun ⟨k, L, kl⟩ => 170 - k) (0, [(⟨s, t, false, 0, 0⟩ : GNode)], (.slice _Av21 ([(⟨s, t, false, 0, 0⟩ : GNode)]).length _Cv21)) (Sub.cons rfl (Sub.cons rfl (Sub.cons rfl (Sub.cons rfl (Sub.cons rfl (Sub.nil _)))))) ⟨E, (Nat.le_refl _), (Nat.zero_le _), (ndr_0 (s := ⟨s, t⟩)), (fun _ _ h => absurd h (by omega)), _f_9, _f_10, _oi_8, _lo21⟩ ?_
  rintro ⟨k, L, kl⟩ _wr_11 ⟨E, _zz0, _hk, hL, hf, _F0_0, _F0_4, _o0_12, _lo0_12⟩
  have _E0h := E
  have _E0hz := _E0h.size
  have _F0_0z := _F0_0.lt
  have _F0_4z := _F0_4.lt
  obtain ⟨Akl, Ckl, ekl⟩ := _o0_12.val
  subst ekl
  have lkl := _o0_12.len
  have hikl := _o0_12.lt
  have hlk := hle k
  have hLl := hL.len
  refine W_seq fun _K_12 _hK_12 => ?_
  refine W_seq fun _K_13 _hK_13 => ?_
  refine W_region ?_
  refine WL_step rfl rfl (r_move rfl) ?_
  refine WL_step rfl rfl (r_move rfl) ?_
  refine WL_step rfl rfl (r_len (by rw [el69]; rfl) rfl) ?_
  refine WL_step rfl rfl (r_lss rfl rfl) ?_
  refine WL_nil ?_
  refine thn_nrm (_hK_13 _ _ ?_)
  clear _hK_13
  refine W_cond rfl (fun _h25 => ?_) (fun _h25 => ?_)
  · have _kb_14 := _h25
    have _h25 := bt_d _h25
    refine W_skip ?_
    refine thn_nrm (_hK_12 _ _ ?_)
    clear _hK_12
    refine W_seq fun _K_15 _hK_15 => ?_
    refine W_block ?_
    refine W_seq fun _K_16 _hK_16 => ?_
    refine W_drawC [] 8 mixed rfl fun _w_17 _cw_17 => ?_
    have _cw_17z := _cw_17.size
    have E := E.trans _cw_17
    have _f_18 := (_F0_0.ch0 _cw_17)
    refine DR_s 0 rfl (by kernel_rfl) rfl rfl (t_loadAtA0 _f_18.at_ (fun i hi => absurd hi List.not_mem_nil) agg28 sz28 rfl ?_)
    refine DR_s 1 rfl (by kernel_rfl) rfl rfl (t_v (fun _ => (r_move rfl)) ?_)
    refine DR_s 2 rfl (by kernel_rfl) rfl rfl (t_v (fun _ => (r_move rfl)) ?_)
    have _f_19 := (_o0_12.ch0 _cw_17)
    refine DR_s 3 rfl (by kernel_rfl) rfl rfl (t_index _f_19.ls GNode.len el69 sz68 rfl rfl rfl (by omega) fun _p31 _y31 _hy31 _a31 => ?_)
    obtain ⟨_e31, fr31, by31, he31, rfl⟩ := nd_lit hL _hy31
    replace _a31 : At _w_17 0 _w_17.heap.size _p31 ([(.int .i64 _e31.1.a), (.int .i64 _e31.1.b), (.bool false), (.int .i64 fr31), (.int .i64 by31)]) := _a31
    have hi31 := hin k _e31 (mem_of_get he31)
    refine DR_s 4 rfl (by kernel_rfl) rfl rfl (t_v (fun _ => (r_fieldAddr fa68_0 rfl)) ?_)
    refine DR_s 5 rfl (by kernel_rfl) rfl rfl (t_loadAt _a31 (fun i hi => absurd hi List.not_mem_nil) agg3 rfl rfl ?_)
    refine DR_one 6 (by kernel_rfl) ?_
    refine DO_s rfl rfl rfl ?_
    have _f_20 := ((_h_aA.ch0 _E0h).ch0 _cw_17)
    have _f_21 := ((_rd_aN.ch0 _E0h).ch0 _cw_17)
    have _f_22 := ((_h_saN.ch0 _E0h).ch0 _cw_17)
    refine Step.call (r_call (xs := [.tmp 28, .tmp 33]) fk61 rfl) (c_spec_l12Accept _ _f_20 _f_22 _f_21 _ (by omega)) fun _v34 _w_23 _q34 => ?_
    obtain ⟨rfl, _cw_23⟩ := _q34
    have _cw_23z := _cw_23.size
    have E := E.trans _cw_23
    have _S_24 : Ch [] _w_17 _w_23 := ((Ch.refl _ _).trans _cw_23)
    refine ⟨_S_24, ?_⟩
    refine DR_s 7 rfl (by kernel_rfl) rfl rfl (t_v (fun _ => (r_assign rfl)) ?_)
    refine DR_done (by kernel_rfl) ?_
    refine thn_nrm (_hK_16 _ _ ?_)
    clear _hK_16
    refine W_seq fun _K_25 _hK_25 => ?_
    refine W_drawC [] 8 mixed rfl fun _w_26 _cw_26 => ?_
    have _cw_26z := _cw_26.size
    have E := E.trans _cw_26
    have _f_27 := (((_F0_4.ch0 _cw_17).ch0 _cw_23).ch0 _cw_26)
    refine DR_s 0 rfl (by kernel_rfl) rfl rfl (t_loadAtA0 _f_27.at_ (fun i hi => absurd hi List.not_mem_nil) agg28 sz28 rfl ?_)
    refine DR_s 1 rfl (by kernel_rfl) rfl rfl (t_v (fun _ => (r_move rfl)) ?_)
    refine DR_s 2 rfl (by kernel_rfl) rfl rfl (t_v (fun _ => (r_move rfl)) ?_)
    have _f_28 := ((_f_19.ch0 _cw_23).ch0 _cw_26)
    refine DR_s 3 rfl (by kernel_rfl) rfl rfl (t_index _f_28.ls GNode.len el69 sz68 rfl rfl rfl (by omega) fun _p38 _y38 _hy38 _a38 => ?_)
    obtain ⟨_e38, fr38, by38, he38, rfl⟩ := nd_lit hL _hy38
    obtain rfl := get_uniq he31 he38
    replace _a38 : At _w_26 0 _w_26.heap.size _p38 ([(.int .i64 _e31.1.a), (.int .i64 _e31.1.b), (.bool false), (.int .i64 fr38), (.int .i64 by38)]) := _a38
    refine DR_s 4 rfl (by kernel_rfl) rfl rfl (t_v (fun _ => (r_fieldAddr fa68_1 rfl)) ?_)
    refine DR_s 5 rfl (by kernel_rfl) rfl rfl (t_loadAt _a38 (fun i hi => absurd hi List.not_mem_nil) agg3 rfl rfl ?_)
    refine DR_one 6 (by kernel_rfl) ?_
    refine DO_s rfl rfl rfl ?_
    have _f_29 := ((((_h_bA.ch0 _E0h).ch0 _cw_17).ch0 _cw_23).ch0 _cw_26)
    have _f_30 := ((((_rd_bN.ch0 _E0h).ch0 _cw_17).ch0 _cw_23).ch0 _cw_26)
    have _f_31 := ((((_h_sbN.ch0 _E0h).ch0 _cw_17).ch0 _cw_23).ch0 _cw_26)
    refine Step.call (r_call (xs := [.tmp 35, .tmp 40]) fk61 rfl) (c_spec_l12Accept _ _f_29 _f_31 _f_30 _ (by omega)) fun _v41 _w_32 _q41 => ?_
    obtain ⟨rfl, _cw_32⟩ := _q41
    have _cw_32z := _cw_32.size
    have E := E.trans _cw_32
    have _S_33 : Ch [] _w_26 _w_32 := ((Ch.refl _ _).trans _cw_32)
    refine ⟨_S_33, ?_⟩
    refine DR_s 7 rfl (by kernel_rfl) rfl rfl (t_v (fun _ => (r_assign rfl)) ?_)
    refine DR_done (by kernel_rfl) ?_
    refine thn_nrm (_hK_25 _ _ ?_)
    clear _hK_25
    refine W_seq fun _K_34 _hK_34 => ?_
    refine W_seq fun _K_35 _hK_35 => ?_
    refine W_region ?_
    refine WL_step rfl rfl (r_move rfl) ?_
    refine WL_step rfl rfl (r_move rfl) ?_
    refine WL_split (d := 43) rfl (fun _h43 => ?_) (fun _h43 => ?_)
    · have _kb_36 := _h43
      refine WL_step rfl rfl (r_move rfl) ?_
      refine WL_step rfl rfl (r_not rfl) ?_
      refine WL_step rfl rfl (r_pickT rfl rfl) ?_
      refine WL_step rfl rfl (r_move rfl) ?_
      refine WL_split (d := 47) rfl (fun _h47 => ?_) (fun _h47 => ?_)
      · have _kb_37 := _h47
        have _h47 := bt_n _h47
        refine WL_skip rfl rfl ?_
        refine WL_skip rfl rfl ?_
        refine WL_skip rfl rfl ?_
        refine WL_skip rfl rfl ?_
        refine WL_skip rfl rfl ?_
        refine WL_skip rfl rfl ?_
        refine WL_skip rfl rfl ?_
        refine WL_skip rfl rfl ?_
        refine WL_skip rfl rfl ?_
        refine WL_step rfl rfl (r_pickT rfl rfl) ?_
        refine WL_nil ?_
        refine thn_nrm (_hK_35 _ _ ?_)
        clear _hK_35
        refine W_condT rfl ?_
        refine W_seq fun _K_38 _hK_38 => ?_
        refine W_region ?_
        refine WL_step rfl rfl (r_move rfl) ?_
        refine WL_step rfl rfl (r_move rfl) ?_
        refine WL_s rfl rfl ?_
        have _f_39 := (_f_28.ch0 _cw_32)
        refine Step.call (r_call (xs := [.tmp 58, .tmp 59]) fk62 rfl) (c_spec_l10Word _f_39.ls _ (bE (nxS aN bN) (⟨s, t⟩ : St2) k) hL (by omega) (fun x hx => by have _z1 := hwl k x hx; have _z2 := hle k; omega)) fun _v60 _w_40 _q60 => ?_
        obtain ⟨_q60, _lo60, _cw_40⟩ := _q60
        have _cw_40z := _cw_40.size
        have E := E.trans _cw_40
        obtain ⟨_Av60, _Cv60, _ev60⟩ := _q60.val
        subst _ev60
        have _lv60 := _q60.len
        have _hiv60 := _q60.lt
        refine WL_step rfl rfl (r_assign rfl) ?_
        refine WL_step rfl rfl (r_assign rfl) ?_
        refine WL_nil ?_
        refine thn_nrm (_hK_38 _ _ ?_)
        clear _hK_38
        refine W_ret (thn_ret (inB_ret (thn_ret (thn_ret (inB_ret (thn_ret ?_))))))
        clear _hK_6 _hK_15 _hK_34
        have _o_41 : Ol ics 3 1 _w_40 (.slice _Av60 (ndw (bE (nxS aN bN) (⟨s, t⟩ : St2) k) ((k : Nat) : Int)).length _Cv60) ((difR aA aN bA bN ⟨s, t⟩ only).1) := by
          have hx := _q60
          first | (rw [← dif_eq (bres_hit he31 (by unfold tsD; first | (simp [_h43, _h47]; done) | (simp [_h43, _h49, _h57]; done) | (simp [_h43, _h49]; done)) hf), ← ndw_get he31]; exact hx) | (rw [← dif_eq (bres_none (by have _z9 := hL.len; omega) hf)]; simpa using hx)
        exact ret_intro [_, _] ⟨rfl, ⟨rfl, trivial⟩⟩ ⟨(.slice _Av60 (ndw (bE (nxS aN bN) (⟨s, t⟩ : St2) k) ((k : Nat) : Int)).length _Cv60), (congrArg (fun zq => (Value.tuple #[(.slice _Av60 (ndw (bE (nxS aN bN) (⟨s, t⟩ : St2) k) ((k : Nat) : Int)).length _Cv60), .bool zq])) (by first | rw [← dif_eq (bres_hit he31 (by unfold tsD; first | (simp [_h43, _h47]; done) | (simp [_h43, _h49, _h57]; done) | (simp [_h43, _h49]; done)) hf)] | rw [← dif_eq (bres_none (by have _z9 := hL.len; omega) hf)])), _o_41, (Lo.down _lo60 (by omega)), E⟩
      · have _kb_37 := _h47
        have _h47 := bf_n _h47
        refine WL_step rfl rfl (r_move rfl) ?_
        refine WL_step rfl rfl (r_move rfl) ?_
        refine WL_splitT (d := 49) rfl (bnot_inj _kb_37) ?_
        refine WL_step rfl rfl (r_move rfl) ?_
        refine WL_step rfl rfl (r_not rfl) ?_
        refine WL_step rfl rfl (r_pickT rfl rfl) ?_
        refine WL_step rfl rfl (r_move rfl) ?_
        refine WL_splitF (d := 53) rfl (congrArg Bool.not _kb_36) ?_
        refine WL_skip rfl rfl ?_
        refine WL_skip rfl rfl ?_
        refine WL_step rfl rfl (r_pickF rfl rfl) ?_
        refine WL_step rfl rfl (r_pickF rfl rfl) ?_
        refine WL_nil ?_
        refine thn_nrm (_hK_35 _ _ ?_)
        clear _hK_35
        refine W_condF rfl ?_
        refine W_skip ?_
        refine thn_nrm (_hK_34 _ _ ?_)
        clear _hK_34
        refine W_seq fun _K_42 _hK_42 => ?_
        refine W_region ?_
        refine WL_step rfl rfl (r_assign rfl) ?_
        refine WL_nil ?_
        refine thn_nrm (_hK_42 _ _ ?_)
        clear _hK_42
        refine W_block ?_
        have _f_43 := (_f_28.ch0 _cw_32)
        have _oi_44 : Ol GNode.cs 68 5 _w_32 (.slice Akl (L).length Ckl) (L) := by
          have hx := _f_43
          exact hx
        have _f_45 := (((_f_18.ch0 _cw_23).ch0 _cw_26).ch0 _cw_32)
        have _f_46 := (((_f_20.ch0 _cw_23).ch0 _cw_26).ch0 _cw_32)
        have _f_47 := (((_f_22.ch0 _cw_23).ch0 _cw_26).ch0 _cw_32)
        have _f_48 := (((_f_21.ch0 _cw_23).ch0 _cw_26).ch0 _cw_32)
        have _f_49 := (_f_27.ch0 _cw_32)
        have _f_50 := (_f_29.ch0 _cw_32)
        have _f_51 := (_f_31.ch0 _cw_32)
        have _f_52 := (_f_30.ch0 _cw_32)
        refine W_loop (σ := Nat × List GNode × Value) (fun ⟨m, M, km⟩ => [(4, (.bool only)), (5, (.pointer (some ⟨_b5, 0, none⟩))), (7, (.pointer (some ⟨_b7, 0, none⟩))), (12, km), (13, (.int .i64 ((k : Nat) : Int))), (14, (.bool (accA aA _e31.1.a))), (15, (.bool (accA bA _e31.1.b))), (16, (.int .i64 ((m : Nat) : Int))), (25, (.bool (decide (((k : Nat) : Int) < ((L.length : Nat) : Int))))), (57, (.bool false))]) (fun ⟨m, M, km⟩ wx => Ch [] w wx ∧ _w_32.heap.size ≤ wx.heap.size ∧ (m ≤ 9) ∧ (NdR M (bx (nxS aN bN) _e31 (bE (nxS aN bN) (⟨s, t⟩ : St2) k) m)) ∧ Blk wx _b5 28 [(.int .i64 aS), (.slice _A_aA aA.length _C_aA), (.slice _A_saN saN.length _C_saN)] ∧ Ls bcs 1 wx LL_aA w.heap.size (.slice _A_aA aA.length _C_aA) aA ∧ Ls Sv.cs 1 wx LL_saN w.heap.size (.slice _A_saN saN.length _C_saN) saN ∧ Rd ics 1 wx LR_aN w.heap.size saN aN ∧ Blk wx _b7 28 [(.int .i64 bS), (.slice _A_bA bA.length _C_bA), (.slice _A_sbN sbN.length _C_sbN)] ∧ Ls bcs 1 wx LL_bA w.heap.size (.slice _A_bA bA.length _C_bA) bA ∧ Ls Sv.cs 1 wx LL_sbN w.heap.size (.slice _A_sbN sbN.length _C_sbN) sbN ∧ Rd ics 1 wx LR_bN w.heap.size sbN bN ∧ Ol GNode.cs 68 5 wx km M ∧ Lo _w_3.heap.size km) (fun ⟨m, M, km⟩ => 9 - m) (0, L, (.slice Akl (L).length Ckl)) (Sub.cons rfl (Sub.cons rfl (Sub.cons rfl (Sub.cons rfl (Sub.cons rfl (Sub.cons rfl (Sub.cons rfl (Sub.cons rfl (Sub.cons rfl (Sub.cons rfl (Sub.nil _))))))))))) ⟨E, (Nat.le_refl _), (by omega), hL, _f_45, _f_46, _f_47, _f_48, _f_49, _f_50, _f_51, _f_52, _oi_44, _lo0_12⟩ ?_
        rintro ⟨m, M, km⟩ _wr_53 ⟨E, _zz1, hm, hL2, _F1_0, _F1_1, _F1_2, _F1_3, _F1_4, _F1_5, _F1_6, _F1_7, _o1_12, _lo1_12⟩
        have _E1h := E
        have _E1hz := _E1h.size
        have _F1_0z := _F1_0.lt
        have _F1_4z := _F1_4.lt
        obtain ⟨Akm, Ckm, ekm⟩ := _o1_12.val
        subst ekm
        have lkm := _o1_12.len
        have hikm := _o1_12.lt
        have ml9 := hL2.len
        have mk9 := bx_lt (m := m) he31
        refine W_seq fun _K_54 _hK_54 => ?_
        refine W_seq fun _K_55 _hK_55 => ?_
        refine W_region ?_
        refine WL_step rfl rfl (r_move rfl) ?_
        refine WL_step rfl rfl (r_lss rfl rfl) ?_
        refine WL_nil ?_
        refine thn_nrm (_hK_55 _ _ ?_)
        clear _hK_55
        refine W_cond rfl (fun _h62 => ?_) (fun _h62 => ?_)
        · have _kb_56 := _h62
          have _h62 := bt_d _h62
          refine W_skip ?_
          refine thn_nrm (_hK_54 _ _ ?_)
          clear _hK_54
          refine W_seq fun _K_57 _hK_57 => ?_
          refine W_block ?_
          refine W_seq fun _K_58 _hK_58 => ?_
          have _J_60 : ∀ (lj : KL) (_wj_59 : World) (jb17 : Nat), Go.KLib.Sub [(4, (.bool only)), (5, (.pointer (some ⟨_b5, 0, none⟩))), (7, (.pointer (some ⟨_b7, 0, none⟩))), (12, (.slice Akm (M).length Ckm)), (13, (.int .i64 ((k : Nat) : Int))), (14, (.bool (accA aA _e31.1.a))), (15, (.bool (accA bA _e31.1.b))), (16, (.int .i64 ((m : Nat) : Int))), (17, (.pointer (some ⟨jb17, 0, none⟩))), (25, (.bool (decide (((k : Nat) : Int) < ((L.length : Nat) : Int))))), (57, (.bool false)), (61, (.int .i64 ((m : Nat) : Int))), (62, (.bool (decide (((m : Nat) : Int) < 9))))] lj → Ch [] _wr_53 _wj_59 → Blk _wj_59 jb17 68 [(.int .i64 (moveA aN _e31.1.a ((m : Nat) : Int))), (.int .i64 (moveA bN _e31.1.b ((m : Nat) : Int))), (.bool false), (.int .i64 ((k : Nat) : Int)), (.int .i64 ((m : Nat) : Int))] → _wr_53.heap.size ≤ jb17 → _K_58 lj _wj_59 := by
            intro lj _wj_59 jb17 _jsub _cjK_58 _mjb17 _ejb17
            refine _hK_58 _ _ (W_sub _jsub ?_)
            clear _hK_58
            have _cjK_58z := _cjK_58.size
            have E := E.trans _cjK_58
            have _zjb17 := _mjb17.lt
            refine W_seq fun _K_61 _hK_61 => ?_
            refine W_region ?_
            refine WL_step rfl rfl (r_move rfl) ?_
            refine WL_step rfl rfl (r_loadAtA0 _mjb17.at_ agg68 sz68 rfl) ?_
            refine WL_s rfl rfl ?_
            have _f_62 := (_o1_12.ch0 _cjK_58)
            refine Step.call (r_call (xs := [.tmp 84, .tmp 85]) fk64 rfl) (c_spec_l10Has _f_62.ls ⟨moveA aN _e31.1.a ((m : Nat) : Int), moveA bN _e31.1.b ((m : Nat) : Int), false, ((k : Nat) : Int), ((m : Nat) : Int)⟩ ) fun _v86 _w_63 _q86 => ?_
            obtain ⟨rfl, _cw_63⟩ := _q86
            have _cw_63z := _cw_63.size
            have E := E.trans _cw_63
            refine WL_step rfl rfl (r_not rfl) ?_
            refine WL_nil ?_
            refine thn_nrm (_hK_61 _ _ ?_)
            clear _hK_61
            refine W_cond rfl (fun _h87 => ?_) (fun _h87 => ?_)
            · have _kb_64 := _h87
              have _h87 := bf_t (bt_n _h87)
              have ll9 := hL2.len
              have lm9 := bx_le9 (m := m) he31 (by omega)
              have _ln9 := hle (k + 1)
              refine W_region ?_
              refine WL_step rfl rfl (r_move rfl) ?_
              have _f_65 := (_mjb17.ch0 _cw_63)
              refine WL_step rfl rfl (r_loadAtA0 _f_65.at_ agg68 sz68 rfl) ?_
              refine WL_s rfl rfl ?_
              refine s_buildSlice (cs := GNode.cs) (parts := [(0, .tmp 89)]) (⟨0, 0, false, 0, 0⟩ : GNode) [(⟨moveA aN _e31.1.a ((m : Nat) : Int), moveA bN _e31.1.b ((m : Nat) : Int), false, ((k : Nat) : Int), ((m : Nat) : Int)⟩ : GNode)] el69 sz68 zr68 GNode.len (by decide) rfl rfl rfl (by decide) (by decide) rfl fun _v90 _w_66 _q90 _lo90 _cw_66 => ?_
              have _cw_66z := _cw_66.size
              have E := E.trans _cw_66
              obtain ⟨_Av90, _Cv90, _ev90⟩ := _q90.val
              subst _ev90
              have _lv90 := _q90.len
              have _hiv90 := _q90.lt
              refine WL_s rfl rfl ?_
              have _f_68 := ((_f_62.ch0 _cw_63).ch0 _cw_66)
              refine s_append (cs := GNode.cs) el69 sz68 by68 zr68 rfl (by decide) GNode.one _f_68 _q90.ls rfl rfl (by first | omega | (simp only [List.length_append, List.length_nil, List.length_cons, List.length_replicate, List.length_set, List.length_reverse, List.length_map] at *; omega) | (simp at *; omega)) (by first | omega | (simp only [List.length_append, List.length_nil, List.length_cons, List.length_replicate, List.length_set, List.length_reverse, List.length_map] at *; omega) | (simp at *; omega)) _lo1_12 (by omega) fun _v91 _w_67 _q91 _lo91 _ap91 _cw_67 => ?_
              have _cw_67z := _cw_67.size
              have E := E.step _cw_67 (fun i hi => .inl (by have _h1 := _lo1_12 _ hi; omega))
              obtain ⟨_Av91, _Cv91, _ev91⟩ := _q91.val
              subst _ev91
              have _lv91 := _q91.len
              have _hiv91 := _q91.lt
              refine WL_step rfl rfl (r_assign rfl) ?_
              refine WL_nil ?_
              refine inB_nrm ?_
              refine thn_nrm (_hK_57 _ _ ?_)
              clear _hK_57
              refine W_region ?_
              refine WL_step rfl rfl (r_move rfl) ?_
              refine WL_step rfl rfl (r_add (by omega) rfl rfl) ?_
              refine WL_step rfl rfl (r_assign rfl) ?_
              refine WL_nil ?_
              have _on_69 : Ol GNode.cs 68 5 _w_67 (.slice _Av91 ((M ++ [(⟨moveA aN _e31.1.a ((m : Nat) : Int), moveA bN _e31.1.b ((m : Nat) : Int), false, ((k : Nat) : Int), ((m : Nat) : Int)⟩ : GNode)])).length _Cv91) ((M ++ [(⟨moveA aN _e31.1.a ((m : Nat) : Int), moveA bN _e31.1.b ((m : Nat) : Int), false, ((k : Nat) : Int), ((m : Nat) : Int)⟩ : GNode)])) := by
                have hx := _q91
                exact hx
              have _f_70 := ((((_F1_0.ch0 _cjK_58).ch0 _cw_63).ch0 _cw_66).ch _cw_67 (fun hm => by have _h1 := _lo1_12 _ hm; have _h2 := hikm _ hm; omega))
              have _f_71 := ((((_F1_1.ch0 _cjK_58).ch0 _cw_63).ch0 _cw_66).ch _cw_67 (fun i hi => by have _h1 := _lo1_12 _ hi; omega))
              have _f_72 := ((((_F1_2.ch0 _cjK_58).ch0 _cw_63).ch0 _cw_66).ch _cw_67 (fun i hi => by have _h1 := _lo1_12 _ hi; omega))
              have _f_73 := ((((_F1_3.ch0 _cjK_58).ch0 _cw_63).ch0 _cw_66).ch _cw_67 (fun i hi => by have _h1 := _lo1_12 _ hi; omega))
              have _f_74 := ((((_F1_4.ch0 _cjK_58).ch0 _cw_63).ch0 _cw_66).ch _cw_67 (fun hm => by have _h1 := _lo1_12 _ hm; have _h2 := hikm _ hm; omega))
              have _f_75 := ((((_F1_5.ch0 _cjK_58).ch0 _cw_63).ch0 _cw_66).ch _cw_67 (fun i hi => by have _h1 := _lo1_12 _ hi; omega))
              have _f_76 := ((((_F1_6.ch0 _cjK_58).ch0 _cw_63).ch0 _cw_66).ch _cw_67 (fun i hi => by have _h1 := _lo1_12 _ hi; omega))
              have _f_77 := ((((_F1_7.ch0 _cjK_58).ch0 _cw_63).ch0 _cw_66).ch _cw_67 (fun i hi => by have _h1 := _lo1_12 _ hi; omega))
              exact thn_nrm (Exists.intro ((m + 1), (M ++ [(⟨moveA aN _e31.1.a ((m : Nat) : Int), moveA bN _e31.1.b ((m : Nat) : Int), false, ((k : Nat) : Int), ((m : Nat) : Int)⟩ : GNode)]), (.slice _Av91 ((M ++ [(⟨moveA aN _e31.1.a ((m : Nat) : Int), moveA bN _e31.1.b ((m : Nat) : Int), false, ((k : Nat) : Int), ((m : Nat) : Int)⟩ : GNode)])).length _Cv91)) ⟨⟨E, (by omega), (by omega), (by first | exact nd_old hL2 rfl rfl _h87 | exact nd_new hL2 rfl rfl _h87 he31), _f_70, _f_71, _f_72, _f_73, _f_74, _f_75, _f_76, _f_77, _on_69, (Lo.down _lo91 (by omega))⟩, Sub.cons rfl (Sub.cons rfl (Sub.cons rfl (Sub.cons rfl (Sub.cons rfl (Sub.cons rfl (Sub.cons rfl (Sub.cons rfl (Sub.cons rfl (Sub.cons rfl (Sub.nil _)))))))))), (by first | omega | (dsimp only; omega))⟩)
            · have _kb_64 := _h87
              have _h87 := bt_t (bf_n _h87)
              refine W_skip ?_
              refine inB_nrm ?_
              refine thn_nrm (_hK_57 _ _ ?_)
              clear _hK_57
              refine W_region ?_
              refine WL_step rfl rfl (r_move rfl) ?_
              refine WL_step rfl rfl (r_add (by omega) rfl rfl) ?_
              refine WL_step rfl rfl (r_assign rfl) ?_
              refine WL_nil ?_
              have _f_79 := (_f_62.ch0 _cw_63)
              have _on_78 : Ol GNode.cs 68 5 _w_63 (.slice Akm (M).length Ckm) (M) := by
                have hx := _f_79
                exact hx
              have _f_80 := ((_F1_0.ch0 _cjK_58).ch0 _cw_63)
              have _f_81 := ((_F1_1.ch0 _cjK_58).ch0 _cw_63)
              have _f_82 := ((_F1_2.ch0 _cjK_58).ch0 _cw_63)
              have _f_83 := ((_F1_3.ch0 _cjK_58).ch0 _cw_63)
              have _f_84 := ((_F1_4.ch0 _cjK_58).ch0 _cw_63)
              have _f_85 := ((_F1_5.ch0 _cjK_58).ch0 _cw_63)
              have _f_86 := ((_F1_6.ch0 _cjK_58).ch0 _cw_63)
              have _f_87 := ((_F1_7.ch0 _cjK_58).ch0 _cw_63)
              exact thn_nrm (Exists.intro ((m + 1), M, (.slice Akm (M).length Ckm)) ⟨⟨E, (by omega), (by omega), (by first | exact nd_old hL2 rfl rfl _h87 | exact nd_new hL2 rfl rfl _h87 he31), _f_80, _f_81, _f_82, _f_83, _f_84, _f_85, _f_86, _f_87, _on_78, (Lo.down _lo1_12 (by omega))⟩, Sub.cons rfl (Sub.cons rfl (Sub.cons rfl (Sub.cons rfl (Sub.cons rfl (Sub.cons rfl (Sub.cons rfl (Sub.cons rfl (Sub.cons rfl (Sub.cons rfl (Sub.nil _)))))))))), (by first | omega | (dsimp only; omega))⟩)
          clear _hK_58
          refine W_drawC [] 21 mixed rfl fun _w_88 _cw_88 => ?_
          have _cw_88z := _cw_88.size
          have E := E.trans _cw_88
          have _f_89 := (_F1_0.ch0 _cw_88)
          refine DR_s 0 rfl (by kernel_rfl) rfl rfl (t_loadAtA0 _f_89.at_ (fun i hi => absurd hi List.not_mem_nil) agg28 sz28 rfl ?_)
          refine DR_s 1 rfl (by kernel_rfl) rfl rfl (t_v (fun _ => (r_move rfl)) ?_)
          refine DR_s 2 rfl (by kernel_rfl) rfl rfl (t_v (fun _ => (r_move rfl)) ?_)
          have _f_90 := (_o1_12.ch0 _cw_88)
          refine DR_s 3 rfl (by kernel_rfl) rfl rfl (t_index _f_90.ls GNode.len el69 sz68 rfl rfl rfl (by omega) fun _p68 _y68 _hy68 _a68 => ?_)
          obtain ⟨_e68, fr68, by68, he68, rfl⟩ := nd_lit hL2 _hy68
          obtain rfl := get_uniq (bx_get he31) he68
          replace _a68 : At _w_88 0 _w_88.heap.size _p68 ([(.int .i64 _e31.1.a), (.int .i64 _e31.1.b), (.bool false), (.int .i64 fr68), (.int .i64 by68)]) := _a68
          refine DR_s 4 rfl (by kernel_rfl) rfl rfl (t_v (fun _ => (r_fieldAddr fa68_0 rfl)) ?_)
          refine DR_s 5 rfl (by kernel_rfl) rfl rfl (t_loadAt _a68 (fun i hi => absurd hi List.not_mem_nil) agg3 rfl rfl ?_)
          refine DR_s 6 rfl (by kernel_rfl) rfl rfl (t_v (fun _ => (r_move rfl)) ?_)
          have _f_91 := (_F1_4.ch0 _cw_88)
          refine DR_s 8 rfl (by kernel_rfl) rfl rfl (t_loadAtA0 _f_91.at_ (fun i hi => absurd hi List.not_mem_nil) agg28 sz28 rfl ?_)
          refine DR_s 9 rfl (by kernel_rfl) rfl rfl (t_v (fun _ => (r_move rfl)) ?_)
          refine DR_s 10 rfl (by kernel_rfl) rfl rfl (t_v (fun _ => (r_move rfl)) ?_)
          refine DR_s 11 rfl (by kernel_rfl) rfl rfl (t_index _f_90.ls GNode.len el69 sz68 rfl rfl rfl (by omega) fun _p76 _y76 _hy76 _a76 => ?_)
          obtain ⟨_e76, fr76, by76, he76, rfl⟩ := nd_lit hL2 _hy76
          obtain rfl := get_uniq (bx_get he31) he76
          replace _a76 : At _w_88 0 _w_88.heap.size _p76 ([(.int .i64 _e31.1.a), (.int .i64 _e31.1.b), (.bool false), (.int .i64 fr76), (.int .i64 by76)]) := _a76
          refine DR_s 12 rfl (by kernel_rfl) rfl rfl (t_v (fun _ => (r_fieldAddr fa68_1 rfl)) ?_)
          refine DR_s 13 rfl (by kernel_rfl) rfl rfl (t_loadAt _a76 (fun i hi => absurd hi List.not_mem_nil) agg3 rfl rfl ?_)
          refine DR_s 14 rfl (by kernel_rfl) rfl rfl (t_v (fun _ => (r_move rfl)) ?_)
          refine DR_s 16 rfl (by kernel_rfl) rfl rfl (t_v (fun _ => (r_move rfl)) ?_)
          refine DR_s 17 rfl (by kernel_rfl) rfl rfl (t_v (fun _ => (r_move rfl)) ?_)
          refine DR_two 7 19 (by kernel_rfl) ?_ ?_
          · refine DO_s rfl rfl rfl ?_
            have _f_92 := (_F1_1.ch0 _cw_88)
            have _f_93 := (_F1_3.ch0 _cw_88)
            have _f_94 := (_F1_2.ch0 _cw_88)
            refine Step.call (r_call (xs := [.tmp 65, .tmp 70, .tmp 71]) fk63 rfl) (c_spec_l12Next _ _f_92 _f_94 _f_93 _ _ hva (by omega) (by omega)) fun _v72 _w_95 _q72 => ?_
            obtain ⟨rfl, _cw_95⟩ := _q72
            have _cw_95z := _cw_95.size
            have E := E.trans _cw_95
            have _S_96 : Ch [] _w_88 _w_95 := ((Ch.refl _ _).trans _cw_95)
            refine ⟨_S_96, ?_⟩
            refine DR_two 15 19 (by kernel_rfl) ?_ ?_
            · refine DO_s rfl rfl rfl ?_
              have _f_97 := ((_F1_5.ch0 _cw_88).ch0 _cw_95)
              have _f_98 := ((_F1_7.ch0 _cw_88).ch0 _cw_95)
              have _f_99 := ((_F1_6.ch0 _cw_88).ch0 _cw_95)
              refine Step.call (r_call (xs := [.tmp 73, .tmp 78, .tmp 79]) fk63 rfl) (c_spec_l12Next _ _f_97 _f_99 _f_98 _ _ hvb (by omega) (by omega)) fun _v80 _w_100 _q80 => ?_
              obtain ⟨rfl, _cw_100⟩ := _q80
              have _cw_100z := _cw_100.size
              have E := E.trans _cw_100
              have _S_101 : Ch [] _w_88 _w_100 := (_S_96.trans _cw_100)
              refine ⟨_S_101, ?_⟩
              refine DR_s 18 rfl (by kernel_rfl) rfl rfl (t_v (fun _ => (r_build (parts := [(0, .tmp 72), (1, .tmp 80), (3, .tmp 81), (4, .tmp 82)]) (cells := [(.int .i64 (moveA aN _e31.1.a ((m : Nat) : Int))), (.int .i64 (moveA bN _e31.1.b ((m : Nat) : Int))), (.bool false), (.int .i64 ((k : Nat) : Int)), (.int .i64 ((m : Nat) : Int))]) zr68 pl68 rfl rfl)) ?_)
              refine DR_one 19 (by kernel_rfl) ?_
              refine DO_s rfl rfl rfl ?_
              refine s_alloc zr68 fun _b17 _w_102 _m17 _cw_102 _e17 => ?_
              have _cw_102z := _cw_102.size
              have E := E.trans _cw_102
              have _z17 := _m17.lt
              replace _m17 : Blk _w_102 _b17 68 [(.int .i64 0), (.int .i64 0), (.bool false), (.int .i64 0), (.int .i64 0)] := _m17
              have _S_103 : Ch [] _w_88 _w_102 := (_S_101.trans _cw_102)
              refine ⟨_S_103, ?_⟩
              refine DR_one 20 (by kernel_rfl) ?_
              refine DO_s rfl rfl rfl ?_
              refine s_storeA (off := 0) 5 _m17 sz68 rfl (us := [(.int .i64 (moveA aN _e31.1.a ((m : Nat) : Int))), (.int .i64 (moveA bN _e31.1.b ((m : Nat) : Int))), (.bool false), (.int .i64 ((k : Nat) : Int)), (.int .i64 ((m : Nat) : Int))]) rfl rfl rfl rfl fun _w_104 _m_105 _cw_104 => ?_
              have _cw_104z := _cw_104.size
              have E := E.step _cw_104 (fun i hi => .inl (by have _h1 := List.mem_singleton.1 hi; omega))
              replace _m_105 : Blk _w_104 _b17 68 [(.int .i64 (moveA aN _e31.1.a ((m : Nat) : Int))), (.int .i64 (moveA bN _e31.1.b ((m : Nat) : Int))), (.bool false), (.int .i64 ((k : Nat) : Int)), (.int .i64 ((m : Nat) : Int))] := _m_105
              have _S_106 : Ch [] _w_88 _w_104 := (_S_103.step _cw_104 (fun i hm => by have _h0 := List.mem_singleton.1 hm; left; omega))
              refine ⟨_S_106, ?_⟩
              refine DR_done (by kernel_rfl) ?_
              refine thn_nrm ?_
              exact _J_60 _ _ _b17 (Sub.cons rfl (Sub.cons rfl (Sub.cons rfl (Sub.cons rfl (Sub.cons rfl (Sub.cons rfl (Sub.cons rfl (Sub.cons rfl (Sub.cons rfl (Sub.cons rfl (Sub.cons rfl (Sub.cons rfl (Sub.cons rfl (Sub.nil _)))))))))))))) ((((((Ch.refl [] _wr_53).trans _cw_88).trans _cw_95).trans _cw_100).trans _cw_102).step _cw_104 (fun i hi => .inl (by have _h1 := List.mem_singleton.1 hi; omega))) _m_105 (by omega)
            · refine DO_s rfl rfl rfl ?_
              refine s_alloc zr68 fun _b17 _w_107 _m17 _cw_107 _e17 => ?_
              have _cw_107z := _cw_107.size
              have E := E.trans _cw_107
              have _z17 := _m17.lt
              replace _m17 : Blk _w_107 _b17 68 [(.int .i64 0), (.int .i64 0), (.bool false), (.int .i64 0), (.int .i64 0)] := _m17
              have _S_108 : Ch [] _w_88 _w_107 := (_S_96.trans _cw_107)
              refine ⟨_S_108, ?_⟩
              refine DR_one 15 (by kernel_rfl) ?_
              refine DO_s rfl rfl rfl ?_
              have _f_109 := (((_F1_5.ch0 _cw_88).ch0 _cw_95).ch0 _cw_107)
              have _f_110 := (((_F1_7.ch0 _cw_88).ch0 _cw_95).ch0 _cw_107)
              have _f_111 := (((_F1_6.ch0 _cw_88).ch0 _cw_95).ch0 _cw_107)
              refine Step.call (r_call (xs := [.tmp 73, .tmp 78, .tmp 79]) fk63 rfl) (c_spec_l12Next _ _f_109 _f_111 _f_110 _ _ hvb (by omega) (by omega)) fun _v80 _w_112 _q80 => ?_
              obtain ⟨rfl, _cw_112⟩ := _q80
              have _cw_112z := _cw_112.size
              have E := E.trans _cw_112
              have _S_113 : Ch [] _w_88 _w_112 := (_S_108.trans _cw_112)
              refine ⟨_S_113, ?_⟩
              refine DR_s 18 rfl (by kernel_rfl) rfl rfl (t_v (fun _ => (r_build (parts := [(0, .tmp 72), (1, .tmp 80), (3, .tmp 81), (4, .tmp 82)]) (cells := [(.int .i64 (moveA aN _e31.1.a ((m : Nat) : Int))), (.int .i64 (moveA bN _e31.1.b ((m : Nat) : Int))), (.bool false), (.int .i64 ((k : Nat) : Int)), (.int .i64 ((m : Nat) : Int))]) zr68 pl68 rfl rfl)) ?_)
              refine DR_one 20 (by kernel_rfl) ?_
              refine DO_s rfl rfl rfl ?_
              have _f_114 := (_m17.ch0 _cw_112)
              refine s_storeA (off := 0) 5 _f_114 sz68 rfl (us := [(.int .i64 (moveA aN _e31.1.a ((m : Nat) : Int))), (.int .i64 (moveA bN _e31.1.b ((m : Nat) : Int))), (.bool false), (.int .i64 ((k : Nat) : Int)), (.int .i64 ((m : Nat) : Int))]) rfl rfl rfl rfl fun _w_115 _m_116 _cw_115 => ?_
              have _cw_115z := _cw_115.size
              have E := E.step _cw_115 (fun i hi => .inl (by have _h1 := List.mem_singleton.1 hi; omega))
              replace _m_116 : Blk _w_115 _b17 68 [(.int .i64 (moveA aN _e31.1.a ((m : Nat) : Int))), (.int .i64 (moveA bN _e31.1.b ((m : Nat) : Int))), (.bool false), (.int .i64 ((k : Nat) : Int)), (.int .i64 ((m : Nat) : Int))] := _m_116
              have _S_117 : Ch [] _w_88 _w_115 := (_S_113.step _cw_115 (fun i hm => by have _h0 := List.mem_singleton.1 hm; left; omega))
              refine ⟨_S_117, ?_⟩
              refine DR_done (by kernel_rfl) ?_
              refine thn_nrm ?_
              exact _J_60 _ _ _b17 (Sub.cons rfl (Sub.cons rfl (Sub.cons rfl (Sub.cons rfl (Sub.cons rfl (Sub.cons rfl (Sub.cons rfl (Sub.cons rfl (Sub.cons rfl (Sub.cons rfl (Sub.cons rfl (Sub.cons rfl (Sub.cons rfl (Sub.nil _)))))))))))))) ((((((Ch.refl [] _wr_53).trans _cw_88).trans _cw_95).trans _cw_107).trans _cw_112).step _cw_115 (fun i hi => .inl (by have _h1 := List.mem_singleton.1 hi; omega))) _m_116 (by omega)
          · refine DO_s rfl rfl rfl ?_
            refine s_alloc zr68 fun _b17 _w_118 _m17 _cw_118 _e17 => ?_
            have _cw_118z := _cw_118.size
            have E := E.trans _cw_118
            have _z17 := _m17.lt
            replace _m17 : Blk _w_118 _b17 68 [(.int .i64 0), (.int .i64 0), (.bool false), (.int .i64 0), (.int .i64 0)] := _m17
            have _S_119 : Ch [] _w_88 _w_118 := ((Ch.refl _ _).trans _cw_118)
            refine ⟨_S_119, ?_⟩
            refine DR_one 7 (by kernel_rfl) ?_
            refine DO_s rfl rfl rfl ?_
            have _f_120 := ((_F1_1.ch0 _cw_88).ch0 _cw_118)
            have _f_121 := ((_F1_3.ch0 _cw_88).ch0 _cw_118)
            have _f_122 := ((_F1_2.ch0 _cw_88).ch0 _cw_118)
            refine Step.call (r_call (xs := [.tmp 65, .tmp 70, .tmp 71]) fk63 rfl) (c_spec_l12Next _ _f_120 _f_122 _f_121 _ _ hva (by omega) (by omega)) fun _v72 _w_123 _q72 => ?_
            obtain ⟨rfl, _cw_123⟩ := _q72
            have _cw_123z := _cw_123.size
            have E := E.trans _cw_123
            have _S_124 : Ch [] _w_88 _w_123 := (_S_119.trans _cw_123)
            refine ⟨_S_124, ?_⟩
            refine DR_one 15 (by kernel_rfl) ?_
            refine DO_s rfl rfl rfl ?_
            have _f_125 := (((_F1_5.ch0 _cw_88).ch0 _cw_118).ch0 _cw_123)
            have _f_126 := (((_F1_7.ch0 _cw_88).ch0 _cw_118).ch0 _cw_123)
            have _f_127 := (((_F1_6.ch0 _cw_88).ch0 _cw_118).ch0 _cw_123)
            refine Step.call (r_call (xs := [.tmp 73, .tmp 78, .tmp 79]) fk63 rfl) (c_spec_l12Next _ _f_125 _f_127 _f_126 _ _ hvb (by omega) (by omega)) fun _v80 _w_128 _q80 => ?_
            obtain ⟨rfl, _cw_128⟩ := _q80
            have _cw_128z := _cw_128.size
            have E := E.trans _cw_128
            have _S_129 : Ch [] _w_88 _w_128 := (_S_124.trans _cw_128)
            refine ⟨_S_129, ?_⟩
            refine DR_s 18 rfl (by kernel_rfl) rfl rfl (t_v (fun _ => (r_build (parts := [(0, .tmp 72), (1, .tmp 80), (3, .tmp 81), (4, .tmp 82)]) (cells := [(.int .i64 (moveA aN _e31.1.a ((m : Nat) : Int))), (.int .i64 (moveA bN _e31.1.b ((m : Nat) : Int))), (.bool false), (.int .i64 ((k : Nat) : Int)), (.int .i64 ((m : Nat) : Int))]) zr68 pl68 rfl rfl)) ?_)
            refine DR_one 20 (by kernel_rfl) ?_
            refine DO_s rfl rfl rfl ?_
            have _f_130 := ((_m17.ch0 _cw_123).ch0 _cw_128)
            refine s_storeA (off := 0) 5 _f_130 sz68 rfl (us := [(.int .i64 (moveA aN _e31.1.a ((m : Nat) : Int))), (.int .i64 (moveA bN _e31.1.b ((m : Nat) : Int))), (.bool false), (.int .i64 ((k : Nat) : Int)), (.int .i64 ((m : Nat) : Int))]) rfl rfl rfl rfl fun _w_131 _m_132 _cw_131 => ?_
            have _cw_131z := _cw_131.size
            have E := E.step _cw_131 (fun i hi => .inl (by have _h1 := List.mem_singleton.1 hi; omega))
            replace _m_132 : Blk _w_131 _b17 68 [(.int .i64 (moveA aN _e31.1.a ((m : Nat) : Int))), (.int .i64 (moveA bN _e31.1.b ((m : Nat) : Int))), (.bool false), (.int .i64 ((k : Nat) : Int)), (.int .i64 ((m : Nat) : Int))] := _m_132
            have _S_133 : Ch [] _w_88 _w_131 := (_S_129.step _cw_131 (fun i hm => by have _h0 := List.mem_singleton.1 hm; left; omega))
            refine ⟨_S_133, ?_⟩
            refine DR_done (by kernel_rfl) ?_
            refine thn_nrm ?_
            exact _J_60 _ _ _b17 (Sub.cons rfl (Sub.cons rfl (Sub.cons rfl (Sub.cons rfl (Sub.cons rfl (Sub.cons rfl (Sub.cons rfl (Sub.cons rfl (Sub.cons rfl (Sub.cons rfl (Sub.cons rfl (Sub.cons rfl (Sub.cons rfl (Sub.nil _)))))))))))))) ((((((Ch.refl [] _wr_53).trans _cw_88).trans _cw_118).trans _cw_123).trans _cw_128).step _cw_131 (fun i hi => .inl (by have _h1 := List.mem_singleton.1 hi; omega))) _m_132 (by omega)
        · have _kb_56 := _h62
          have _h62 := bf_d _h62
          refine W_exit (thn_exit (thn_exit (inB_hit ?_)))
          refine inB_nrm ?_
          refine thn_nrm (_hK_15 _ _ ?_)
          clear _hK_15
          refine W_region ?_
          refine WL_step rfl rfl (r_move rfl) ?_
          refine WL_step rfl rfl (r_add (by omega) rfl rfl) ?_
          refine WL_step rfl rfl (r_assign rfl) ?_
          refine WL_nil ?_
          have _on_134 : Ol GNode.cs 68 5 _wr_53 (.slice Akm (M).length Ckm) (M) := by
            have hx := _o1_12
            exact hx
          exact thn_nrm (Exists.intro ((k + 1), M, (.slice Akm (M).length Ckm)) ⟨⟨E, (by omega), (by have _z9 := bx_lt (m := 9) he31; rw [← bE_succ he31] at _z9; omega), (by rw [bE_succ he31, show 9 = m by omega]; exact hL2), (fst_step hf he31 (by unfold tsD; first | (simp [_h43, _h47]; done) | (simp [_h43, _h49, _h57]; done) | (simp [_h43, _h49]; done))), _F1_0, _F1_4, _on_134, (Lo.down _lo1_12 (by omega))⟩, Sub.cons rfl (Sub.cons rfl (Sub.cons rfl (Sub.cons rfl (Sub.cons rfl (Sub.nil _))))), (by first | omega | (dsimp only; omega))⟩)
    · have _kb_36 := _h43
      refine WL_skip rfl rfl ?_
      refine WL_skip rfl rfl ?_
      refine WL_step rfl rfl (r_pickF rfl rfl) ?_
      refine WL_step rfl rfl (r_move rfl) ?_
      refine WL_step rfl rfl (r_move rfl) ?_
      refine WL_step rfl rfl (r_move rfl) ?_
      refine WL_split (d := 49) rfl (fun _h49 => ?_) (fun _h49 => ?_)
      · have _kb_135 := _h49
        refine WL_step rfl rfl (r_move rfl) ?_
        refine WL_step rfl rfl (r_not rfl) ?_
        refine WL_step rfl rfl (r_pickT rfl rfl) ?_
        refine WL_step rfl rfl (r_move rfl) ?_
        refine WL_splitT (d := 53) rfl (congrArg Bool.not _kb_36) ?_
        refine WL_step rfl rfl (r_move rfl) ?_
        refine WL_step rfl rfl (r_not rfl) ?_
        refine WL_step rfl rfl (r_pickT rfl rfl) ?_
        refine WL_step rfl rfl (r_pickF rfl rfl) ?_
        refine WL_nil ?_
        refine thn_nrm (_hK_35 _ _ ?_)
        clear _hK_35
        refine W_cond rfl (fun _h57 => ?_) (fun _h57 => ?_)
        · have _kb_136 := _h57
          refine W_seq fun _K_137 _hK_137 => ?_
          refine W_region ?_
          refine WL_step rfl rfl (r_move rfl) ?_
          refine WL_step rfl rfl (r_move rfl) ?_
          refine WL_s rfl rfl ?_
          have _f_138 := (_f_28.ch0 _cw_32)
          refine Step.call (r_call (xs := [.tmp 58, .tmp 59]) fk62 rfl) (c_spec_l10Word _f_138.ls _ (bE (nxS aN bN) (⟨s, t⟩ : St2) k) hL (by omega) (fun x hx => by have _z1 := hwl k x hx; have _z2 := hle k; omega)) fun _v60 _w_139 _q60 => ?_
          obtain ⟨_q60, _lo60, _cw_139⟩ := _q60
          have _cw_139z := _cw_139.size
          have E := E.trans _cw_139
          obtain ⟨_Av60, _Cv60, _ev60⟩ := _q60.val
          subst _ev60
          have _lv60 := _q60.len
          have _hiv60 := _q60.lt
          refine WL_step rfl rfl (r_assign rfl) ?_
          refine WL_step rfl rfl (r_assign rfl) ?_
          refine WL_nil ?_
          refine thn_nrm (_hK_137 _ _ ?_)
          clear _hK_137
          refine W_ret (thn_ret (inB_ret (thn_ret (thn_ret (inB_ret (thn_ret ?_))))))
          clear _hK_6 _hK_15 _hK_34
          have _o_140 : Ol ics 3 1 _w_139 (.slice _Av60 (ndw (bE (nxS aN bN) (⟨s, t⟩ : St2) k) ((k : Nat) : Int)).length _Cv60) ((difR aA aN bA bN ⟨s, t⟩ only).1) := by
            have hx := _q60
            first | (rw [← dif_eq (bres_hit he31 (by unfold tsD; first | (simp [_h43, _h47]; done) | (simp [_h43, _h49, _h57]; done) | (simp [_h43, _h49]; done)) hf), ← ndw_get he31]; exact hx) | (rw [← dif_eq (bres_none (by have _z9 := hL.len; omega) hf)]; simpa using hx)
          exact ret_intro [_, _] ⟨rfl, ⟨rfl, trivial⟩⟩ ⟨(.slice _Av60 (ndw (bE (nxS aN bN) (⟨s, t⟩ : St2) k) ((k : Nat) : Int)).length _Cv60), (congrArg (fun zq => (Value.tuple #[(.slice _Av60 (ndw (bE (nxS aN bN) (⟨s, t⟩ : St2) k) ((k : Nat) : Int)).length _Cv60), .bool zq])) (by first | rw [← dif_eq (bres_hit he31 (by unfold tsD; first | (simp [_h43, _h47]; done) | (simp [_h43, _h49, _h57]; done) | (simp [_h43, _h49]; done)) hf)] | rw [← dif_eq (bres_none (by have _z9 := hL.len; omega) hf)])), _o_140, (Lo.down _lo60 (by omega)), E⟩
        · have _kb_136 := _h57
          refine W_skip ?_
          refine thn_nrm (_hK_34 _ _ ?_)
          clear _hK_34
          refine W_seq fun _K_141 _hK_141 => ?_
          refine W_region ?_
          refine WL_step rfl rfl (r_assign rfl) ?_
          refine WL_nil ?_
          refine thn_nrm (_hK_141 _ _ ?_)
          clear _hK_141
          refine W_block ?_
          have _f_142 := (_f_28.ch0 _cw_32)
          have _oi_143 : Ol GNode.cs 68 5 _w_32 (.slice Akl (L).length Ckl) (L) := by
            have hx := _f_142
            exact hx
          have _f_144 := (((_f_18.ch0 _cw_23).ch0 _cw_26).ch0 _cw_32)
          have _f_145 := (((_f_20.ch0 _cw_23).ch0 _cw_26).ch0 _cw_32)
          have _f_146 := (((_f_22.ch0 _cw_23).ch0 _cw_26).ch0 _cw_32)
          have _f_147 := (((_f_21.ch0 _cw_23).ch0 _cw_26).ch0 _cw_32)
          have _f_148 := (_f_27.ch0 _cw_32)
          have _f_149 := (_f_29.ch0 _cw_32)
          have _f_150 := (_f_31.ch0 _cw_32)
          have _f_151 := (_f_30.ch0 _cw_32)
          refine W_loop (σ := Nat × List GNode × Value) (fun ⟨m, M, km⟩ => [(4, (.bool only)), (5, (.pointer (some ⟨_b5, 0, none⟩))), (7, (.pointer (some ⟨_b7, 0, none⟩))), (12, km), (13, (.int .i64 ((k : Nat) : Int))), (14, (.bool (accA aA _e31.1.a))), (15, (.bool (accA bA _e31.1.b))), (16, (.int .i64 ((m : Nat) : Int))), (25, (.bool (decide (((k : Nat) : Int) < ((L.length : Nat) : Int))))), (57, (.bool (!only)))]) (fun ⟨m, M, km⟩ wx => Ch [] w wx ∧ _w_32.heap.size ≤ wx.heap.size ∧ (m ≤ 9) ∧ (NdR M (bx (nxS aN bN) _e31 (bE (nxS aN bN) (⟨s, t⟩ : St2) k) m)) ∧ Blk wx _b5 28 [(.int .i64 aS), (.slice _A_aA aA.length _C_aA), (.slice _A_saN saN.length _C_saN)] ∧ Ls bcs 1 wx LL_aA w.heap.size (.slice _A_aA aA.length _C_aA) aA ∧ Ls Sv.cs 1 wx LL_saN w.heap.size (.slice _A_saN saN.length _C_saN) saN ∧ Rd ics 1 wx LR_aN w.heap.size saN aN ∧ Blk wx _b7 28 [(.int .i64 bS), (.slice _A_bA bA.length _C_bA), (.slice _A_sbN sbN.length _C_sbN)] ∧ Ls bcs 1 wx LL_bA w.heap.size (.slice _A_bA bA.length _C_bA) bA ∧ Ls Sv.cs 1 wx LL_sbN w.heap.size (.slice _A_sbN sbN.length _C_sbN) sbN ∧ Rd ics 1 wx LR_bN w.heap.size sbN bN ∧ Ol GNode.cs 68 5 wx km M ∧ Lo _w_3.heap.size km) (fun ⟨m, M, km⟩ => 9 - m) (0, L, (.slice Akl (L).length Ckl)) (Sub.cons rfl (Sub.cons rfl (Sub.cons rfl (Sub.cons rfl (Sub.cons rfl (Sub.cons rfl (Sub.cons rfl (Sub.cons rfl (Sub.cons rfl (Sub.cons rfl (Sub.nil _))))))))))) ⟨E, (Nat.le_refl _), (by omega), hL, _f_144, _f_145, _f_146, _f_147, _f_148, _f_149, _f_150, _f_151, _oi_143, _lo0_12⟩ ?_
          rintro ⟨m, M, km⟩ _wr_152 ⟨E, _zz1, hm, hL2, _F1_0, _F1_1, _F1_2, _F1_3, _F1_4, _F1_5, _F1_6, _F1_7, _o1_12, _lo1_12⟩
          have _E1h := E
          have _E1hz := _E1h.size
          have _F1_0z := _F1_0.lt
          have _F1_4z := _F1_4.lt
          obtain ⟨Akm, Ckm, ekm⟩ := _o1_12.val
          subst ekm
          have lkm := _o1_12.len
          have hikm := _o1_12.lt
          have ml9 := hL2.len
          have mk9 := bx_lt (m := m) he31
          refine W_seq fun _K_153 _hK_153 => ?_
          refine W_seq fun _K_154 _hK_154 => ?_
          refine W_region ?_
          refine WL_step rfl rfl (r_move rfl) ?_
          refine WL_step rfl rfl (r_lss rfl rfl) ?_
          refine WL_nil ?_
          refine thn_nrm (_hK_154 _ _ ?_)
          clear _hK_154
          refine W_cond rfl (fun _h62 => ?_) (fun _h62 => ?_)
          · have _kb_155 := _h62
            have _h62 := bt_d _h62
            refine W_skip ?_
            refine thn_nrm (_hK_153 _ _ ?_)
            clear _hK_153
            refine W_seq fun _K_156 _hK_156 => ?_
            refine W_block ?_
            refine W_seq fun _K_157 _hK_157 => ?_
            have _J_159 : ∀ (lj : KL) (_wj_158 : World) (jb17 : Nat), Go.KLib.Sub [(4, (.bool only)), (5, (.pointer (some ⟨_b5, 0, none⟩))), (7, (.pointer (some ⟨_b7, 0, none⟩))), (12, (.slice Akm (M).length Ckm)), (13, (.int .i64 ((k : Nat) : Int))), (14, (.bool (accA aA _e31.1.a))), (15, (.bool (accA bA _e31.1.b))), (16, (.int .i64 ((m : Nat) : Int))), (17, (.pointer (some ⟨jb17, 0, none⟩))), (25, (.bool (decide (((k : Nat) : Int) < ((L.length : Nat) : Int))))), (57, (.bool (!only))), (61, (.int .i64 ((m : Nat) : Int))), (62, (.bool (decide (((m : Nat) : Int) < 9))))] lj → Ch [] _wr_152 _wj_158 → Blk _wj_158 jb17 68 [(.int .i64 (moveA aN _e31.1.a ((m : Nat) : Int))), (.int .i64 (moveA bN _e31.1.b ((m : Nat) : Int))), (.bool false), (.int .i64 ((k : Nat) : Int)), (.int .i64 ((m : Nat) : Int))] → _wr_152.heap.size ≤ jb17 → _K_157 lj _wj_158 := by
              intro lj _wj_158 jb17 _jsub _cjK_157 _mjb17 _ejb17
              refine _hK_157 _ _ (W_sub _jsub ?_)
              clear _hK_157
              have _cjK_157z := _cjK_157.size
              have E := E.trans _cjK_157
              have _zjb17 := _mjb17.lt
              refine W_seq fun _K_160 _hK_160 => ?_
              refine W_region ?_
              refine WL_step rfl rfl (r_move rfl) ?_
              refine WL_step rfl rfl (r_loadAtA0 _mjb17.at_ agg68 sz68 rfl) ?_
              refine WL_s rfl rfl ?_
              have _f_161 := (_o1_12.ch0 _cjK_157)
              refine Step.call (r_call (xs := [.tmp 84, .tmp 85]) fk64 rfl) (c_spec_l10Has _f_161.ls ⟨moveA aN _e31.1.a ((m : Nat) : Int), moveA bN _e31.1.b ((m : Nat) : Int), false, ((k : Nat) : Int), ((m : Nat) : Int)⟩ ) fun _v86 _w_162 _q86 => ?_
              obtain ⟨rfl, _cw_162⟩ := _q86
              have _cw_162z := _cw_162.size
              have E := E.trans _cw_162
              refine WL_step rfl rfl (r_not rfl) ?_
              refine WL_nil ?_
              refine thn_nrm (_hK_160 _ _ ?_)
              clear _hK_160
              refine W_cond rfl (fun _h87 => ?_) (fun _h87 => ?_)
              · have _kb_163 := _h87
                have _h87 := bf_t (bt_n _h87)
                have ll9 := hL2.len
                have lm9 := bx_le9 (m := m) he31 (by omega)
                have _ln9 := hle (k + 1)
                refine W_region ?_
                refine WL_step rfl rfl (r_move rfl) ?_
                have _f_164 := (_mjb17.ch0 _cw_162)
                refine WL_step rfl rfl (r_loadAtA0 _f_164.at_ agg68 sz68 rfl) ?_
                refine WL_s rfl rfl ?_
                refine s_buildSlice (cs := GNode.cs) (parts := [(0, .tmp 89)]) (⟨0, 0, false, 0, 0⟩ : GNode) [(⟨moveA aN _e31.1.a ((m : Nat) : Int), moveA bN _e31.1.b ((m : Nat) : Int), false, ((k : Nat) : Int), ((m : Nat) : Int)⟩ : GNode)] el69 sz68 zr68 GNode.len (by decide) rfl rfl rfl (by decide) (by decide) rfl fun _v90 _w_165 _q90 _lo90 _cw_165 => ?_
                have _cw_165z := _cw_165.size
                have E := E.trans _cw_165
                obtain ⟨_Av90, _Cv90, _ev90⟩ := _q90.val
                subst _ev90
                have _lv90 := _q90.len
                have _hiv90 := _q90.lt
                refine WL_s rfl rfl ?_
                have _f_167 := ((_f_161.ch0 _cw_162).ch0 _cw_165)
                refine s_append (cs := GNode.cs) el69 sz68 by68 zr68 rfl (by decide) GNode.one _f_167 _q90.ls rfl rfl (by first | omega | (simp only [List.length_append, List.length_nil, List.length_cons, List.length_replicate, List.length_set, List.length_reverse, List.length_map] at *; omega) | (simp at *; omega)) (by first | omega | (simp only [List.length_append, List.length_nil, List.length_cons, List.length_replicate, List.length_set, List.length_reverse, List.length_map] at *; omega) | (simp at *; omega)) _lo1_12 (by omega) fun _v91 _w_166 _q91 _lo91 _ap91 _cw_166 => ?_
                have _cw_166z := _cw_166.size
                have E := E.step _cw_166 (fun i hi => .inl (by have _h1 := _lo1_12 _ hi; omega))
                obtain ⟨_Av91, _Cv91, _ev91⟩ := _q91.val
                subst _ev91
                have _lv91 := _q91.len
                have _hiv91 := _q91.lt
                refine WL_step rfl rfl (r_assign rfl) ?_
                refine WL_nil ?_
                refine inB_nrm ?_
                refine thn_nrm (_hK_156 _ _ ?_)
                clear _hK_156
                refine W_region ?_
                refine WL_step rfl rfl (r_move rfl) ?_
                refine WL_step rfl rfl (r_add (by omega) rfl rfl) ?_
                refine WL_step rfl rfl (r_assign rfl) ?_
                refine WL_nil ?_
                have _on_168 : Ol GNode.cs 68 5 _w_166 (.slice _Av91 ((M ++ [(⟨moveA aN _e31.1.a ((m : Nat) : Int), moveA bN _e31.1.b ((m : Nat) : Int), false, ((k : Nat) : Int), ((m : Nat) : Int)⟩ : GNode)])).length _Cv91) ((M ++ [(⟨moveA aN _e31.1.a ((m : Nat) : Int), moveA bN _e31.1.b ((m : Nat) : Int), false, ((k : Nat) : Int), ((m : Nat) : Int)⟩ : GNode)])) := by
                  have hx := _q91
                  exact hx
                have _f_169 := ((((_F1_0.ch0 _cjK_157).ch0 _cw_162).ch0 _cw_165).ch _cw_166 (fun hm => by have _h1 := _lo1_12 _ hm; have _h2 := hikm _ hm; omega))
                have _f_170 := ((((_F1_1.ch0 _cjK_157).ch0 _cw_162).ch0 _cw_165).ch _cw_166 (fun i hi => by have _h1 := _lo1_12 _ hi; omega))
                have _f_171 := ((((_F1_2.ch0 _cjK_157).ch0 _cw_162).ch0 _cw_165).ch _cw_166 (fun i hi => by have _h1 := _lo1_12 _ hi; omega))
                have _f_172 := ((((_F1_3.ch0 _cjK_157).ch0 _cw_162).ch0 _cw_165).ch _cw_166 (fun i hi => by have _h1 := _lo1_12 _ hi; omega))
                have _f_173 := ((((_F1_4.ch0 _cjK_157).ch0 _cw_162).ch0 _cw_165).ch _cw_166 (fun hm => by have _h1 := _lo1_12 _ hm; have _h2 := hikm _ hm; omega))
                have _f_174 := ((((_F1_5.ch0 _cjK_157).ch0 _cw_162).ch0 _cw_165).ch _cw_166 (fun i hi => by have _h1 := _lo1_12 _ hi; omega))
                have _f_175 := ((((_F1_6.ch0 _cjK_157).ch0 _cw_162).ch0 _cw_165).ch _cw_166 (fun i hi => by have _h1 := _lo1_12 _ hi; omega))
                have _f_176 := ((((_F1_7.ch0 _cjK_157).ch0 _cw_162).ch0 _cw_165).ch _cw_166 (fun i hi => by have _h1 := _lo1_12 _ hi; omega))
                exact thn_nrm (Exists.intro ((m + 1), (M ++ [(⟨moveA aN _e31.1.a ((m : Nat) : Int), moveA bN _e31.1.b ((m : Nat) : Int), false, ((k : Nat) : Int), ((m : Nat) : Int)⟩ : GNode)]), (.slice _Av91 ((M ++ [(⟨moveA aN _e31.1.a ((m : Nat) : Int), moveA bN _e31.1.b ((m : Nat) : Int), false, ((k : Nat) : Int), ((m : Nat) : Int)⟩ : GNode)])).length _Cv91)) ⟨⟨E, (by omega), (by omega), (by first | exact nd_old hL2 rfl rfl _h87 | exact nd_new hL2 rfl rfl _h87 he31), _f_169, _f_170, _f_171, _f_172, _f_173, _f_174, _f_175, _f_176, _on_168, (Lo.down _lo91 (by omega))⟩, Sub.cons rfl (Sub.cons rfl (Sub.cons rfl (Sub.cons rfl (Sub.cons rfl (Sub.cons rfl (Sub.cons rfl (Sub.cons rfl (Sub.cons rfl (Sub.cons rfl (Sub.nil _)))))))))), (by first | omega | (dsimp only; omega))⟩)
              · have _kb_163 := _h87
                have _h87 := bt_t (bf_n _h87)
                refine W_skip ?_
                refine inB_nrm ?_
                refine thn_nrm (_hK_156 _ _ ?_)
                clear _hK_156
                refine W_region ?_
                refine WL_step rfl rfl (r_move rfl) ?_
                refine WL_step rfl rfl (r_add (by omega) rfl rfl) ?_
                refine WL_step rfl rfl (r_assign rfl) ?_
                refine WL_nil ?_
                have _f_178 := (_f_161.ch0 _cw_162)
                have _on_177 : Ol GNode.cs 68 5 _w_162 (.slice Akm (M).length Ckm) (M) := by
                  have hx := _f_178
                  exact hx
                have _f_179 := ((_F1_0.ch0 _cjK_157).ch0 _cw_162)
                have _f_180 := ((_F1_1.ch0 _cjK_157).ch0 _cw_162)
                have _f_181 := ((_F1_2.ch0 _cjK_157).ch0 _cw_162)
                have _f_182 := ((_F1_3.ch0 _cjK_157).ch0 _cw_162)
                have _f_183 := ((_F1_4.ch0 _cjK_157).ch0 _cw_162)
                have _f_184 := ((_F1_5.ch0 _cjK_157).ch0 _cw_162)
                have _f_185 := ((_F1_6.ch0 _cjK_157).ch0 _cw_162)
                have _f_186 := ((_F1_7.ch0 _cjK_157).ch0 _cw_162)
                exact thn_nrm (Exists.intro ((m + 1), M, (.slice Akm (M).length Ckm)) ⟨⟨E, (by omega), (by omega), (by first | exact nd_old hL2 rfl rfl _h87 | exact nd_new hL2 rfl rfl _h87 he31), _f_179, _f_180, _f_181, _f_182, _f_183, _f_184, _f_185, _f_186, _on_177, (Lo.down _lo1_12 (by omega))⟩, Sub.cons rfl (Sub.cons rfl (Sub.cons rfl (Sub.cons rfl (Sub.cons rfl (Sub.cons rfl (Sub.cons rfl (Sub.cons rfl (Sub.cons rfl (Sub.cons rfl (Sub.nil _)))))))))), (by first | omega | (dsimp only; omega))⟩)
            clear _hK_157
            refine W_drawC [] 21 mixed rfl fun _w_187 _cw_187 => ?_
            have _cw_187z := _cw_187.size
            have E := E.trans _cw_187
            have _f_188 := (_F1_0.ch0 _cw_187)
            refine DR_s 0 rfl (by kernel_rfl) rfl rfl (t_loadAtA0 _f_188.at_ (fun i hi => absurd hi List.not_mem_nil) agg28 sz28 rfl ?_)
            refine DR_s 1 rfl (by kernel_rfl) rfl rfl (t_v (fun _ => (r_move rfl)) ?_)
            refine DR_s 2 rfl (by kernel_rfl) rfl rfl (t_v (fun _ => (r_move rfl)) ?_)
            have _f_189 := (_o1_12.ch0 _cw_187)
            refine DR_s 3 rfl (by kernel_rfl) rfl rfl (t_index _f_189.ls GNode.len el69 sz68 rfl rfl rfl (by omega) fun _p68 _y68 _hy68 _a68 => ?_)
            obtain ⟨_e68, fr68, by68, he68, rfl⟩ := nd_lit hL2 _hy68
            obtain rfl := get_uniq (bx_get he31) he68
            replace _a68 : At _w_187 0 _w_187.heap.size _p68 ([(.int .i64 _e31.1.a), (.int .i64 _e31.1.b), (.bool false), (.int .i64 fr68), (.int .i64 by68)]) := _a68
            refine DR_s 4 rfl (by kernel_rfl) rfl rfl (t_v (fun _ => (r_fieldAddr fa68_0 rfl)) ?_)
            refine DR_s 5 rfl (by kernel_rfl) rfl rfl (t_loadAt _a68 (fun i hi => absurd hi List.not_mem_nil) agg3 rfl rfl ?_)
            refine DR_s 6 rfl (by kernel_rfl) rfl rfl (t_v (fun _ => (r_move rfl)) ?_)
            have _f_190 := (_F1_4.ch0 _cw_187)
            refine DR_s 8 rfl (by kernel_rfl) rfl rfl (t_loadAtA0 _f_190.at_ (fun i hi => absurd hi List.not_mem_nil) agg28 sz28 rfl ?_)
            refine DR_s 9 rfl (by kernel_rfl) rfl rfl (t_v (fun _ => (r_move rfl)) ?_)
            refine DR_s 10 rfl (by kernel_rfl) rfl rfl (t_v (fun _ => (r_move rfl)) ?_)
            refine DR_s 11 rfl (by kernel_rfl) rfl rfl (t_index _f_189.ls GNode.len el69 sz68 rfl rfl rfl (by omega) fun _p76 _y76 _hy76 _a76 => ?_)
            obtain ⟨_e76, fr76, by76, he76, rfl⟩ := nd_lit hL2 _hy76
            obtain rfl := get_uniq (bx_get he31) he76
            replace _a76 : At _w_187 0 _w_187.heap.size _p76 ([(.int .i64 _e31.1.a), (.int .i64 _e31.1.b), (.bool false), (.int .i64 fr76), (.int .i64 by76)]) := _a76
            refine DR_s 12 rfl (by kernel_rfl) rfl rfl (t_v (fun _ => (r_fieldAddr fa68_1 rfl)) ?_)
            refine DR_s 13 rfl (by kernel_rfl) rfl rfl (t_loadAt _a76 (fun i hi => absurd hi List.not_mem_nil) agg3 rfl rfl ?_)
            refine DR_s 14 rfl (by kernel_rfl) rfl rfl (t_v (fun _ => (r_move rfl)) ?_)
            refine DR_s 16 rfl (by kernel_rfl) rfl rfl (t_v (fun _ => (r_move rfl)) ?_)
            refine DR_s 17 rfl (by kernel_rfl) rfl rfl (t_v (fun _ => (r_move rfl)) ?_)
            refine DR_two 7 19 (by kernel_rfl) ?_ ?_
            · refine DO_s rfl rfl rfl ?_
              have _f_191 := (_F1_1.ch0 _cw_187)
              have _f_192 := (_F1_3.ch0 _cw_187)
              have _f_193 := (_F1_2.ch0 _cw_187)
              refine Step.call (r_call (xs := [.tmp 65, .tmp 70, .tmp 71]) fk63 rfl) (c_spec_l12Next _ _f_191 _f_193 _f_192 _ _ hva (by omega) (by omega)) fun _v72 _w_194 _q72 => ?_
              obtain ⟨rfl, _cw_194⟩ := _q72
              have _cw_194z := _cw_194.size
              have E := E.trans _cw_194
              have _S_195 : Ch [] _w_187 _w_194 := ((Ch.refl _ _).trans _cw_194)
              refine ⟨_S_195, ?_⟩
              refine DR_two 15 19 (by kernel_rfl) ?_ ?_
              · refine DO_s rfl rfl rfl ?_
                have _f_196 := ((_F1_5.ch0 _cw_187).ch0 _cw_194)
                have _f_197 := ((_F1_7.ch0 _cw_187).ch0 _cw_194)
                have _f_198 := ((_F1_6.ch0 _cw_187).ch0 _cw_194)
                refine Step.call (r_call (xs := [.tmp 73, .tmp 78, .tmp 79]) fk63 rfl) (c_spec_l12Next _ _f_196 _f_198 _f_197 _ _ hvb (by omega) (by omega)) fun _v80 _w_199 _q80 => ?_
                obtain ⟨rfl, _cw_199⟩ := _q80
                have _cw_199z := _cw_199.size
                have E := E.trans _cw_199
                have _S_200 : Ch [] _w_187 _w_199 := (_S_195.trans _cw_199)
                refine ⟨_S_200, ?_⟩
                refine DR_s 18 rfl (by kernel_rfl) rfl rfl (t_v (fun _ => (r_build (parts := [(0, .tmp 72), (1, .tmp 80), (3, .tmp 81), (4, .tmp 82)]) (cells := [(.int .i64 (moveA aN _e31.1.a ((m : Nat) : Int))), (.int .i64 (moveA bN _e31.1.b ((m : Nat) : Int))), (.bool false), (.int .i64 ((k : Nat) : Int)), (.int .i64 ((m : Nat) : Int))]) zr68 pl68 rfl rfl)) ?_)
                refine DR_one 19 (by kernel_rfl) ?_
                refine DO_s rfl rfl rfl ?_
                refine s_alloc zr68 fun _b17 _w_201 _m17 _cw_201 _e17 => ?_
                have _cw_201z := _cw_201.size
                have E := E.trans _cw_201
                have _z17 := _m17.lt
                replace _m17 : Blk _w_201 _b17 68 [(.int .i64 0), (.int .i64 0), (.bool false), (.int .i64 0), (.int .i64 0)] := _m17
                have _S_202 : Ch [] _w_187 _w_201 := (_S_200.trans _cw_201)
                refine ⟨_S_202, ?_⟩
                refine DR_one 20 (by kernel_rfl) ?_
                refine DO_s rfl rfl rfl ?_
                refine s_storeA (off := 0) 5 _m17 sz68 rfl (us := [(.int .i64 (moveA aN _e31.1.a ((m : Nat) : Int))), (.int .i64 (moveA bN _e31.1.b ((m : Nat) : Int))), (.bool false), (.int .i64 ((k : Nat) : Int)), (.int .i64 ((m : Nat) : Int))]) rfl rfl rfl rfl fun _w_203 _m_204 _cw_203 => ?_
                have _cw_203z := _cw_203.size
                have E := E.step _cw_203 (fun i hi => .inl (by have _h1 := List.mem_singleton.1 hi; omega))
                replace _m_204 : Blk _w_203 _b17 68 [(.int .i64 (moveA aN _e31.1.a ((m : Nat) : Int))), (.int .i64 (moveA bN _e31.1.b ((m : Nat) : Int))), (.bool false), (.int .i64 ((k : Nat) : Int)), (.int .i64 ((m : Nat) : Int))] := _m_204
                have _S_205 : Ch [] _w_187 _w_203 := (_S_202.step _cw_203 (fun i hm => by have _h0 := List.mem_singleton.1 hm; left; omega))
                refine ⟨_S_205, ?_⟩
                refine DR_done (by kernel_rfl) ?_
                refine thn_nrm ?_
                exact _J_159 _ _ _b17 (Sub.cons rfl (Sub.cons rfl (Sub.cons rfl (Sub.cons rfl (Sub.cons rfl (Sub.cons rfl (Sub.cons rfl (Sub.cons rfl (Sub.cons rfl (Sub.cons rfl (Sub.cons rfl (Sub.cons rfl (Sub.cons rfl (Sub.nil _)))))))))))))) ((((((Ch.refl [] _wr_152).trans _cw_187).trans _cw_194).trans _cw_199).trans _cw_201).step _cw_203 (fun i hi => .inl (by have _h1 := List.mem_singleton.1 hi; omega))) _m_204 (by omega)
              · refine DO_s rfl rfl rfl ?_
                refine s_alloc zr68 fun _b17 _w_206 _m17 _cw_206 _e17 => ?_
                have _cw_206z := _cw_206.size
                have E := E.trans _cw_206
                have _z17 := _m17.lt
                replace _m17 : Blk _w_206 _b17 68 [(.int .i64 0), (.int .i64 0), (.bool false), (.int .i64 0), (.int .i64 0)] := _m17
                have _S_207 : Ch [] _w_187 _w_206 := (_S_195.trans _cw_206)
                refine ⟨_S_207, ?_⟩
                refine DR_one 15 (by kernel_rfl) ?_
                refine DO_s rfl rfl rfl ?_
                have _f_208 := (((_F1_5.ch0 _cw_187).ch0 _cw_194).ch0 _cw_206)
                have _f_209 := (((_F1_7.ch0 _cw_187).ch0 _cw_194).ch0 _cw_206)
                have _f_210 := (((_F1_6.ch0 _cw_187).ch0 _cw_194).ch0 _cw_206)
                refine Step.call (r_call (xs := [.tmp 73, .tmp 78, .tmp 79]) fk63 rfl) (c_spec_l12Next _ _f_208 _f_210 _f_209 _ _ hvb (by omega) (by omega)) fun _v80 _w_211 _q80 => ?_
                obtain ⟨rfl, _cw_211⟩ := _q80
                have _cw_211z := _cw_211.size
                have E := E.trans _cw_211
                have _S_212 : Ch [] _w_187 _w_211 := (_S_207.trans _cw_211)
                refine ⟨_S_212, ?_⟩
                refine DR_s 18 rfl (by kernel_rfl) rfl rfl (t_v (fun _ => (r_build (parts := [(0, .tmp 72), (1, .tmp 80), (3, .tmp 81), (4, .tmp 82)]) (cells := [(.int .i64 (moveA aN _e31.1.a ((m : Nat) : Int))), (.int .i64 (moveA bN _e31.1.b ((m : Nat) : Int))), (.bool false), (.int .i64 ((k : Nat) : Int)), (.int .i64 ((m : Nat) : Int))]) zr68 pl68 rfl rfl)) ?_)
                refine DR_one 20 (by kernel_rfl) ?_
                refine DO_s rfl rfl rfl ?_
                have _f_213 := (_m17.ch0 _cw_211)
                refine s_storeA (off := 0) 5 _f_213 sz68 rfl (us := [(.int .i64 (moveA aN _e31.1.a ((m : Nat) : Int))), (.int .i64 (moveA bN _e31.1.b ((m : Nat) : Int))), (.bool false), (.int .i64 ((k : Nat) : Int)), (.int .i64 ((m : Nat) : Int))]) rfl rfl rfl rfl fun _w_214 _m_215 _cw_214 => ?_
                have _cw_214z := _cw_214.size
                have E := E.step _cw_214 (fun i hi => .inl (by have _h1 := List.mem_singleton.1 hi; omega))
                replace _m_215 : Blk _w_214 _b17 68 [(.int .i64 (moveA aN _e31.1.a ((m : Nat) : Int))), (.int .i64 (moveA bN _e31.1.b ((m : Nat) : Int))), (.bool false), (.int .i64 ((k : Nat) : Int)), (.int .i64 ((m : Nat) : Int))] := _m_215
                have _S_216 : Ch [] _w_187 _w_214 := (_S_212.step _cw_214 (fun i hm => by have _h0 := List.mem_singleton.1 hm; left; omega))
                refine ⟨_S_216, ?_⟩
                refine DR_done (by kernel_rfl) ?_
                refine thn_nrm ?_
                exact _J_159 _ _ _b17 (Sub.cons rfl (Sub.cons rfl (Sub.cons rfl (Sub.cons rfl (Sub.cons rfl (Sub.cons rfl (Sub.cons rfl (Sub.cons rfl (Sub.cons rfl (Sub.cons rfl (Sub.cons rfl (Sub.cons rfl (Sub.cons rfl (Sub.nil _)))))))))))))) ((((((Ch.refl [] _wr_152).trans _cw_187).trans _cw_194).trans _cw_206).trans _cw_211).step _cw_214 (fun i hi => .inl (by have _h1 := List.mem_singleton.1 hi; omega))) _m_215 (by omega)
            · refine DO_s rfl rfl rfl ?_
              refine s_alloc zr68 fun _b17 _w_217 _m17 _cw_217 _e17 => ?_
              have _cw_217z := _cw_217.size
              have E := E.trans _cw_217
              have _z17 := _m17.lt
              replace _m17 : Blk _w_217 _b17 68 [(.int .i64 0), (.int .i64 0), (.bool false), (.int .i64 0), (.int .i64 0)] := _m17
              have _S_218 : Ch [] _w_187 _w_217 := ((Ch.refl _ _).trans _cw_217)
              refine ⟨_S_218, ?_⟩
              refine DR_one 7 (by kernel_rfl) ?_
              refine DO_s rfl rfl rfl ?_
              have _f_219 := ((_F1_1.ch0 _cw_187).ch0 _cw_217)
              have _f_220 := ((_F1_3.ch0 _cw_187).ch0 _cw_217)
              have _f_221 := ((_F1_2.ch0 _cw_187).ch0 _cw_217)
              refine Step.call (r_call (xs := [.tmp 65, .tmp 70, .tmp 71]) fk63 rfl) (c_spec_l12Next _ _f_219 _f_221 _f_220 _ _ hva (by omega) (by omega)) fun _v72 _w_222 _q72 => ?_
              obtain ⟨rfl, _cw_222⟩ := _q72
              have _cw_222z := _cw_222.size
              have E := E.trans _cw_222
              have _S_223 : Ch [] _w_187 _w_222 := (_S_218.trans _cw_222)
              refine ⟨_S_223, ?_⟩
              refine DR_one 15 (by kernel_rfl) ?_
              refine DO_s rfl rfl rfl ?_
              have _f_224 := (((_F1_5.ch0 _cw_187).ch0 _cw_217).ch0 _cw_222)
              have _f_225 := (((_F1_7.ch0 _cw_187).ch0 _cw_217).ch0 _cw_222)
              have _f_226 := (((_F1_6.ch0 _cw_187).ch0 _cw_217).ch0 _cw_222)
              refine Step.call (r_call (xs := [.tmp 73, .tmp 78, .tmp 79]) fk63 rfl) (c_spec_l12Next _ _f_224 _f_226 _f_225 _ _ hvb (by omega) (by omega)) fun _v80 _w_227 _q80 => ?_
              obtain ⟨rfl, _cw_227⟩ := _q80
              have _cw_227z := _cw_227.size
              have E := E.trans _cw_227
              have _S_228 : Ch [] _w_187 _w_227 := (_S_223.trans _cw_227)
              refine ⟨_S_228, ?_⟩
              refine DR_s 18 rfl (by kernel_rfl) rfl rfl (t_v (fun _ => (r_build (parts := [(0, .tmp 72), (1, .tmp 80), (3, .tmp 81), (4, .tmp 82)]) (cells := [(.int .i64 (moveA aN _e31.1.a ((m : Nat) : Int))), (.int .i64 (moveA bN _e31.1.b ((m : Nat) : Int))), (.bool false), (.int .i64 ((k : Nat) : Int)), (.int .i64 ((m : Nat) : Int))]) zr68 pl68 rfl rfl)) ?_)
              refine DR_one 20 (by kernel_rfl) ?_
              refine DO_s rfl rfl rfl ?_
              have _f_229 := ((_m17.ch0 _cw_222).ch0 _cw_227)
              refine s_storeA (off := 0) 5 _f_229 sz68 rfl (us := [(.int .i64 (moveA aN _e31.1.a ((m : Nat) : Int))), (.int .i64 (moveA bN _e31.1.b ((m : Nat) : Int))), (.bool false), (.int .i64 ((k : Nat) : Int)), (.int .i64 ((m : Nat) : Int))]) rfl rfl rfl rfl fun _w_230 _m_231 _cw_230 => ?_
              have _cw_230z := _cw_230.size
              have E := E.step _cw_230 (fun i hi => .inl (by have _h1 := List.mem_singleton.1 hi; omega))
              replace _m_231 : Blk _w_230 _b17 68 [(.int .i64 (moveA aN _e31.1.a ((m : Nat) : Int))), (.int .i64 (moveA bN _e31.1.b ((m : Nat) : Int))), (.bool false), (.int .i64 ((k : Nat) : Int)), (.int .i64 ((m : Nat) : Int))] := _m_231
              have _S_232 : Ch [] _w_187 _w_230 := (_S_228.step _cw_230 (fun i hm => by have _h0 := List.mem_singleton.1 hm; left; omega))
              refine ⟨_S_232, ?_⟩
              refine DR_done (by kernel_rfl) ?_
              refine thn_nrm ?_
              exact _J_159 _ _ _b17 (Sub.cons rfl (Sub.cons rfl (Sub.cons rfl (Sub.cons rfl (Sub.cons rfl (Sub.cons rfl (Sub.cons rfl (Sub.cons rfl (Sub.cons rfl (Sub.cons rfl (Sub.cons rfl (Sub.cons rfl (Sub.cons rfl (Sub.nil _)))))))))))))) ((((((Ch.refl [] _wr_152).trans _cw_187).trans _cw_217).trans _cw_222).trans _cw_227).step _cw_230 (fun i hi => .inl (by have _h1 := List.mem_singleton.1 hi; omega))) _m_231 (by omega)
          · have _kb_155 := _h62
            have _h62 := bf_d _h62
            refine W_exit (thn_exit (thn_exit (inB_hit ?_)))
            refine inB_nrm ?_
            refine thn_nrm (_hK_15 _ _ ?_)
            clear _hK_15
            refine W_region ?_
            refine WL_step rfl rfl (r_move rfl) ?_
            refine WL_step rfl rfl (r_add (by omega) rfl rfl) ?_
            refine WL_step rfl rfl (r_assign rfl) ?_
            refine WL_nil ?_
            have _on_233 : Ol GNode.cs 68 5 _wr_152 (.slice Akm (M).length Ckm) (M) := by
              have hx := _o1_12
              exact hx
            exact thn_nrm (Exists.intro ((k + 1), M, (.slice Akm (M).length Ckm)) ⟨⟨E, (by omega), (by have _z9 := bx_lt (m := 9) he31; rw [← bE_succ he31] at _z9; omega), (by rw [bE_succ he31, show 9 = m by omega]; exact hL2), (fst_step hf he31 (by unfold tsD; first | (simp [_h43, _h47]; done) | (simp [_h43, _h49, _h57]; done) | (simp [_h43, _h49]; done))), _F1_0, _F1_4, _on_233, (Lo.down _lo1_12 (by omega))⟩, Sub.cons rfl (Sub.cons rfl (Sub.cons rfl (Sub.cons rfl (Sub.cons rfl (Sub.nil _))))), (by first | omega | (dsimp only; omega))⟩)
      · have _kb_135 := _h49
        refine WL_skip rfl rfl ?_
        refine WL_skip rfl rfl ?_
        refine WL_step rfl rfl (r_pickF rfl rfl) ?_
        refine WL_step rfl rfl (r_move rfl) ?_
        refine WL_skip rfl rfl ?_
        refine WL_skip rfl rfl ?_
        refine WL_step rfl rfl (r_pickF rfl rfl) ?_
        refine WL_step rfl rfl (r_pickF rfl rfl) ?_
        refine WL_nil ?_
        refine thn_nrm (_hK_35 _ _ ?_)
        clear _hK_35
        refine W_condF rfl ?_
        refine W_skip ?_
        refine thn_nrm (_hK_34 _ _ ?_)
        clear _hK_34
        refine W_seq fun _K_234 _hK_234 => ?_
        refine W_region ?_
        refine WL_step rfl rfl (r_assign rfl) ?_
        refine WL_nil ?_
        refine thn_nrm (_hK_234 _ _ ?_)
        clear _hK_234
        refine W_block ?_
        have _f_235 := (_f_28.ch0 _cw_32)
        have _oi_236 : Ol GNode.cs 68 5 _w_32 (.slice Akl (L).length Ckl) (L) := by
          have hx := _f_235
          exact hx
        have _f_237 := (((_f_18.ch0 _cw_23).ch0 _cw_26).ch0 _cw_32)
        have _f_238 := (((_f_20.ch0 _cw_23).ch0 _cw_26).ch0 _cw_32)
        have _f_239 := (((_f_22.ch0 _cw_23).ch0 _cw_26).ch0 _cw_32)
        have _f_240 := (((_f_21.ch0 _cw_23).ch0 _cw_26).ch0 _cw_32)
        have _f_241 := (_f_27.ch0 _cw_32)
        have _f_242 := (_f_29.ch0 _cw_32)
        have _f_243 := (_f_31.ch0 _cw_32)
        have _f_244 := (_f_30.ch0 _cw_32)
        refine W_loop (σ := Nat × List GNode × Value) (fun ⟨m, M, km⟩ => [(4, (.bool only)), (5, (.pointer (some ⟨_b5, 0, none⟩))), (7, (.pointer (some ⟨_b7, 0, none⟩))), (12, km), (13, (.int .i64 ((k : Nat) : Int))), (14, (.bool (accA aA _e31.1.a))), (15, (.bool (accA bA _e31.1.b))), (16, (.int .i64 ((m : Nat) : Int))), (25, (.bool (decide (((k : Nat) : Int) < ((L.length : Nat) : Int))))), (57, (.bool false))]) (fun ⟨m, M, km⟩ wx => Ch [] w wx ∧ _w_32.heap.size ≤ wx.heap.size ∧ (m ≤ 9) ∧ (NdR M (bx (nxS aN bN) _e31 (bE (nxS aN bN) (⟨s, t⟩ : St2) k) m)) ∧ Blk wx _b5 28 [(.int .i64 aS), (.slice _A_aA aA.length _C_aA), (.slice _A_saN saN.length _C_saN)] ∧ Ls bcs 1 wx LL_aA w.heap.size (.slice _A_aA aA.length _C_aA) aA ∧ Ls Sv.cs 1 wx LL_saN w.heap.size (.slice _A_saN saN.length _C_saN) saN ∧ Rd ics 1 wx LR_aN w.heap.size saN aN ∧ Blk wx _b7 28 [(.int .i64 bS), (.slice _A_bA bA.length _C_bA), (.slice _A_sbN sbN.length _C_sbN)] ∧ Ls bcs 1 wx LL_bA w.heap.size (.slice _A_bA bA.length _C_bA) bA ∧ Ls Sv.cs 1 wx LL_sbN w.heap.size (.slice _A_sbN sbN.length _C_sbN) sbN ∧ Rd ics 1 wx LR_bN w.heap.size sbN bN ∧ Ol GNode.cs 68 5 wx km M ∧ Lo _w_3.heap.size km) (fun ⟨m, M, km⟩ => 9 - m) (0, L, (.slice Akl (L).length Ckl)) (Sub.cons rfl (Sub.cons rfl (Sub.cons rfl (Sub.cons rfl (Sub.cons rfl (Sub.cons rfl (Sub.cons rfl (Sub.cons rfl (Sub.cons rfl (Sub.cons rfl (Sub.nil _))))))))))) ⟨E, (Nat.le_refl _), (by omega), hL, _f_237, _f_238, _f_239, _f_240, _f_241, _f_242, _f_243, _f_244, _oi_236, _lo0_12⟩ ?_
        rintro ⟨m, M, km⟩ _wr_245 ⟨E, _zz1, hm, hL2, _F1_0, _F1_1, _F1_2, _F1_3, _F1_4, _F1_5, _F1_6, _F1_7, _o1_12, _lo1_12⟩
        have _E1h := E
        have _E1hz := _E1h.size
        have _F1_0z := _F1_0.lt
        have _F1_4z := _F1_4.lt
        obtain ⟨Akm, Ckm, ekm⟩ := _o1_12.val
        subst ekm
        have lkm := _o1_12.len
        have hikm := _o1_12.lt
        have ml9 := hL2.len
        have mk9 := bx_lt (m := m) he31
        refine W_seq fun _K_246 _hK_246 => ?_
        refine W_seq fun _K_247 _hK_247 => ?_
        refine W_region ?_
        refine WL_step rfl rfl (r_move rfl) ?_
        refine WL_step rfl rfl (r_lss rfl rfl) ?_
        refine WL_nil ?_
        refine thn_nrm (_hK_247 _ _ ?_)
        clear _hK_247
        refine W_cond rfl (fun _h62 => ?_) (fun _h62 => ?_)
        · have _kb_248 := _h62
          have _h62 := bt_d _h62
          refine W_skip ?_
          refine thn_nrm (_hK_246 _ _ ?_)
          clear _hK_246
          refine W_seq fun _K_249 _hK_249 => ?_
          refine W_block ?_
          refine W_seq fun _K_250 _hK_250 => ?_
          have _J_252 : ∀ (lj : KL) (_wj_251 : World) (jb17 : Nat), Go.KLib.Sub [(4, (.bool only)), (5, (.pointer (some ⟨_b5, 0, none⟩))), (7, (.pointer (some ⟨_b7, 0, none⟩))), (12, (.slice Akm (M).length Ckm)), (13, (.int .i64 ((k : Nat) : Int))), (14, (.bool (accA aA _e31.1.a))), (15, (.bool (accA bA _e31.1.b))), (16, (.int .i64 ((m : Nat) : Int))), (17, (.pointer (some ⟨jb17, 0, none⟩))), (25, (.bool (decide (((k : Nat) : Int) < ((L.length : Nat) : Int))))), (57, (.bool false)), (61, (.int .i64 ((m : Nat) : Int))), (62, (.bool (decide (((m : Nat) : Int) < 9))))] lj → Ch [] _wr_245 _wj_251 → Blk _wj_251 jb17 68 [(.int .i64 (moveA aN _e31.1.a ((m : Nat) : Int))), (.int .i64 (moveA bN _e31.1.b ((m : Nat) : Int))), (.bool false), (.int .i64 ((k : Nat) : Int)), (.int .i64 ((m : Nat) : Int))] → _wr_245.heap.size ≤ jb17 → _K_250 lj _wj_251 := by
            intro lj _wj_251 jb17 _jsub _cjK_250 _mjb17 _ejb17
            refine _hK_250 _ _ (W_sub _jsub ?_)
            clear _hK_250
            have _cjK_250z := _cjK_250.size
            have E := E.trans _cjK_250
            have _zjb17 := _mjb17.lt
            refine W_seq fun _K_253 _hK_253 => ?_
            refine W_region ?_
            refine WL_step rfl rfl (r_move rfl) ?_
            refine WL_step rfl rfl (r_loadAtA0 _mjb17.at_ agg68 sz68 rfl) ?_
            refine WL_s rfl rfl ?_
            have _f_254 := (_o1_12.ch0 _cjK_250)
            refine Step.call (r_call (xs := [.tmp 84, .tmp 85]) fk64 rfl) (c_spec_l10Has _f_254.ls ⟨moveA aN _e31.1.a ((m : Nat) : Int), moveA bN _e31.1.b ((m : Nat) : Int), false, ((k : Nat) : Int), ((m : Nat) : Int)⟩ ) fun _v86 _w_255 _q86 => ?_
            obtain ⟨rfl, _cw_255⟩ := _q86
            have _cw_255z := _cw_255.size
            have E := E.trans _cw_255
            refine WL_step rfl rfl (r_not rfl) ?_
            refine WL_nil ?_
            refine thn_nrm (_hK_253 _ _ ?_)
            clear _hK_253
            refine W_cond rfl (fun _h87 => ?_) (fun _h87 => ?_)
            · have _kb_256 := _h87
              have _h87 := bf_t (bt_n _h87)
              have ll9 := hL2.len
              have lm9 := bx_le9 (m := m) he31 (by omega)
              have _ln9 := hle (k + 1)
              refine W_region ?_
              refine WL_step rfl rfl (r_move rfl) ?_
              have _f_257 := (_mjb17.ch0 _cw_255)
              refine WL_step rfl rfl (r_loadAtA0 _f_257.at_ agg68 sz68 rfl) ?_
              refine WL_s rfl rfl ?_
              refine s_buildSlice (cs := GNode.cs) (parts := [(0, .tmp 89)]) (⟨0, 0, false, 0, 0⟩ : GNode) [(⟨moveA aN _e31.1.a ((m : Nat) : Int), moveA bN _e31.1.b ((m : Nat) : Int), false, ((k : Nat) : Int), ((m : Nat) : Int)⟩ : GNode)] el69 sz68 zr68 GNode.len (by decide) rfl rfl rfl (by decide) (by decide) rfl fun _v90 _w_258 _q90 _lo90 _cw_258 => ?_
              have _cw_258z := _cw_258.size
              have E := E.trans _cw_258
              obtain ⟨_Av90, _Cv90, _ev90⟩ := _q90.val
              subst _ev90
              have _lv90 := _q90.len
              have _hiv90 := _q90.lt
              refine WL_s rfl rfl ?_
              have _f_260 := ((_f_254.ch0 _cw_255).ch0 _cw_258)
              refine s_append (cs := GNode.cs) el69 sz68 by68 zr68 rfl (by decide) GNode.one _f_260 _q90.ls rfl rfl (by first | omega | (simp only [List.length_append, List.length_nil, List.length_cons, List.length_replicate, List.length_set, List.length_reverse, List.length_map] at *; omega) | (simp at *; omega)) (by first | omega | (simp only [List.length_append, List.length_nil, List.length_cons, List.length_replicate, List.length_set, List.length_reverse, List.length_map] at *; omega) | (simp at *; omega)) _lo1_12 (by omega) fun _v91 _w_259 _q91 _lo91 _ap91 _cw_259 => ?_
              have _cw_259z := _cw_259.size
              have E := E.step _cw_259 (fun i hi => .inl (by have _h1 := _lo1_12 _ hi; omega))
              obtain ⟨_Av91, _Cv91, _ev91⟩ := _q91.val
              subst _ev91
              have _lv91 := _q91.len
              have _hiv91 := _q91.lt
              refine WL_step rfl rfl (r_assign rfl) ?_
              refine WL_nil ?_
              refine inB_nrm ?_
              refine thn_nrm (_hK_249 _ _ ?_)
              clear _hK_249
              refine W_region ?_
              refine WL_step rfl rfl (r_move rfl) ?_
              refine WL_step rfl rfl (r_add (by omega) rfl rfl) ?_
              refine WL_step rfl rfl (r_assign rfl) ?_
              refine WL_nil ?_
              have _on_261 : Ol GNode.cs 68 5 _w_259 (.slice _Av91 ((M ++ [(⟨moveA aN _e31.1.a ((m : Nat) : Int), moveA bN _e31.1.b ((m : Nat) : Int), false, ((k : Nat) : Int), ((m : Nat) : Int)⟩ : GNode)])).length _Cv91) ((M ++ [(⟨moveA aN _e31.1.a ((m : Nat) : Int), moveA bN _e31.1.b ((m : Nat) : Int), false, ((k : Nat) : Int), ((m : Nat) : Int)⟩ : GNode)])) := by
                have hx := _q91
                exact hx
              have _f_262 := ((((_F1_0.ch0 _cjK_250).ch0 _cw_255).ch0 _cw_258).ch _cw_259 (fun hm => by have _h1 := _lo1_12 _ hm; have _h2 := hikm _ hm; omega))
              have _f_263 := ((((_F1_1.ch0 _cjK_250).ch0 _cw_255).ch0 _cw_258).ch _cw_259 (fun i hi => by have _h1 := _lo1_12 _ hi; omega))
              have _f_264 := ((((_F1_2.ch0 _cjK_250).ch0 _cw_255).ch0 _cw_258).ch _cw_259 (fun i hi => by have _h1 := _lo1_12 _ hi; omega))
              have _f_265 := ((((_F1_3.ch0 _cjK_250).ch0 _cw_255).ch0 _cw_258).ch _cw_259 (fun i hi => by have _h1 := _lo1_12 _ hi; omega))
              have _f_266 := ((((_F1_4.ch0 _cjK_250).ch0 _cw_255).ch0 _cw_258).ch _cw_259 (fun hm => by have _h1 := _lo1_12 _ hm; have _h2 := hikm _ hm; omega))
              have _f_267 := ((((_F1_5.ch0 _cjK_250).ch0 _cw_255).ch0 _cw_258).ch _cw_259 (fun i hi => by have _h1 := _lo1_12 _ hi; omega))
              have _f_268 := ((((_F1_6.ch0 _cjK_250).ch0 _cw_255).ch0 _cw_258).ch _cw_259 (fun i hi => by have _h1 := _lo1_12 _ hi; omega))
              have _f_269 := ((((_F1_7.ch0 _cjK_250).ch0 _cw_255).ch0 _cw_258).ch _cw_259 (fun i hi => by have _h1 := _lo1_12 _ hi; omega))
              exact thn_nrm (Exists.intro ((m + 1), (M ++ [(⟨moveA aN _e31.1.a ((m : Nat) : Int), moveA bN _e31.1.b ((m : Nat) : Int), false, ((k : Nat) : Int), ((m : Nat) : Int)⟩ : GNode)]), (.slice _Av91 ((M ++ [(⟨moveA aN _e31.1.a ((m : Nat) : Int), moveA bN _e31.1.b ((m : Nat) : Int), false, ((k : Nat) : Int), ((m : Nat) : Int)⟩ : GNode)])).length _Cv91)) ⟨⟨E, (by omega), (by omega), (by first | exact nd_old hL2 rfl rfl _h87 | exact nd_new hL2 rfl rfl _h87 he31), _f_262, _f_263, _f_264, _f_265, _f_266, _f_267, _f_268, _f_269, _on_261, (Lo.down _lo91 (by omega))⟩, Sub.cons rfl (Sub.cons rfl (Sub.cons rfl (Sub.cons rfl (Sub.cons rfl (Sub.cons rfl (Sub.cons rfl (Sub.cons rfl (Sub.cons rfl (Sub.cons rfl (Sub.nil _)))))))))), (by first | omega | (dsimp only; omega))⟩)
            · have _kb_256 := _h87
              have _h87 := bt_t (bf_n _h87)
              refine W_skip ?_
              refine inB_nrm ?_
              refine thn_nrm (_hK_249 _ _ ?_)
              clear _hK_249
              refine W_region ?_
              refine WL_step rfl rfl (r_move rfl) ?_
              refine WL_step rfl rfl (r_add (by omega) rfl rfl) ?_
              refine WL_step rfl rfl (r_assign rfl) ?_
              refine WL_nil ?_
              have _f_271 := (_f_254.ch0 _cw_255)
              have _on_270 : Ol GNode.cs 68 5 _w_255 (.slice Akm (M).length Ckm) (M) := by
                have hx := _f_271
                exact hx
              have _f_272 := ((_F1_0.ch0 _cjK_250).ch0 _cw_255)
              have _f_273 := ((_F1_1.ch0 _cjK_250).ch0 _cw_255)
              have _f_274 := ((_F1_2.ch0 _cjK_250).ch0 _cw_255)
              have _f_275 := ((_F1_3.ch0 _cjK_250).ch0 _cw_255)
              have _f_276 := ((_F1_4.ch0 _cjK_250).ch0 _cw_255)
              have _f_277 := ((_F1_5.ch0 _cjK_250).ch0 _cw_255)
              have _f_278 := ((_F1_6.ch0 _cjK_250).ch0 _cw_255)
              have _f_279 := ((_F1_7.ch0 _cjK_250).ch0 _cw_255)
              exact thn_nrm (Exists.intro ((m + 1), M, (.slice Akm (M).length Ckm)) ⟨⟨E, (by omega), (by omega), (by first | exact nd_old hL2 rfl rfl _h87 | exact nd_new hL2 rfl rfl _h87 he31), _f_272, _f_273, _f_274, _f_275, _f_276, _f_277, _f_278, _f_279, _on_270, (Lo.down _lo1_12 (by omega))⟩, Sub.cons rfl (Sub.cons rfl (Sub.cons rfl (Sub.cons rfl (Sub.cons rfl (Sub.cons rfl (Sub.cons rfl (Sub.cons rfl (Sub.cons rfl (Sub.cons rfl (Sub.nil _)))))))))), (by first | omega | (dsimp only; omega))⟩)
          clear _hK_250
          refine W_drawC [] 21 mixed rfl fun _w_280 _cw_280 => ?_
          have _cw_280z := _cw_280.size
          have E := E.trans _cw_280
          have _f_281 := (_F1_0.ch0 _cw_280)
          refine DR_s 0 rfl (by kernel_rfl) rfl rfl (t_loadAtA0 _f_281.at_ (fun i hi => absurd hi List.not_mem_nil) agg28 sz28 rfl ?_)
          refine DR_s 1 rfl (by kernel_rfl) rfl rfl (t_v (fun _ => (r_move rfl)) ?_)
          refine DR_s 2 rfl (by kernel_rfl) rfl rfl (t_v (fun _ => (r_move rfl)) ?_)
          have _f_282 := (_o1_12.ch0 _cw_280)
          refine DR_s 3 rfl (by kernel_rfl) rfl rfl (t_index _f_282.ls GNode.len el69 sz68 rfl rfl rfl (by omega) fun _p68 _y68 _hy68 _a68 => ?_)
          obtain ⟨_e68, fr68, by68, he68, rfl⟩ := nd_lit hL2 _hy68
          obtain rfl := get_uniq (bx_get he31) he68
          replace _a68 : At _w_280 0 _w_280.heap.size _p68 ([(.int .i64 _e31.1.a), (.int .i64 _e31.1.b), (.bool false), (.int .i64 fr68), (.int .i64 by68)]) := _a68
          refine DR_s 4 rfl (by kernel_rfl) rfl rfl (t_v (fun _ => (r_fieldAddr fa68_0 rfl)) ?_)
          refine DR_s 5 rfl (by kernel_rfl) rfl rfl (t_loadAt _a68 (fun i hi => absurd hi List.not_mem_nil) agg3 rfl rfl ?_)
          refine DR_s 6 rfl (by kernel_rfl) rfl rfl (t_v (fun _ => (r_move rfl)) ?_)
          have _f_283 := (_F1_4.ch0 _cw_280)
          refine DR_s 8 rfl (by kernel_rfl) rfl rfl (t_loadAtA0 _f_283.at_ (fun i hi => absurd hi List.not_mem_nil) agg28 sz28 rfl ?_)
          refine DR_s 9 rfl (by kernel_rfl) rfl rfl (t_v (fun _ => (r_move rfl)) ?_)
          refine DR_s 10 rfl (by kernel_rfl) rfl rfl (t_v (fun _ => (r_move rfl)) ?_)
          refine DR_s 11 rfl (by kernel_rfl) rfl rfl (t_index _f_282.ls GNode.len el69 sz68 rfl rfl rfl (by omega) fun _p76 _y76 _hy76 _a76 => ?_)
          obtain ⟨_e76, fr76, by76, he76, rfl⟩ := nd_lit hL2 _hy76
          obtain rfl := get_uniq (bx_get he31) he76
          replace _a76 : At _w_280 0 _w_280.heap.size _p76 ([(.int .i64 _e31.1.a), (.int .i64 _e31.1.b), (.bool false), (.int .i64 fr76), (.int .i64 by76)]) := _a76
          refine DR_s 12 rfl (by kernel_rfl) rfl rfl (t_v (fun _ => (r_fieldAddr fa68_1 rfl)) ?_)
          refine DR_s 13 rfl (by kernel_rfl) rfl rfl (t_loadAt _a76 (fun i hi => absurd hi List.not_mem_nil) agg3 rfl rfl ?_)
          refine DR_s 14 rfl (by kernel_rfl) rfl rfl (t_v (fun _ => (r_move rfl)) ?_)
          refine DR_s 16 rfl (by kernel_rfl) rfl rfl (t_v (fun _ => (r_move rfl)) ?_)
          refine DR_s 17 rfl (by kernel_rfl) rfl rfl (t_v (fun _ => (r_move rfl)) ?_)
          refine DR_two 7 19 (by kernel_rfl) ?_ ?_
          · refine DO_s rfl rfl rfl ?_
            have _f_284 := (_F1_1.ch0 _cw_280)
            have _f_285 := (_F1_3.ch0 _cw_280)
            have _f_286 := (_F1_2.ch0 _cw_280)
            refine Step.call (r_call (xs := [.tmp 65, .tmp 70, .tmp 71]) fk63 rfl) (c_spec_l12Next _ _f_284 _f_286 _f_285 _ _ hva (by omega) (by omega)) fun _v72 _w_287 _q72 => ?_
            obtain ⟨rfl, _cw_287⟩ := _q72
            have _cw_287z := _cw_287.size
            have E := E.trans _cw_287
            have _S_288 : Ch [] _w_280 _w_287 := ((Ch.refl _ _).trans _cw_287)
            refine ⟨_S_288, ?_⟩
            refine DR_two 15 19 (by kernel_rfl) ?_ ?_
            · refine DO_s rfl rfl rfl ?_
              have _f_289 := ((_F1_5.ch0 _cw_280).ch0 _cw_287)
              have _f_290 := ((_F1_7.ch0 _cw_280).ch0 _cw_287)
              have _f_291 := ((_F1_6.ch0 _cw_280).ch0 _cw_287)
              refine Step.call (r_call (xs := [.tmp 73, .tmp 78, .tmp 79]) fk63 rfl) (c_spec_l12Next _ _f_289 _f_291 _f_290 _ _ hvb (by omega) (by omega)) fun _v80 _w_292 _q80 => ?_
              obtain ⟨rfl, _cw_292⟩ := _q80
              have _cw_292z := _cw_292.size
              have E := E.trans _cw_292
              have _S_293 : Ch [] _w_280 _w_292 := (_S_288.trans _cw_292)
              refine ⟨_S_293, ?_⟩
              refine DR_s 18 rfl (by kernel_rfl) rfl rfl (t_v (fun _ => (r_build (parts := [(0, .tmp 72), (1, .tmp 80), (3, .tmp 81), (4, .tmp 82)]) (cells := [(.int .i64 (moveA aN _e31.1.a ((m : Nat) : Int))), (.int .i64 (moveA bN _e31.1.b ((m : Nat) : Int))), (.bool false), (.int .i64 ((k : Nat) : Int)), (.int .i64 ((m : Nat) : Int))]) zr68 pl68 rfl rfl)) ?_)
              refine DR_one 19 (by kernel_rfl) ?_
              refine DO_s rfl rfl rfl ?_
              refine s_alloc zr68 fun _b17 _w_294 _m17 _cw_294 _e17 => ?_
              have _cw_294z := _cw_294.size
              have E := E.trans _cw_294
              have _z17 := _m17.lt
              replace _m17 : Blk _w_294 _b17 68 [(.int .i64 0), (.int .i64 0), (.bool false), (.int .i64 0), (.int .i64 0)] := _m17
              have _S_295 : Ch [] _w_280 _w_294 := (_S_293.trans _cw_294)
              refine ⟨_S_295, ?_⟩
              refine DR_one 20 (by kernel_rfl) ?_
              refine DO_s rfl rfl rfl ?_
              refine s_storeA (off := 0) 5 _m17 sz68 rfl (us := [(.int .i64 (moveA aN _e31.1.a ((m : Nat) : Int))), (.int .i64 (moveA bN _e31.1.b ((m : Nat) : Int))), (.bool false), (.int .i64 ((k : Nat) : Int)), (.int .i64 ((m : Nat) : Int))]) rfl rfl rfl rfl fun _w_296 _m_297 _cw_296 => ?_
              have _cw_296z := _cw_296.size
              have E := E.step _cw_296 (fun i hi => .inl (by have _h1 := List.mem_singleton.1 hi; omega))
              replace _m_297 : Blk _w_296 _b17 68 [(.int .i64 (moveA aN _e31.1.a ((m : Nat) : Int))), (.int .i64 (moveA bN _e31.1.b ((m : Nat) : Int))), (.bool false), (.int .i64 ((k : Nat) : Int)), (.int .i64 ((m : Nat) : Int))] := _m_297
              have _S_298 : Ch [] _w_280 _w_296 := (_S_295.step _cw_296 (fun i hm => by have _h0 := List.mem_singleton.1 hm; left; omega))
              refine ⟨_S_298, ?_⟩
              refine DR_done (by kernel_rfl) ?_
              refine thn_nrm ?_
              exact _J_252 _ _ _b17 (Sub.cons rfl (Sub.cons rfl (Sub.cons rfl (Sub.cons rfl (Sub.cons rfl (Sub.cons rfl (Sub.cons rfl (Sub.cons rfl (Sub.cons rfl (Sub.cons rfl (Sub.cons rfl (Sub.cons rfl (Sub.cons rfl (Sub.nil _)))))))))))))) ((((((Ch.refl [] _wr_245).trans _cw_280).trans _cw_287).trans _cw_292).trans _cw_294).step _cw_296 (fun i hi => .inl (by have _h1 := List.mem_singleton.1 hi; omega))) _m_297 (by omega)
            · refine DO_s rfl rfl rfl ?_
              refine s_alloc zr68 fun _b17 _w_299 _m17 _cw_299 _e17 => ?_
              have _cw_299z := _cw_299.size
              have E := E.trans _cw_299
              have _z17 := _m17.lt
              replace _m17 : Blk _w_299 _b17 68 [(.int .i64 0), (.int .i64 0), (.bool false), (.int .i64 0), (.int .i64 0)] := _m17
              have _S_300 : Ch [] _w_280 _w_299 := (_S_288.trans _cw_299)
              refine ⟨_S_300, ?_⟩
              refine DR_one 15 (by kernel_rfl) ?_
              refine DO_s rfl rfl rfl ?_
              have _f_301 := (((_F1_5.ch0 _cw_280).ch0 _cw_287).ch0 _cw_299)
              have _f_302 := (((_F1_7.ch0 _cw_280).ch0 _cw_287).ch0 _cw_299)
              have _f_303 := (((_F1_6.ch0 _cw_280).ch0 _cw_287).ch0 _cw_299)
              refine Step.call (r_call (xs := [.tmp 73, .tmp 78, .tmp 79]) fk63 rfl) (c_spec_l12Next _ _f_301 _f_303 _f_302 _ _ hvb (by omega) (by omega)) fun _v80 _w_304 _q80 => ?_
              obtain ⟨rfl, _cw_304⟩ := _q80
              have _cw_304z := _cw_304.size
              have E := E.trans _cw_304
              have _S_305 : Ch [] _w_280 _w_304 := (_S_300.trans _cw_304)
              refine ⟨_S_305, ?_⟩
              refine DR_s 18 rfl (by kernel_rfl) rfl rfl (t_v (fun _ => (r_build (parts := [(0, .tmp 72), (1, .tmp 80), (3, .tmp 81), (4, .tmp 82)]) (cells := [(.int .i64 (moveA aN _e31.1.a ((m : Nat) : Int))), (.int .i64 (moveA bN _e31.1.b ((m : Nat) : Int))), (.bool false), (.int .i64 ((k : Nat) : Int)), (.int .i64 ((m : Nat) : Int))]) zr68 pl68 rfl rfl)) ?_)
              refine DR_one 20 (by kernel_rfl) ?_
              refine DO_s rfl rfl rfl ?_
              have _f_306 := (_m17.ch0 _cw_304)
              refine s_storeA (off := 0) 5 _f_306 sz68 rfl (us := [(.int .i64 (moveA aN _e31.1.a ((m : Nat) : Int))), (.int .i64 (moveA bN _e31.1.b ((m : Nat) : Int))), (.bool false), (.int .i64 ((k : Nat) : Int)), (.int .i64 ((m : Nat) : Int))]) rfl rfl rfl rfl fun _w_307 _m_308 _cw_307 => ?_
              have _cw_307z := _cw_307.size
              have E := E.step _cw_307 (fun i hi => .inl (by have _h1 := List.mem_singleton.1 hi; omega))
              replace _m_308 : Blk _w_307 _b17 68 [(.int .i64 (moveA aN _e31.1.a ((m : Nat) : Int))), (.int .i64 (moveA bN _e31.1.b ((m : Nat) : Int))), (.bool false), (.int .i64 ((k : Nat) : Int)), (.int .i64 ((m : Nat) : Int))] := _m_308
              have _S_309 : Ch [] _w_280 _w_307 := (_S_305.step _cw_307 (fun i hm => by have _h0 := List.mem_singleton.1 hm; left; omega))
              refine ⟨_S_309, ?_⟩
              refine DR_done (by kernel_rfl) ?_
              refine thn_nrm ?_
              exact _J_252 _ _ _b17 (Sub.cons rfl (Sub.cons rfl (Sub.cons rfl (Sub.cons rfl (Sub.cons rfl (Sub.cons rfl (Sub.cons rfl (Sub.cons rfl (Sub.cons rfl (Sub.cons rfl (Sub.cons rfl (Sub.cons rfl (Sub.cons rfl (Sub.nil _)))))))))))))) ((((((Ch.refl [] _wr_245).trans _cw_280).trans _cw_287).trans _cw_299).trans _cw_304).step _cw_307 (fun i hi => .inl (by have _h1 := List.mem_singleton.1 hi; omega))) _m_308 (by omega)
          · refine DO_s rfl rfl rfl ?_
            refine s_alloc zr68 fun _b17 _w_310 _m17 _cw_310 _e17 => ?_
            have _cw_310z := _cw_310.size
            have E := E.trans _cw_310
            have _z17 := _m17.lt
            replace _m17 : Blk _w_310 _b17 68 [(.int .i64 0), (.int .i64 0), (.bool false), (.int .i64 0), (.int .i64 0)] := _m17
            have _S_311 : Ch [] _w_280 _w_310 := ((Ch.refl _ _).trans _cw_310)
            refine ⟨_S_311, ?_⟩
            refine DR_one 7 (by kernel_rfl) ?_
            refine DO_s rfl rfl rfl ?_
            have _f_312 := ((_F1_1.ch0 _cw_280).ch0 _cw_310)
            have _f_313 := ((_F1_3.ch0 _cw_280).ch0 _cw_310)
            have _f_314 := ((_F1_2.ch0 _cw_280).ch0 _cw_310)
            refine Step.call (r_call (xs := [.tmp 65, .tmp 70, .tmp 71]) fk63 rfl) (c_spec_l12Next _ _f_312 _f_314 _f_313 _ _ hva (by omega) (by omega)) fun _v72 _w_315 _q72 => ?_
            obtain ⟨rfl, _cw_315⟩ := _q72
            have _cw_315z := _cw_315.size
            have E := E.trans _cw_315
            have _S_316 : Ch [] _w_280 _w_315 := (_S_311.trans _cw_315)
            refine ⟨_S_316, ?_⟩
            refine DR_one 15 (by kernel_rfl) ?_
            refine DO_s rfl rfl rfl ?_
            have _f_317 := (((_F1_5.ch0 _cw_280).ch0 _cw_310).ch0 _cw_315)
            have _f_318 := (((_F1_7.ch0 _cw_280).ch0 _cw_310).ch0 _cw_315)
            have _f_319 := (((_F1_6.ch0 _cw_280).ch0 _cw_310).ch0 _cw_315)
            refine Step.call (r_call (xs := [.tmp 73, .tmp 78, .tmp 79]) fk63 rfl) (c_spec_l12Next _ _f_317 _f_319 _f_318 _ _ hvb (by omega) (by omega)) fun _v80 _w_320 _q80 => ?_
            obtain ⟨rfl, _cw_320⟩ := _q80
            have _cw_320z := _cw_320.size
            have E := E.trans _cw_320
            have _S_321 : Ch [] _w_280 _w_320 := (_S_316.trans _cw_320)
            refine ⟨_S_321, ?_⟩
            refine DR_s 18 rfl (by kernel_rfl) rfl rfl (t_v (fun _ => (r_build (parts := [(0, .tmp 72), (1, .tmp 80), (3, .tmp 81), (4, .tmp 82)]) (cells := [(.int .i64 (moveA aN _e31.1.a ((m : Nat) : Int))), (.int .i64 (moveA bN _e31.1.b ((m : Nat) : Int))), (.bool false), (.int .i64 ((k : Nat) : Int)), (.int .i64 ((m : Nat) : Int))]) zr68 pl68 rfl rfl)) ?_)
            refine DR_one 20 (by kernel_rfl) ?_
            refine DO_s rfl rfl rfl ?_
            have _f_322 := ((_m17.ch0 _cw_315).ch0 _cw_320)
            refine s_storeA (off := 0) 5 _f_322 sz68 rfl (us := [(.int .i64 (moveA aN _e31.1.a ((m : Nat) : Int))), (.int .i64 (moveA bN _e31.1.b ((m : Nat) : Int))), (.bool false), (.int .i64 ((k : Nat) : Int)), (.int .i64 ((m : Nat) : Int))]) rfl rfl rfl rfl fun _w_323 _m_324 _cw_323 => ?_
            have _cw_323z := _cw_323.size
            have E := E.step _cw_323 (fun i hi => .inl (by have _h1 := List.mem_singleton.1 hi; omega))
            replace _m_324 : Blk _w_323 _b17 68 [(.int .i64 (moveA aN _e31.1.a ((m : Nat) : Int))), (.int .i64 (moveA bN _e31.1.b ((m : Nat) : Int))), (.bool false), (.int .i64 ((k : Nat) : Int)), (.int .i64 ((m : Nat) : Int))] := _m_324
            have _S_325 : Ch [] _w_280 _w_323 := (_S_321.step _cw_323 (fun i hm => by have _h0 := List.mem_singleton.1 hm; left; omega))
            refine ⟨_S_325, ?_⟩
            refine DR_done (by kernel_rfl) ?_
            refine thn_nrm ?_
            exact _J_252 _ _ _b17 (Sub.cons rfl (Sub.cons rfl (Sub.cons rfl (Sub.cons rfl (Sub.cons rfl (Sub.cons rfl (Sub.cons rfl (Sub.cons rfl (Sub.cons rfl (Sub.cons rfl (Sub.cons rfl (Sub.cons rfl (Sub.cons rfl (Sub.nil _)))))))))))))) ((((((Ch.refl [] _wr_245).trans _cw_280).trans _cw_310).trans _cw_315).trans _cw_320).step _cw_323 (fun i hi => .inl (by have _h1 := List.mem_singleton.1 hi; omega))) _m_324 (by omega)
        · have _kb_248 := _h62
          have _h62 := bf_d _h62
          refine W_exit (thn_exit (thn_exit (inB_hit ?_)))
          refine inB_nrm ?_
          refine thn_nrm (_hK_15 _ _ ?_)
          clear _hK_15
          refine W_region ?_
          refine WL_step rfl rfl (r_move rfl) ?_
          refine WL_step rfl rfl (r_add (by omega) rfl rfl) ?_
          refine WL_step rfl rfl (r_assign rfl) ?_
          refine WL_nil ?_
          have _on_326 : Ol GNode.cs 68 5 _wr_245 (.slice Akm (M).length Ckm) (M) := by
            have hx := _o1_12
            exact hx
          exact thn_nrm (Exists.intro ((k + 1), M, (.slice Akm (M).length Ckm)) ⟨⟨E, (by omega), (by have _z9 := bx_lt (m := 9) he31; rw [← bE_succ he31] at _z9; omega), (by rw [bE_succ he31, show 9 = m by omega]; exact hL2), (fst_step hf he31 (by unfold tsD; first | (simp [_h43, _h47]; done) | (simp [_h43, _h49, _h57]; done) | (simp [_h43, _h49]; done))), _F1_0, _F1_4, _on_326, (Lo.down _lo1_12 (by omega))⟩, Sub.cons rfl (Sub.cons rfl (Sub.cons rfl (Sub.cons rfl (Sub.cons rfl (Sub.nil _))))), (by first | omega | (dsimp only; omega))⟩)
  · have _kb_14 := _h25
    have _h25 := bf_d _h25
    refine W_exit (thn_exit (thn_exit (inB_hit ?_)))
    refine thn_nrm (_hK_6 _ _ ?_)
    clear _hK_6
    refine W_seq fun _K_327 _hK_327 => ?_
    refine W_region ?_
    refine WL_s rfl rfl ?_
    refine s_buildSlice0 (k := 1) ics el31 sz3 fun _v92 _w_328 _q92 _lo92 _cw_328 => ?_
    have _cw_328z := _cw_328.size
    have E := E.trans _cw_328
    obtain ⟨_Av92, _Cv92, _ev92⟩ := _q92.val
    subst _ev92
    have _lv92 := _q92.len
    have _hiv92 := _q92.lt
    refine WL_step rfl rfl (r_assign rfl) ?_
    refine WL_step rfl rfl (r_assign rfl) ?_
    refine WL_nil ?_
    refine thn_nrm (_hK_327 _ _ ?_)
    clear _hK_327
    refine W_ret ?_
    clear _hK_12
    have _o_329 : Ol ics 3 1 _w_328 (.slice _Av92 (([] : List Int)).length _Cv92) ((difR aA aN bA bN ⟨s, t⟩ only).1) := by
      have hx := _q92
      first | (rw [← dif_eq (bres_hit he31 (by unfold tsD; first | (simp [_h43, _h47]; done) | (simp [_h43, _h49, _h57]; done) | (simp [_h43, _h49]; done)) hf), ← ndw_get he31]; exact hx) | (rw [← dif_eq (bres_none (by have _z9 := hL.len; omega) hf)]; simpa using hx)
    exact ret_intro [_, _] ⟨rfl, ⟨rfl, trivial⟩⟩ ⟨(.slice _Av92 (([] : List Int)).length _Cv92), (congrArg (fun zq => (Value.tuple #[(.slice _Av92 (([] : List Int)).length _Cv92), .bool zq])) (by first | rw [← dif_eq (bres_hit he31 (by unfold tsD; first | (simp [_h43, _h47]; done) | (simp [_h43, _h49, _h57]; done) | (simp [_h43, _h49]; done)) hf)] | rw [← dif_eq (bres_none (by have _z9 := hL.len; omega) hf)])), _o_329, (Lo.down _lo92 (by omega)), E⟩

/-- spec.MissingWord -/
theorem c_spec_MissingWord {w : World} (aS : Int) {LL_aA _B_aA : Nat} {_v_aA : Value} {aA : List Bool} (_h_aA : Ls bcs 1 w LL_aA _B_aA _v_aA aA) {LL_saN _B_saN : Nat} {_v_saN : Value} {saN : List Sv} (_h_saN : Ls Sv.cs 1 w LL_saN _B_saN _v_saN saN) {LR_aN BB_aN : Nat} {aN : List (List Int)} (_rd_aN : Rd ics 1 w LR_aN BB_aN saN aN) (bS : Int) {LL_bA _B_bA : Nat} {_v_bA : Value} {bA : List Bool} (_h_bA : Ls bcs 1 w LL_bA _B_bA _v_bA bA) {LL_sbN _B_sbN : Nat} {_v_sbN : Value} {sbN : List Sv} (_h_sbN : Ls Sv.cs 1 w LL_sbN _B_sbN _v_sbN sbN) {LR_bN BB_bN : Nat} {bN : List (List Int)} (_rd_bN : Rd ics 1 w LR_bN BB_bN sbN bN) :
    Ctr Try.prog 16 #[(.agg #[(.int .i64 aS), _v_aA, _v_saN]), (.agg #[(.int .i64 bS), _v_bA, _v_sbN])] w (fun v w' => ∃ (_u0 : Value), v = .tuple #[_u0, .bool ((msR aS aA aN bS bA bN).2)] ∧ Ol ics 3 1 w' _u0 ((msR aS aA aN bS bA bN).1) ∧ Lo w.heap.size _u0 ∧ Ch [] w w') := by
  obtain ⟨_A_aA, _C_aA, _e1_aA⟩ := _h_aA.val
  subst _e1_aA
  have _l_aA := _h_aA.len
  have _h_aA := _h_aA.here (by decide)
  obtain ⟨_A_saN, _C_saN, _e1_saN⟩ := _h_saN.val
  subst _e1_saN
  have _l_saN := _h_saN.len
  have _h_saN := _h_saN.here (by decide)
  have _rd_aN := _rd_aN.here (by decide)
  have _rl_aN := _rd_aN.1
  obtain ⟨_A_bA, _C_bA, _e1_bA⟩ := _h_bA.val
  subst _e1_bA
  have _l_bA := _h_bA.len
  have _h_bA := _h_bA.here (by decide)
  obtain ⟨_A_sbN, _C_sbN, _e1_sbN⟩ := _h_sbN.val
  subst _e1_sbN
  have _l_sbN := _h_sbN.len
  have _h_sbN := _h_sbN.here (by decide)
  have _rd_bN := _rd_bN.here (by decide)
  have _rl_bN := _rd_bN.1
  have E := Ch.refl [] w
  refine Ctr_of_W (N := 29) (vs0 := [(.agg #[(.int .i64 aS), (.slice _A_aA aA.length _C_aA), (.slice _A_saN saN.length _C_saN)]), (.agg #[(.int .i64 bS), (.slice _A_bA bA.length _C_bA), (.slice _A_sbN sbN.length _C_sbN)])]) Try.func16 rfl rfl rfl ?_
  refine W_seq fun _K_1 _hK_1 => ?_
  refine W_region ?_
  refine WL_s rfl rfl ?_
  refine s_box rfl fun _b2 _w_2 _m2 _cw_2 _e2 => ?_
  have _cw_2z := _cw_2.size
  have E := E.trans _cw_2
  have _z2 := _m2.lt
  replace _m2 : Blk _w_2 _b2 28 [(.int .i64 aS), (.slice _A_aA aA.length _C_aA), (.slice _A_saN saN.length _C_saN)] := _m2
  refine WL_s rfl rfl ?_
  refine s_box rfl fun _b3 _w_3 _m3 _cw_3 _e3 => ?_
  have _cw_3z := _cw_3.size
  have E := E.trans _cw_3
  have _z3 := _m3.lt
  replace _m3 : Blk _w_3 _b3 28 [(.int .i64 bS), (.slice _A_bA bA.length _C_bA), (.slice _A_sbN sbN.length _C_sbN)] := _m3
  refine WL_step rfl rfl (r_assign rfl) ?_
  refine WL_step rfl rfl (r_assign rfl) ?_
  refine WL_nil ?_
  refine thn_nrm (_hK_1 _ _ ?_)
  clear _hK_1
  refine W_seq fun _K_4 _hK_4 => ?_
  refine W_seq fun _K_5 _hK_5 => ?_
  refine W_region ?_
  have _f_6 := (_m2.ch0 _cw_3)
  refine WL_step rfl rfl (r_loadAtA0 _f_6.at_ agg28 sz28 rfl) ?_
  refine WL_s rfl rfl ?_
  have _f_7 := ((_h_aA.ch0 _cw_2).ch0 _cw_3)
  have _f_8 := ((_rd_aN.ch0 _cw_2).ch0 _cw_3)
  have _f_9 := ((_h_saN.ch0 _cw_2).ch0 _cw_3)
  refine Step.call (r_call (xs := [.tmp 8]) fk30 rfl) (c_spec_IsValidAutomaton _ _f_7 _f_9 _f_8 ) fun _v9 _w_10 _q9 => ?_
  obtain ⟨rfl, _cw_10⟩ := _q9
  have _cw_10z := _cw_10.size
  have E := E.trans _cw_10
  refine WL_step rfl rfl (r_not rfl) ?_
  refine WL_step rfl rfl (r_move rfl) ?_
  refine WL_split (d := 11) rfl (fun _h11 => ?_) (fun _h11 => ?_)
  · have _kb_11 := _h11
    have _h11 := bf_t (bt_n _h11)
    refine WL_skip rfl rfl ?_
    refine WL_skip rfl rfl ?_
    refine WL_skip rfl rfl ?_
    refine WL_step rfl rfl (r_pickT rfl rfl) ?_
    refine WL_nil ?_
    refine thn_nrm (_hK_5 _ _ ?_)
    clear _hK_5
    refine W_condT rfl ?_
    refine W_seq fun _K_12 _hK_12 => ?_
    refine W_region ?_
    refine WL_s rfl rfl ?_
    refine s_buildSlice0 (k := 1) ics el31 sz3 fun _v16 _w_13 _q16 _lo16 _cw_13 => ?_
    have _cw_13z := _cw_13.size
    have E := E.trans _cw_13
    obtain ⟨_Av16, _Cv16, _ev16⟩ := _q16.val
    subst _ev16
    have _lv16 := _q16.len
    have _hiv16 := _q16.lt
    refine WL_step rfl rfl (r_assign rfl) ?_
    refine WL_step rfl rfl (r_assign rfl) ?_
    refine WL_nil ?_
    refine thn_nrm (_hK_12 _ _ ?_)
    clear _hK_12
    refine W_ret (thn_ret ?_)
    clear _hK_4
    have _o_14 : Ol ics 3 1 _w_13 (.slice _Av16 (([] : List Int)).length _Cv16) ((msR aS aA aN bS bA bN).1) := by
      have hx := _q16
      first | (rw [msR_y _h11 _h15]; exact hx) | (rw [msR_n (fun q => _h11 q.1)]; simpa using hx) | (rw [msR_n (fun q => _h15 q.2)]; simpa using hx)
    exact ret_intro [_, _] ⟨rfl, ⟨rfl, trivial⟩⟩ ⟨(.slice _Av16 (([] : List Int)).length _Cv16), (congrArg (fun zq => (Value.tuple #[(.slice _Av16 (([] : List Int)).length _Cv16), .bool zq])) (by first | rw [msR_y _h11 _h15] | rw [msR_n (fun q => _h11 q.1)] | rw [msR_n (fun q => _h15 q.2)])), _o_14, (Lo.down _lo16 (by omega)), E⟩
  · have _kb_11 := _h11
    have _h11 := bt_t (bf_n _h11)
    have _f_15 := (_m3.ch0 _cw_10)
    refine WL_step rfl rfl (r_loadAtA0 _f_15.at_ agg28 sz28 rfl) ?_
    refine WL_s rfl rfl ?_
    have _f_16 := (((_h_bA.ch0 _cw_2).ch0 _cw_3).ch0 _cw_10)
    have _f_17 := (((_rd_bN.ch0 _cw_2).ch0 _cw_3).ch0 _cw_10)
    have _f_18 := (((_h_sbN.ch0 _cw_2).ch0 _cw_3).ch0 _cw_10)
    refine Step.call (r_call (xs := [.tmp 12]) fk30 rfl) (c_spec_IsValidAutomaton _ _f_16 _f_18 _f_17 ) fun _v13 _w_19 _q13 => ?_
    obtain ⟨rfl, _cw_19⟩ := _q13
    have _cw_19z := _cw_19.size
    have E := E.trans _cw_19
    refine WL_step rfl rfl (r_not rfl) ?_
    refine WL_step rfl rfl (r_pickF rfl rfl) ?_
    refine WL_nil ?_
    refine thn_nrm (_hK_5 _ _ ?_)
    clear _hK_5
    refine W_cond rfl (fun _h15 => ?_) (fun _h15 => ?_)
    · have _kb_20 := _h15
      have _h15 := bf_t (bt_n _h15)
      refine W_seq fun _K_21 _hK_21 => ?_
      refine W_region ?_
      refine WL_s rfl rfl ?_
      refine s_buildSlice0 (k := 1) ics el31 sz3 fun _v16 _w_22 _q16 _lo16 _cw_22 => ?_
      have _cw_22z := _cw_22.size
      have E := E.trans _cw_22
      obtain ⟨_Av16, _Cv16, _ev16⟩ := _q16.val
      subst _ev16
      have _lv16 := _q16.len
      have _hiv16 := _q16.lt
      refine WL_step rfl rfl (r_assign rfl) ?_
      refine WL_step rfl rfl (r_assign rfl) ?_
      refine WL_nil ?_
      refine thn_nrm (_hK_21 _ _ ?_)
      clear _hK_21
      refine W_ret (thn_ret ?_)
      clear _hK_4
      have _o_23 : Ol ics 3 1 _w_22 (.slice _Av16 (([] : List Int)).length _Cv16) ((msR aS aA aN bS bA bN).1) := by
        have hx := _q16
        first | (rw [msR_y _h11 _h15]; exact hx) | (rw [msR_n (fun q => _h11 q.1)]; simpa using hx) | (rw [msR_n (fun q => _h15 q.2)]; simpa using hx)
      exact ret_intro [_, _] ⟨rfl, ⟨rfl, trivial⟩⟩ ⟨(.slice _Av16 (([] : List Int)).length _Cv16), (congrArg (fun zq => (Value.tuple #[(.slice _Av16 (([] : List Int)).length _Cv16), .bool zq])) (by first | rw [msR_y _h11 _h15] | rw [msR_n (fun q => _h11 q.1)] | rw [msR_n (fun q => _h15 q.2)])), _o_23, (Lo.down _lo16 (by omega)), E⟩
    · have _kb_20 := _h15
      have _h15 := bt_t (bf_n _h15)
      refine W_skip ?_
      refine thn_nrm (_hK_4 _ _ ?_)
      clear _hK_4
      refine W_seq fun _K_24 _hK_24 => ?_
      refine W_region ?_
      have _f_25 := ((_f_6.ch0 _cw_10).ch0 _cw_19)
      refine WL_step rfl rfl (r_loadAtA0 _f_25.at_ agg28 sz28 rfl) ?_
      refine WL_step rfl rfl (r_fieldAddr fa28_0 rfl) ?_
      refine WL_step rfl rfl (r_loadAt _f_25.at_ agg3 rfl rfl) ?_
      have _f_26 := (_f_15.ch0 _cw_19)
      refine WL_step rfl rfl (r_loadAtA0 _f_26.at_ agg28 sz28 rfl) ?_
      refine WL_step rfl rfl (r_fieldAddr fa28_0 rfl) ?_
      refine WL_step rfl rfl (r_loadAt _f_26.at_ agg3 rfl rfl) ?_
      refine WL_s rfl rfl ?_
      have _f_27 := ((_f_7.ch0 _cw_10).ch0 _cw_19)
      have _f_28 := ((_f_8.ch0 _cw_10).ch0 _cw_19)
      have _f_29 := ((_f_9.ch0 _cw_10).ch0 _cw_19)
      have _f_30 := (_f_16.ch0 _cw_19)
      have _f_31 := (_f_17.ch0 _cw_19)
      have _f_32 := (_f_18.ch0 _cw_19)
      refine Step.call (r_call (xs := [.tmp 18, .tmp 20, .tmp 21, .tmp 23, .const (Go.Value.bool true)]) fk36 rfl) (c_spec_l12Differ _ _f_27 _f_29 _f_28 _ _ _f_30 _f_32 _f_31 _ _ _h11 _h15 (inA_start _h11) (inA_start _h15)) fun _v24 _w_33 _q24 => ?_
      obtain ⟨u24_0, rfl, _q_u24_0, _lo_u24_0, _cw_33⟩ := _q24
      have _cw_33z := _cw_33.size
      have E := E.trans _cw_33
      obtain ⟨Au24_0, Cu24_0, eu24_0⟩ := _q_u24_0.val
      subst eu24_0
      have lu24_0 := _q_u24_0.len
      have _hiu24_0 := _q_u24_0.lt
      refine WL_step rfl rfl (r_move rfl) ?_
      refine WL_step rfl rfl (r_extract rfl rfl) ?_
      refine WL_step rfl rfl (r_extract rfl rfl) ?_
      refine WL_step rfl rfl (r_assign rfl) ?_
      refine WL_step rfl rfl (r_assign rfl) ?_
      refine WL_nil ?_
      refine thn_nrm (_hK_24 _ _ ?_)
      clear _hK_24
      refine W_seq fun _K_34 _hK_34 => ?_
      refine W_region ?_
      refine WL_step rfl rfl (r_move rfl) ?_
      refine WL_step rfl rfl (r_move rfl) ?_
      refine WL_step rfl rfl (r_assign rfl) ?_
      refine WL_step rfl rfl (r_assign rfl) ?_
      refine WL_nil ?_
      refine thn_nrm (_hK_34 _ _ ?_)
      clear _hK_34
      refine W_ret ?_
      have _o_35 : Ol ics 3 1 _w_33 (.slice Au24_0 ((difR aA aN bA bN ⟨aS, bS⟩ true).1).length Cu24_0) ((msR aS aA aN bS bA bN).1) := by
        have hx := _q_u24_0
        first | (rw [msR_y _h11 _h15]; exact hx) | (rw [msR_n (fun q => _h11 q.1)]; simpa using hx) | (rw [msR_n (fun q => _h15 q.2)]; simpa using hx)
      exact ret_intro [_, _] ⟨rfl, ⟨rfl, trivial⟩⟩ ⟨(.slice Au24_0 ((difR aA aN bA bN ⟨aS, bS⟩ true).1).length Cu24_0), (congrArg (fun zq => (Value.tuple #[(.slice Au24_0 ((difR aA aN bA bN ⟨aS, bS⟩ true).1).length Cu24_0), .bool zq])) (by first | rw [msR_y _h11 _h15] | rw [msR_n (fun q => _h11 q.1)] | rw [msR_n (fun q => _h15 q.2)])), _o_35, (Lo.down _lo_u24_0 (by omega)), E⟩

/-- laws.FnExactMissingWord -/
theorem c_laws_FnExactMissingWord {w : World} (aS : Int) {LL_aA _B_aA : Nat} {_v_aA : Value} {aA : List Bool} (_h_aA : Ls bcs 1 w LL_aA _B_aA _v_aA aA) {LL_saN _B_saN : Nat} {_v_saN : Value} {saN : List Sv} (_h_saN : Ls Sv.cs 1 w LL_saN _B_saN _v_saN saN) {LR_aN BB_aN : Nat} {aN : List (List Int)} (_rd_aN : Rd ics 1 w LR_aN BB_aN saN aN) (bS : Int) {LL_bA _B_bA : Nat} {_v_bA : Value} {bA : List Bool} (_h_bA : Ls bcs 1 w LL_bA _B_bA _v_bA bA) {LL_sbN _B_sbN : Nat} {_v_sbN : Value} {sbN : List Sv} (_h_sbN : Ls Sv.cs 1 w LL_sbN _B_sbN _v_sbN sbN) {LR_bN BB_bN : Nat} {bN : List (List Int)} (_rd_bN : Rd ics 1 w LR_bN BB_bN sbN bN) :
    Ctr Try.prog 5 #[(.agg #[(.int .i64 aS), _v_aA, _v_saN]), (.agg #[(.int .i64 bS), _v_bA, _v_sbN])] w (fun v w' => v = .bool (true) ∧ Ch [] w w') := by
  obtain ⟨_A_aA, _C_aA, _e1_aA⟩ := _h_aA.val
  subst _e1_aA
  have _l_aA := _h_aA.len
  have _h_aA := _h_aA.here (by decide)
  obtain ⟨_A_saN, _C_saN, _e1_saN⟩ := _h_saN.val
  subst _e1_saN
  have _l_saN := _h_saN.len
  have _h_saN := _h_saN.here (by decide)
  have _rd_aN := _rd_aN.here (by decide)
  have _rl_aN := _rd_aN.1
  obtain ⟨_A_bA, _C_bA, _e1_bA⟩ := _h_bA.val
  subst _e1_bA
  have _l_bA := _h_bA.len
  have _h_bA := _h_bA.here (by decide)
  obtain ⟨_A_sbN, _C_sbN, _e1_sbN⟩ := _h_sbN.val
  subst _e1_sbN
  have _l_sbN := _h_sbN.len
  have _h_sbN := _h_sbN.here (by decide)
  have _rd_bN := _rd_bN.here (by decide)
  have _rl_bN := _rd_bN.1
  have E := Ch.refl [] w
  have ml9 := msR_len aS aA aN bS bA bN
  refine Ctr_of_W (N := 119) (vs0 := [(.agg #[(.int .i64 aS), (.slice _A_aA aA.length _C_aA), (.slice _A_saN saN.length _C_saN)]), (.agg #[(.int .i64 bS), (.slice _A_bA bA.length _C_bA), (.slice _A_sbN sbN.length _C_sbN)])]) Try.func5 rfl rfl rfl ?_
  refine W_seq fun _K_1 _hK_1 => ?_
  refine W_region ?_
  refine WL_s rfl rfl ?_
  refine s_box rfl fun _b2 _w_2 _m2 _cw_2 _e2 => ?_
  have _cw_2z := _cw_2.size
  have E := E.trans _cw_2
  have _z2 := _m2.lt
  replace _m2 : Blk _w_2 _b2 25 [(.int .i64 aS), (.slice _A_aA aA.length _C_aA), (.slice _A_saN saN.length _C_saN)] := _m2
  refine WL_s rfl rfl ?_
  refine s_box rfl fun _b3 _w_3 _m3 _cw_3 _e3 => ?_
  have _cw_3z := _cw_3.size
  have E := E.trans _cw_3
  have _z3 := _m3.lt
  replace _m3 : Blk _w_3 _b3 25 [(.int .i64 bS), (.slice _A_bA bA.length _C_bA), (.slice _A_sbN sbN.length _C_sbN)] := _m3
  refine WL_step rfl rfl (r_assign rfl) ?_
  refine WL_nil ?_
  refine thn_nrm (_hK_1 _ _ ?_)
  clear _hK_1
  refine W_seq fun _K_4 _hK_4 => ?_
  refine W_region ?_
  refine WL_step rfl rfl (r_assign rfl) ?_
  refine WL_nil ?_
  refine thn_nrm (_hK_4 _ _ ?_)
  clear _hK_4
  refine W_seq fun _K_5 _hK_5 => ?_
  refine W_region ?_
  have _f_6 := (_m2.ch0 _cw_3)
  refine WL_step rfl rfl (r_loadAtA0 _f_6.at_ agg25 sz25 rfl) ?_
  refine WL_step rfl rfl (r_move rfl) ?_
  refine WL_s rfl rfl ?_
  have _f_7 := ((_h_aA.ch0 _cw_2).ch0 _cw_3)
  have _f_8 := ((_rd_aN.ch0 _cw_2).ch0 _cw_3)
  have _f_9 := ((_h_saN.ch0 _cw_2).ch0 _cw_3)
  refine Step.call (r_call (xs := [.tmp 17, .tmp 18]) fk9 rfl) (c_laws_szAutomaton _ _f_7 _f_9 _f_8 _ (by omega) (by omega)) fun _v19 _w_10 _q19 => ?_
  obtain ⟨rfl, _cw_10⟩ := _q19
  have _cw_10z := _cw_10.size
  have E := E.trans _cw_10
  refine WL_step rfl rfl (r_assign rfl) ?_
  refine WL_nil ?_
  refine thn_nrm (_hK_5 _ _ ?_)
  clear _hK_5
  refine W_seq fun _K_11 _hK_11 => ?_
  refine W_seq fun _K_12 _hK_12 => ?_
  refine W_region ?_
  refine WL_step rfl rfl (r_move rfl) ?_
  refine WL_step rfl rfl (r_lss rfl rfl) ?_
  refine WL_nil ?_
  refine thn_nrm (_hK_12 _ _ ?_)
  clear _hK_12
  refine W_cond rfl (fun _h21 => ?_) (fun _h21 => ?_)
  · have _kb_13 := _h21
    have _h21 := bt_d _h21
    refine W_seq fun _K_14 _hK_14 => ?_
    refine W_region ?_
    refine WL_step rfl rfl (r_assign rfl) ?_
    refine WL_nil ?_
    refine thn_nrm (_hK_14 _ _ ?_)
    clear _hK_14
    refine W_ret (thn_ret ?_)
    clear _hK_11
    exact ret_intro [_] ⟨rfl, trivial⟩ ⟨congrArg Value.bool (by first | rfl | (exfalso; omega) | (exfalso; revert _h21; simp; done) | (exfalso; revert _h21; simp; omega)), E⟩
  · have _kb_13 := _h21
    have _h21 := bf_d _h21
    refine W_skip ?_
    refine thn_nrm (_hK_11 _ _ ?_)
    clear _hK_11
    refine W_seq fun _K_15 _hK_15 => ?_
    refine W_region ?_
    have _f_16 := (_m3.ch0 _cw_10)
    refine WL_step rfl rfl (r_loadAtA0 _f_16.at_ agg25 sz25 rfl) ?_
    refine WL_step rfl rfl (r_move rfl) ?_
    refine WL_s rfl rfl ?_
    have _f_17 := (((_h_bA.ch0 _cw_2).ch0 _cw_3).ch0 _cw_10)
    have _f_18 := (((_rd_bN.ch0 _cw_2).ch0 _cw_3).ch0 _cw_10)
    have _f_19 := (((_h_sbN.ch0 _cw_2).ch0 _cw_3).ch0 _cw_10)
    refine Step.call (r_call (xs := [.tmp 22, .tmp 23]) fk9 rfl) (c_laws_szAutomaton _ _f_17 _f_19 _f_18 _ (by omega) (by omega)) fun _v24 _w_20 _q24 => ?_
    obtain ⟨rfl, _cw_20⟩ := _q24
    have _cw_20z := _cw_20.size
    have E := E.trans _cw_20
    refine WL_step rfl rfl (r_assign rfl) ?_
    refine WL_nil ?_
    refine thn_nrm (_hK_15 _ _ ?_)
    clear _hK_15
    refine W_seq fun _K_21 _hK_21 => ?_
    refine W_seq fun _K_22 _hK_22 => ?_
    refine W_region ?_
    refine WL_step rfl rfl (r_move rfl) ?_
    refine WL_step rfl rfl (r_lss rfl rfl) ?_
    refine WL_nil ?_
    refine thn_nrm (_hK_22 _ _ ?_)
    clear _hK_22
    refine W_cond rfl (fun _h26 => ?_) (fun _h26 => ?_)
    · have _kb_23 := _h26
      have _h26 := bt_d _h26
      refine W_seq fun _K_24 _hK_24 => ?_
      refine W_region ?_
      refine WL_step rfl rfl (r_assign rfl) ?_
      refine WL_nil ?_
      refine thn_nrm (_hK_24 _ _ ?_)
      clear _hK_24
      refine W_ret (thn_ret ?_)
      clear _hK_21
      exact ret_intro [_] ⟨rfl, trivial⟩ ⟨congrArg Value.bool (by first | rfl | (exfalso; omega) | (exfalso; revert _h26; simp; done) | (exfalso; revert _h26; simp; omega)), E⟩
    · have _kb_23 := _h26
      have _h26 := bf_d _h26
      refine W_skip ?_
      refine thn_nrm (_hK_21 _ _ ?_)
      clear _hK_21
      refine W_seq fun _K_25 _hK_25 => ?_
      refine W_drawC [] 10 mixed rfl fun _w_26 _cw_26 => ?_
      have _cw_26z := _cw_26.size
      have E := E.trans _cw_26
      have _f_27 := (((_f_6.ch0 _cw_10).ch0 _cw_20).ch0 _cw_26)
      refine DR_s 0 rfl (by kernel_rfl) rfl rfl (t_loadAtA0 _f_27.at_ (fun i hi => absurd hi List.not_mem_nil) agg25 sz25 rfl ?_)
      have _f_28 := ((_f_16.ch0 _cw_20).ch0 _cw_26)
      refine DR_s 2 rfl (by kernel_rfl) rfl rfl (t_loadAtA0 _f_28.at_ (fun i hi => absurd hi List.not_mem_nil) agg25 sz25 rfl ?_)
      refine DR_one 1 (by kernel_rfl) ?_
      refine DO_s rfl rfl rfl ?_
      have _f_29 := (((_f_7.ch0 _cw_10).ch0 _cw_20).ch0 _cw_26)
      have _f_30 := (((_f_8.ch0 _cw_10).ch0 _cw_20).ch0 _cw_26)
      have _f_31 := (((_f_9.ch0 _cw_10).ch0 _cw_20).ch0 _cw_26)
      refine Step.call (r_call (xs := [.tmp 28]) fk11 rfl) (c_laws_toAutomaton _ _f_29 _f_31 _f_30 (by omega)) fun _v29 _w_32 _q29 => ?_
      obtain ⟨u29_0x1, u29_0x2, _vs29_0x2, rfl, _q_u29_0x1, _lo_u29_0x1, _q_u29_0x2, _lo_u29_0x2, _od_vs29_0x2, _sep_vs29_0x2, _dj_u29_0x1_u29_0x2, _sep_u29_0x1_vs29_0x2, _cw_32⟩ := _q29
      have _cw_32z := _cw_32.size
      have E := E.trans _cw_32
      obtain ⟨Au29_0x1, Cu29_0x1, eu29_0x1⟩ := _q_u29_0x1.val
      subst eu29_0x1
      have lu29_0x1 := _q_u29_0x1.len
      have _hiu29_0x1 := _q_u29_0x1.lt
      obtain ⟨Au29_0x2, Cu29_0x2, eu29_0x2⟩ := _q_u29_0x2.val
      subst eu29_0x2
      have lu29_0x2 := _q_u29_0x2.len
      have _hiu29_0x2 := _q_u29_0x2.lt
      have _S_33 : Ch [] _w_26 _w_32 := ((Ch.refl _ _).trans _cw_32)
      refine ⟨_S_33, ?_⟩
      refine DR_one 3 (by kernel_rfl) ?_
      refine DO_s rfl rfl rfl ?_
      have _f_34 := (((_f_17.ch0 _cw_20).ch0 _cw_26).ch0 _cw_32)
      have _f_35 := (((_f_18.ch0 _cw_20).ch0 _cw_26).ch0 _cw_32)
      have _f_36 := (((_f_19.ch0 _cw_20).ch0 _cw_26).ch0 _cw_32)
      refine Step.call (r_call (xs := [.tmp 30]) fk11 rfl) (c_laws_toAutomaton _ _f_34 _f_36 _f_35 (by omega)) fun _v31 _w_37 _q31 => ?_
      obtain ⟨u31_0x1, u31_0x2, _vs31_0x2, rfl, _q_u31_0x1, _lo_u31_0x1, _q_u31_0x2, _lo_u31_0x2, _od_vs31_0x2, _sep_vs31_0x2, _dj_u31_0x1_u31_0x2, _sep_u31_0x1_vs31_0x2, _cw_37⟩ := _q31
      have _cw_37z := _cw_37.size
      have E := E.trans _cw_37
      obtain ⟨Au31_0x1, Cu31_0x1, eu31_0x1⟩ := _q_u31_0x1.val
      subst eu31_0x1
      have lu31_0x1 := _q_u31_0x1.len
      have _hiu31_0x1 := _q_u31_0x1.lt
      obtain ⟨Au31_0x2, Cu31_0x2, eu31_0x2⟩ := _q_u31_0x2.val
      subst eu31_0x2
      have lu31_0x2 := _q_u31_0x2.len
      have _hiu31_0x2 := _q_u31_0x2.lt
      have _S_38 : Ch [] _w_26 _w_37 := (_S_33.trans _cw_37)
      refine ⟨_S_38, ?_⟩
      refine DR_one 4 (by kernel_rfl) ?_
      refine DO_s rfl rfl rfl ?_
      have _f_39 := (_q_u29_0x1.ch0 _cw_37)
      have _f_40 := (_od_vs29_0x2.ch0 _cw_37)
      have _f_41 := (_q_u29_0x2.ch0 _cw_37)
      refine Step.call (r_call (xs := [.tmp 29, .tmp 31]) fk16 rfl) (c_spec_MissingWord _ _f_39.ls _f_41.ls _f_40.rd _ _q_u31_0x1.ls _q_u31_0x2.ls _od_vs31_0x2.rd ) fun _v32 _w_42 _q32 => ?_
      obtain ⟨u32_0, rfl, _q_u32_0, _lo_u32_0, _cw_42⟩ := _q32
      have _cw_42z := _cw_42.size
      have E := E.trans _cw_42
      obtain ⟨Au32_0, Cu32_0, eu32_0⟩ := _q_u32_0.val
      subst eu32_0
      have lu32_0 := _q_u32_0.len
      have _hiu32_0 := _q_u32_0.lt
      have _S_43 : Ch [] _w_26 _w_42 := (_S_38.trans _cw_42)
      refine ⟨_S_43, ?_⟩
      refine DR_s 5 rfl (by kernel_rfl) rfl rfl (t_v (fun _ => (r_move rfl)) ?_)
      refine DR_s 6 rfl (by kernel_rfl) rfl rfl (t_v (fun _ => (r_extract rfl rfl)) ?_)
      refine DR_s 7 rfl (by kernel_rfl) rfl rfl (t_v (fun _ => (r_extract rfl rfl)) ?_)
      refine DR_s 8 rfl (by kernel_rfl) rfl rfl (t_v (fun _ => (r_assign rfl)) ?_)
      refine DR_s 9 rfl (by kernel_rfl) rfl rfl (t_v (fun _ => (r_assign rfl)) ?_)
      refine DR_done (by kernel_rfl) ?_
      refine thn_nrm (_hK_25 _ _ ?_)
      clear _hK_25
      refine W_seq fun _K_44 _hK_44 => ?_
      refine W_region ?_
      have _f_45 := (((_f_27.ch0 _cw_32).ch0 _cw_37).ch0 _cw_42)
      refine WL_step rfl rfl (r_loadAtA0 _f_45.at_ agg25 sz25 rfl) ?_
      refine WL_s rfl rfl ?_
      have _f_46 := (((_f_29.ch0 _cw_32).ch0 _cw_37).ch0 _cw_42)
      have _f_47 := (((_f_30.ch0 _cw_32).ch0 _cw_37).ch0 _cw_42)
      have _f_48 := (((_f_31.ch0 _cw_32).ch0 _cw_37).ch0 _cw_42)
      refine Step.call (r_call (xs := [.tmp 35]) fk11 rfl) (c_laws_toAutomaton _ _f_46 _f_48 _f_47 (by omega)) fun _v36 _w_49 _q36 => ?_
      obtain ⟨u36_0x1, u36_0x2, _vs36_0x2, rfl, _q_u36_0x1, _lo_u36_0x1, _q_u36_0x2, _lo_u36_0x2, _od_vs36_0x2, _sep_vs36_0x2, _dj_u36_0x1_u36_0x2, _sep_u36_0x1_vs36_0x2, _cw_49⟩ := _q36
      have _cw_49z := _cw_49.size
      have E := E.trans _cw_49
      obtain ⟨Au36_0x1, Cu36_0x1, eu36_0x1⟩ := _q_u36_0x1.val
      subst eu36_0x1
      have lu36_0x1 := _q_u36_0x1.len
      have _hiu36_0x1 := _q_u36_0x1.lt
      obtain ⟨Au36_0x2, Cu36_0x2, eu36_0x2⟩ := _q_u36_0x2.val
      subst eu36_0x2
      have lu36_0x2 := _q_u36_0x2.len
      have _hiu36_0x2 := _q_u36_0x2.lt
      refine WL_s rfl rfl ?_
      refine s_alloc zr28 fun _b8 _w_50 _m8 _cw_50 _e8 => ?_
      have _cw_50z := _cw_50.size
      have E := E.trans _cw_50
      have _z8 := _m8.lt
      replace _m8 : Blk _w_50 _b8 28 [(.int .i64 0), (.slice none 0 0), (.slice none 0 0)] := _m8
      refine WL_s rfl rfl ?_
      refine s_storeA (off := 0) 3 _m8 sz28 rfl (us := [(.int .i64 aS), (.slice Au36_0x1 (aA).length Cu36_0x1), (.slice Au36_0x2 (_vs36_0x2).length Cu36_0x2)]) rfl rfl rfl rfl fun _w_51 _m_52 _cw_51 => ?_
      have _cw_51z := _cw_51.size
      have E := E.step _cw_51 (fun i hi => .inl (by have _h1 := List.mem_singleton.1 hi; omega))
      replace _m_52 : Blk _w_51 _b8 28 [(.int .i64 aS), (.slice Au36_0x1 (aA).length Cu36_0x1), (.slice Au36_0x2 (_vs36_0x2).length Cu36_0x2)] := _m_52
      refine WL_nil ?_
      refine thn_nrm (_hK_44 _ _ ?_)
      clear _hK_44
      refine W_seq fun _K_53 _hK_53 => ?_
      refine W_region ?_
      have _f_54 := ((((((_f_28.ch0 _cw_32).ch0 _cw_37).ch0 _cw_42).ch0 _cw_49).ch0 _cw_50).ch _cw_51 (fun hm => by have _h1 := List.mem_singleton.1 hm; omega))
      refine WL_step rfl rfl (r_loadAtA0 _f_54.at_ agg25 sz25 rfl) ?_
      refine WL_s rfl rfl ?_
      have _f_55 := (((((_f_34.ch0 _cw_37).ch0 _cw_42).ch0 _cw_49).ch0 _cw_50).ch _cw_51 (fun i hi => by have _h1 := List.mem_singleton.1 hi; omega))
      have _f_56 := (((((_f_35.ch0 _cw_37).ch0 _cw_42).ch0 _cw_49).ch0 _cw_50).ch _cw_51 (fun i hi => by have _h1 := List.mem_singleton.1 hi; omega))
      have _f_57 := (((((_f_36.ch0 _cw_37).ch0 _cw_42).ch0 _cw_49).ch0 _cw_50).ch _cw_51 (fun i hi => by have _h1 := List.mem_singleton.1 hi; omega))
      refine Step.call (r_call (xs := [.tmp 37]) fk11 rfl) (c_laws_toAutomaton _ _f_55 _f_57 _f_56 (by omega)) fun _v38 _w_58 _q38 => ?_
      obtain ⟨u38_0x1, u38_0x2, _vs38_0x2, rfl, _q_u38_0x1, _lo_u38_0x1, _q_u38_0x2, _lo_u38_0x2, _od_vs38_0x2, _sep_vs38_0x2, _dj_u38_0x1_u38_0x2, _sep_u38_0x1_vs38_0x2, _cw_58⟩ := _q38
      have _cw_58z := _cw_58.size
      have E := E.trans _cw_58
      obtain ⟨Au38_0x1, Cu38_0x1, eu38_0x1⟩ := _q_u38_0x1.val
      subst eu38_0x1
      have lu38_0x1 := _q_u38_0x1.len
      have _hiu38_0x1 := _q_u38_0x1.lt
      obtain ⟨Au38_0x2, Cu38_0x2, eu38_0x2⟩ := _q_u38_0x2.val
      subst eu38_0x2
      have lu38_0x2 := _q_u38_0x2.len
      have _hiu38_0x2 := _q_u38_0x2.lt
      refine WL_s rfl rfl ?_
      refine s_alloc zr28 fun _b9 _w_59 _m9 _cw_59 _e9 => ?_
      have _cw_59z := _cw_59.size
      have E := E.trans _cw_59
      have _z9 := _m9.lt
      replace _m9 : Blk _w_59 _b9 28 [(.int .i64 0), (.slice none 0 0), (.slice none 0 0)] := _m9
      refine WL_s rfl rfl ?_
      refine s_storeA (off := 0) 3 _m9 sz28 rfl (us := [(.int .i64 bS), (.slice Au38_0x1 (bA).length Cu38_0x1), (.slice Au38_0x2 (_vs38_0x2).length Cu38_0x2)]) rfl rfl rfl rfl fun _w_60 _m_61 _cw_60 => ?_
      have _cw_60z := _cw_60.size
      have E := E.step _cw_60 (fun i hi => .inl (by have _h1 := List.mem_singleton.1 hi; omega))
      replace _m_61 : Blk _w_60 _b9 28 [(.int .i64 bS), (.slice Au38_0x1 (bA).length Cu38_0x1), (.slice Au38_0x2 (_vs38_0x2).length Cu38_0x2)] := _m_61
      refine WL_nil ?_
      refine thn_nrm (_hK_53 _ _ ?_)
      clear _hK_53
      refine W_seq fun _K_62 _hK_62 => ?_
      refine W_region ?_
      have _f_63 := (((_m_52.ch0 _cw_58).ch0 _cw_59).ch _cw_60 (fun hm => by have _h1 := List.mem_singleton.1 hm; omega))
      refine WL_step rfl rfl (r_loadAtA0 _f_63.at_ agg28 sz28 rfl) ?_
      refine WL_step rfl rfl (r_loadAtA0 _m_61.at_ agg28 sz28 rfl) ?_
      refine WL_s rfl rfl ?_
      have _f_64 := (((((_q_u36_0x1.ch0 _cw_50).ch _cw_51 (fun g hg hm => by have _h0 := List.mem_singleton.1 hm; have _h2 := _lo_u36_0x1 _ hg; have _h3 := _hiu36_0x1 _ hg; omega)).ch0 _cw_58).ch0 _cw_59).ch _cw_60 (fun g hg hm => by have _h0 := List.mem_singleton.1 hm; have _h2 := _lo_u36_0x1 _ hg; have _h3 := _hiu36_0x1 _ hg; omega))
      have _f_65 := (((((_od_vs36_0x2.ch0 _cw_50).ch _cw_51 (fun i hi => by have _h1 := List.mem_singleton.1 hi; omega)).ch0 _cw_58).ch0 _cw_59).ch _cw_60 (fun i hi => by have _h1 := List.mem_singleton.1 hi; omega))
      have _f_66 := (((((_q_u36_0x2.ch0 _cw_50).ch _cw_51 (fun g hg hm => by have _h0 := List.mem_singleton.1 hm; have _h2 := _lo_u36_0x2 _ hg; have _h3 := _hiu36_0x2 _ hg; omega)).ch0 _cw_58).ch0 _cw_59).ch _cw_60 (fun g hg hm => by have _h0 := List.mem_singleton.1 hm; have _h2 := _lo_u36_0x2 _ hg; have _h3 := _hiu36_0x2 _ hg; omega))
      have _f_67 := ((_q_u38_0x1.ch0 _cw_59).ch _cw_60 (fun g hg hm => by have _h0 := List.mem_singleton.1 hm; have _h2 := _lo_u38_0x1 _ hg; have _h3 := _hiu38_0x1 _ hg; omega))
      have _f_68 := ((_od_vs38_0x2.ch0 _cw_59).ch _cw_60 (fun i hi => by have _h1 := List.mem_singleton.1 hi; omega))
      have _f_69 := ((_q_u38_0x2.ch0 _cw_59).ch _cw_60 (fun g hg hm => by have _h0 := List.mem_singleton.1 hm; have _h2 := _lo_u38_0x2 _ hg; have _h3 := _hiu38_0x2 _ hg; omega))
      refine Step.call (r_call (xs := [.tmp 40, .tmp 41]) fk17 rfl) (c_impl_MissingWord _ _f_64.ls _f_66.ls _f_65.rd _ _f_67.ls _f_69.ls _f_68.rd ) fun _v42 _w_70 _q42 => ?_
      obtain ⟨u42_0, rfl, _q_u42_0, _lo_u42_0, _cw_70⟩ := _q42
      have _cw_70z := _cw_70.size
      have E := E.trans _cw_70
      obtain ⟨Au42_0, Cu42_0, eu42_0⟩ := _q_u42_0.val
      subst eu42_0
      have lu42_0 := _q_u42_0.len
      have _hiu42_0 := _q_u42_0.lt
      refine WL_step rfl rfl (r_move rfl) ?_
      refine WL_step rfl rfl (r_extract rfl rfl) ?_
      refine WL_step rfl rfl (r_extract rfl rfl) ?_
      refine WL_step rfl rfl (r_assign rfl) ?_
      refine WL_step rfl rfl (r_assign rfl) ?_
      refine WL_nil ?_
      refine thn_nrm (_hK_62 _ _ ?_)
      clear _hK_62
      refine W_seq fun _K_71 _hK_71 => ?_
      refine W_seq fun _K_72 _hK_72 => ?_
      refine W_region ?_
      refine WL_step rfl rfl (r_move rfl) ?_
      refine WL_step rfl rfl (r_move rfl) ?_
      refine WL_s rfl rfl ?_
      have _f_73 := (((((((_q_u32_0.ch0 _cw_49).ch0 _cw_50).ch _cw_51 (fun g hg hm => by have _h0 := List.mem_singleton.1 hm; have _h2 := _lo_u32_0 _ hg; have _h3 := _hiu32_0 _ hg; omega)).ch0 _cw_58).ch0 _cw_59).ch _cw_60 (fun g hg hm => by have _h0 := List.mem_singleton.1 hm; have _h2 := _lo_u32_0 _ hg; have _h3 := _hiu32_0 _ hg; omega)).ch0 _cw_70)
      refine Step.call (r_call (xs := [.tmp 45, .tmp 46]) fk18 rfl) (c_laws_eqIntS _q_u42_0.ls _f_73.ls ) fun _v47 _w_74 _q47 => ?_
      obtain ⟨rfl, _cw_74⟩ := _q47
      have _cw_74z := _cw_74.size
      have E := E.trans _cw_74
      refine WL_step rfl rfl (r_not rfl) ?_
      refine WL_step rfl rfl (r_move rfl) ?_
      refine WL_split (d := 49) rfl (fun _h49 => ?_) (fun _h49 => ?_)
      · have _kb_75 := _h49
        have _h49 := bf_d (bt_n _h49)
        refine WL_skip rfl rfl ?_
        refine WL_skip rfl rfl ?_
        refine WL_skip rfl rfl ?_
        refine WL_step rfl rfl (r_pickT rfl rfl) ?_
        refine WL_nil ?_
        refine thn_nrm (_hK_72 _ _ ?_)
        clear _hK_72
        refine W_condT rfl ?_
        refine W_seq fun _K_76 _hK_76 => ?_
        refine W_region ?_
        refine WL_step rfl rfl (r_assign rfl) ?_
        refine WL_nil ?_
        refine thn_nrm (_hK_76 _ _ ?_)
        clear _hK_76
        refine W_ret (thn_ret ?_)
        clear _hK_71
        exact ret_intro [_] ⟨rfl, trivial⟩ ⟨congrArg Value.bool (by first | rfl | (exfalso; omega) | (exfalso; revert _h49; simp; done) | (exfalso; revert _h49; simp; omega)), E⟩
      · have _kb_75 := _h49
        have _h49 := bt_d (bf_n _h49)
        refine WL_step rfl rfl (r_move rfl) ?_
        refine WL_step rfl rfl (r_move rfl) ?_
        refine WL_step rfl rfl (r_neqB un4 rfl rfl) ?_
        refine WL_step rfl rfl (r_pickF rfl rfl) ?_
        refine WL_nil ?_
        refine thn_nrm (_hK_72 _ _ ?_)
        clear _hK_72
        refine W_cond rfl (fun _h53 => ?_) (fun _h53 => ?_)
        · have _kb_77 := _h53
          have _h53 := bf_e (bt_n _h53)
          refine W_seq fun _K_78 _hK_78 => ?_
          refine W_region ?_
          refine WL_step rfl rfl (r_assign rfl) ?_
          refine WL_nil ?_
          refine thn_nrm (_hK_78 _ _ ?_)
          clear _hK_78
          refine W_ret (thn_ret ?_)
          clear _hK_71
          exact ret_intro [_] ⟨rfl, trivial⟩ ⟨congrArg Value.bool (by first | rfl | (exfalso; omega) | (exfalso; revert _h53; simp; done) | (exfalso; revert _h53; simp; omega)), E⟩
        · have _kb_77 := _h53
          have _h53 := bt_e (bf_n _h53)
          refine W_skip ?_
          refine thn_nrm (_hK_71 _ _ ?_)
          clear _hK_71
          refine W_seq fun _K_79 _hK_79 => ?_
          refine W_seq fun _K_80 _hK_80 => ?_
          refine W_drawC [] 5 mixed rfl fun _w_81 _cw_81 => ?_
          have _cw_81z := _cw_81.size
          have E := E.trans _cw_81
          have _f_82 := (((_f_63.ch0 _cw_70).ch0 _cw_74).ch0 _cw_81)
          refine DR_s 0 rfl (by kernel_rfl) rfl rfl (t_loadAtA0 _f_82.at_ (fun i hi => absurd hi List.not_mem_nil) agg28 sz28 rfl ?_)
          have _f_83 := (((((((((_f_45.ch0 _cw_49).ch0 _cw_50).ch _cw_51 (fun hm => by have _h1 := List.mem_singleton.1 hm; omega)).ch0 _cw_58).ch0 _cw_59).ch _cw_60 (fun hm => by have _h1 := List.mem_singleton.1 hm; omega)).ch0 _cw_70).ch0 _cw_74).ch0 _cw_81)
          refine DR_s 1 rfl (by kernel_rfl) rfl rfl (t_loadAtA0 _f_83.at_ (fun i hi => absurd hi List.not_mem_nil) agg25 sz25 rfl ?_)
          refine DR_one 2 (by kernel_rfl) ?_
          refine DO_s rfl rfl rfl ?_
          have _f_84 := (((((((((_f_46.ch0 _cw_49).ch0 _cw_50).ch _cw_51 (fun i hi => by have _h1 := List.mem_singleton.1 hi; omega)).ch0 _cw_58).ch0 _cw_59).ch _cw_60 (fun i hi => by have _h1 := List.mem_singleton.1 hi; omega)).ch0 _cw_70).ch0 _cw_74).ch0 _cw_81)
          have _f_85 := (((((((((_f_47.ch0 _cw_49).ch0 _cw_50).ch _cw_51 (fun i hi => by have _h1 := List.mem_singleton.1 hi; omega)).ch0 _cw_58).ch0 _cw_59).ch _cw_60 (fun i hi => by have _h1 := List.mem_singleton.1 hi; omega)).ch0 _cw_70).ch0 _cw_74).ch0 _cw_81)
          have _f_86 := (((((((((_f_48.ch0 _cw_49).ch0 _cw_50).ch _cw_51 (fun i hi => by have _h1 := List.mem_singleton.1 hi; omega)).ch0 _cw_58).ch0 _cw_59).ch _cw_60 (fun i hi => by have _h1 := List.mem_singleton.1 hi; omega)).ch0 _cw_70).ch0 _cw_74).ch0 _cw_81)
          refine Step.call (r_call (xs := [.tmp 55]) fk11 rfl) (c_laws_toAutomaton _ _f_84 _f_86 _f_85 (by omega)) fun _v56 _w_87 _q56 => ?_
          obtain ⟨u56_0x1, u56_0x2, _vs56_0x2, rfl, _q_u56_0x1, _lo_u56_0x1, _q_u56_0x2, _lo_u56_0x2, _od_vs56_0x2, _sep_vs56_0x2, _dj_u56_0x1_u56_0x2, _sep_u56_0x1_vs56_0x2, _cw_87⟩ := _q56
          have _cw_87z := _cw_87.size
          have E := E.trans _cw_87
          obtain ⟨Au56_0x1, Cu56_0x1, eu56_0x1⟩ := _q_u56_0x1.val
          subst eu56_0x1
          have lu56_0x1 := _q_u56_0x1.len
          have _hiu56_0x1 := _q_u56_0x1.lt
          obtain ⟨Au56_0x2, Cu56_0x2, eu56_0x2⟩ := _q_u56_0x2.val
          subst eu56_0x2
          have lu56_0x2 := _q_u56_0x2.len
          have _hiu56_0x2 := _q_u56_0x2.lt
          have _S_88 : Ch [] _w_81 _w_87 := ((Ch.refl _ _).trans _cw_87)
          refine ⟨_S_88, ?_⟩
          refine DR_one 3 (by kernel_rfl) ?_
          refine DO_s rfl rfl rfl ?_
          have _f_89 := ((((_f_64.ch0 _cw_70).ch0 _cw_74).ch0 _cw_81).ch0 _cw_87)
          have _f_90 := ((((_f_65.ch0 _cw_70).ch0 _cw_74).ch0 _cw_81).ch0 _cw_87)
          have _f_91 := ((((_f_66.ch0 _cw_70).ch0 _cw_74).ch0 _cw_81).ch0 _cw_87)
          refine Step.call (r_call (xs := [.tmp 54, .tmp 56]) fk13 rfl) (c_laws_eqAutomaton _ _f_89.ls _f_91.ls _f_90.rd _ _q_u56_0x1.ls _q_u56_0x2.ls _od_vs56_0x2.rd ) fun _v57 _w_92 _q57 => ?_
          obtain ⟨rfl, _cw_92⟩ := _q57
          have _cw_92z := _cw_92.size
          have E := E.trans _cw_92
          have _S_93 : Ch [] _w_81 _w_92 := (_S_88.trans _cw_92)
          refine ⟨_S_93, ?_⟩
          refine DR_s 4 rfl (by kernel_rfl) rfl rfl (t_v (fun _ => (r_not rfl)) ?_)
          refine DR_done (by kernel_rfl) ?_
          refine thn_nrm (_hK_80 _ _ ?_)
          clear _hK_80
          refine W_cond rfl (fun _h58 => ?_) (fun _h58 => ?_)
          · have _kb_94 := _h58
            have _h58 := bf_d (bt_n _h58)
            refine W_seq fun _K_95 _hK_95 => ?_
            refine W_region ?_
            refine WL_step rfl rfl (r_assign rfl) ?_
            refine WL_nil ?_
            refine thn_nrm (_hK_95 _ _ ?_)
            clear _hK_95
            refine W_ret (thn_ret ?_)
            clear _hK_79
            exact ret_intro [_] ⟨rfl, trivial⟩ ⟨congrArg Value.bool (by first | rfl | (exfalso; omega) | (exfalso; revert _h58; simp; done) | (exfalso; revert _h58; simp; omega)), E⟩
          · have _kb_94 := _h58
            have _h58 := bt_d (bf_n _h58)
            refine W_skip ?_
            refine thn_nrm (_hK_79 _ _ ?_)
            clear _hK_79
            refine W_seq fun _K_96 _hK_96 => ?_
            refine W_seq fun _K_97 _hK_97 => ?_
            refine W_drawC [] 5 mixed rfl fun _w_98 _cw_98 => ?_
            have _cw_98z := _cw_98.size
            have E := E.trans _cw_98
            have _f_99 := ((((((_m_61.ch0 _cw_70).ch0 _cw_74).ch0 _cw_81).ch0 _cw_87).ch0 _cw_92).ch0 _cw_98)
            refine DR_s 0 rfl (by kernel_rfl) rfl rfl (t_loadAtA0 _f_99.at_ (fun i hi => absurd hi List.not_mem_nil) agg28 sz28 rfl ?_)
            have _f_100 := (((((((((_f_54.ch0 _cw_58).ch0 _cw_59).ch _cw_60 (fun hm => by have _h1 := List.mem_singleton.1 hm; omega)).ch0 _cw_70).ch0 _cw_74).ch0 _cw_81).ch0 _cw_87).ch0 _cw_92).ch0 _cw_98)
            refine DR_s 1 rfl (by kernel_rfl) rfl rfl (t_loadAtA0 _f_100.at_ (fun i hi => absurd hi List.not_mem_nil) agg25 sz25 rfl ?_)
            refine DR_one 2 (by kernel_rfl) ?_
            refine DO_s rfl rfl rfl ?_
            have _f_101 := (((((((((_f_55.ch0 _cw_58).ch0 _cw_59).ch _cw_60 (fun i hi => by have _h1 := List.mem_singleton.1 hi; omega)).ch0 _cw_70).ch0 _cw_74).ch0 _cw_81).ch0 _cw_87).ch0 _cw_92).ch0 _cw_98)
            have _f_102 := (((((((((_f_56.ch0 _cw_58).ch0 _cw_59).ch _cw_60 (fun i hi => by have _h1 := List.mem_singleton.1 hi; omega)).ch0 _cw_70).ch0 _cw_74).ch0 _cw_81).ch0 _cw_87).ch0 _cw_92).ch0 _cw_98)
            have _f_103 := (((((((((_f_57.ch0 _cw_58).ch0 _cw_59).ch _cw_60 (fun i hi => by have _h1 := List.mem_singleton.1 hi; omega)).ch0 _cw_70).ch0 _cw_74).ch0 _cw_81).ch0 _cw_87).ch0 _cw_92).ch0 _cw_98)
            refine Step.call (r_call (xs := [.tmp 60]) fk11 rfl) (c_laws_toAutomaton _ _f_101 _f_103 _f_102 (by omega)) fun _v61 _w_104 _q61 => ?_
            obtain ⟨u61_0x1, u61_0x2, _vs61_0x2, rfl, _q_u61_0x1, _lo_u61_0x1, _q_u61_0x2, _lo_u61_0x2, _od_vs61_0x2, _sep_vs61_0x2, _dj_u61_0x1_u61_0x2, _sep_u61_0x1_vs61_0x2, _cw_104⟩ := _q61
            have _cw_104z := _cw_104.size
            have E := E.trans _cw_104
            obtain ⟨Au61_0x1, Cu61_0x1, eu61_0x1⟩ := _q_u61_0x1.val
            subst eu61_0x1
            have lu61_0x1 := _q_u61_0x1.len
            have _hiu61_0x1 := _q_u61_0x1.lt
            obtain ⟨Au61_0x2, Cu61_0x2, eu61_0x2⟩ := _q_u61_0x2.val
            subst eu61_0x2
            have lu61_0x2 := _q_u61_0x2.len
            have _hiu61_0x2 := _q_u61_0x2.lt
            have _S_105 : Ch [] _w_98 _w_104 := ((Ch.refl _ _).trans _cw_104)
            refine ⟨_S_105, ?_⟩
            refine DR_one 3 (by kernel_rfl) ?_
            refine DO_s rfl rfl rfl ?_
            have _f_106 := (((((((_f_67.ch0 _cw_70).ch0 _cw_74).ch0 _cw_81).ch0 _cw_87).ch0 _cw_92).ch0 _cw_98).ch0 _cw_104)
            have _f_107 := (((((((_f_68.ch0 _cw_70).ch0 _cw_74).ch0 _cw_81).ch0 _cw_87).ch0 _cw_92).ch0 _cw_98).ch0 _cw_104)
            have _f_108 := (((((((_f_69.ch0 _cw_70).ch0 _cw_74).ch0 _cw_81).ch0 _cw_87).ch0 _cw_92).ch0 _cw_98).ch0 _cw_104)
            refine Step.call (r_call (xs := [.tmp 59, .tmp 61]) fk13 rfl) (c_laws_eqAutomaton _ _f_106.ls _f_108.ls _f_107.rd _ _q_u61_0x1.ls _q_u61_0x2.ls _od_vs61_0x2.rd ) fun _v62 _w_109 _q62 => ?_
            obtain ⟨rfl, _cw_109⟩ := _q62
            have _cw_109z := _cw_109.size
            have E := E.trans _cw_109
            have _S_110 : Ch [] _w_98 _w_109 := (_S_105.trans _cw_109)
            refine ⟨_S_110, ?_⟩
            refine DR_s 4 rfl (by kernel_rfl) rfl rfl (t_v (fun _ => (r_not rfl)) ?_)
            refine DR_done (by kernel_rfl) ?_
            refine thn_nrm (_hK_97 _ _ ?_)
            clear _hK_97
            refine W_cond rfl (fun _h63 => ?_) (fun _h63 => ?_)
            · have _kb_111 := _h63
              have _h63 := bf_d (bt_n _h63)
              refine W_seq fun _K_112 _hK_112 => ?_
              refine W_region ?_
              refine WL_step rfl rfl (r_assign rfl) ?_
              refine WL_nil ?_
              refine thn_nrm (_hK_112 _ _ ?_)
              clear _hK_112
              refine W_ret (thn_ret ?_)
              clear _hK_96
              exact ret_intro [_] ⟨rfl, trivial⟩ ⟨congrArg Value.bool (by first | rfl | (exfalso; omega) | (exfalso; revert _h63; simp; done) | (exfalso; revert _h63; simp; omega)), E⟩
            · have _kb_111 := _h63
              have _h63 := bt_d (bf_n _h63)
              refine W_skip ?_
              refine thn_nrm (_hK_96 _ _ ?_)
              clear _hK_96
              refine W_seq fun _K_113 _hK_113 => ?_
              refine W_region ?_
              refine WL_step rfl rfl (r_assign rfl) ?_
              refine WL_nil ?_
              refine thn_nrm (_hK_113 _ _ ?_)
              clear _hK_113
              refine W_seq fun _K_114 _hK_114 => ?_
              refine W_region ?_
              have _f_115 := (((((_f_82.ch0 _cw_87).ch0 _cw_92).ch0 _cw_98).ch0 _cw_104).ch0 _cw_109)
              refine WL_step rfl rfl (r_loadAtA0 _f_115.at_ agg28 sz28 rfl) ?_
              refine WL_step rfl rfl (r_move rfl) ?_
              refine WL_s rfl rfl ?_
              have _f_116 := ((((_f_89.ch0 _cw_92).ch0 _cw_98).ch0 _cw_104).ch0 _cw_109)
              have _f_117 := ((((_f_91.ch0 _cw_92).ch0 _cw_98).ch0 _cw_104).ch0 _cw_109)
              have _f_118 := ((((_f_90.ch0 _cw_92).ch0 _cw_98).ch0 _cw_104).ch0 _cw_109)
              refine Step.call (r_call (xs := [.tmp 64, .tmp 65]) fk19 rfl) (c_laws_markAutomaton _ _f_116 _f_117 (_f_118.up (lo' := _w_42.heap.size) (hi' := _w_49.heap.size) (by omega) (by omega)) (fun g hm => by have _h1 := _lo_u36_0x2 _ hm; have _h2 := _hiu36_0x2 _ hm; omega) _sep_vs36_0x2 (by omega) (fun g hm => by have _h1 := _lo_u36_0x1 _ hm; have _h2 := _hiu36_0x1 _ hm; omega) (fun g hm hg => by exact _dj_u36_0x1_u36_0x2 _ hm hg) _sep_u36_0x1_vs36_0x2 _ (by omega) (by first | omega | (simp <;> omega))) fun _v66 _w_119 _q66 => ?_
              obtain ⟨rfl, _cw_119⟩ := _q66
              have _cw_119z := _cw_119.size
              have E := E.step _cw_119 (fun i hm => by have _h1 := mem_rg hm; left; omega)
              refine WL_step rfl rfl (r_assign rfl) ?_
              refine WL_nil ?_
              refine thn_nrm (_hK_114 _ _ ?_)
              clear _hK_114
              refine W_seq fun _K_120 _hK_120 => ?_
              refine W_region ?_
              have _f_121 := (((_f_99.ch0 _cw_104).ch0 _cw_109).ch _cw_119 (fun hm => by have _h1 := mem_rg hm; omega))
              refine WL_step rfl rfl (r_loadAtA0 _f_121.at_ agg28 sz28 rfl) ?_
              refine WL_step rfl rfl (r_move rfl) ?_
              refine WL_s rfl rfl ?_
              have _f_122 := ((_f_106.ch0 _cw_109).ch _cw_119 (fun g hg hm => by have _h0 := mem_rg hm; have _h1 := _lo_u38_0x1 _ hg; have _h2 := _hiu38_0x1 _ hg; omega))
              have _f_123 := ((_f_108.ch0 _cw_109).ch _cw_119 (fun g hg hm => by have _h0 := mem_rg hm; have _h1 := _lo_u38_0x2 _ hg; have _h2 := _hiu38_0x2 _ hg; omega))
              have _f_124 := ((_f_107.ch0 _cw_109).ch _cw_119 (fun i hm => by have _h1 := mem_rg hm; omega))
              refine Step.call (r_call (xs := [.tmp 67, .tmp 68]) fk19 rfl) (c_laws_markAutomaton _ _f_122 _f_123 (_f_124.up (lo' := _w_51.heap.size) (hi' := _w_58.heap.size) (by omega) (by omega)) (fun g hm => by have _h1 := _lo_u38_0x2 _ hm; have _h2 := _hiu38_0x2 _ hm; omega) _sep_vs38_0x2 (by omega) (fun g hm => by have _h1 := _lo_u38_0x1 _ hm; have _h2 := _hiu38_0x1 _ hm; omega) (fun g hm hg => by exact _dj_u38_0x1_u38_0x2 _ hm hg) _sep_u38_0x1_vs38_0x2 _ (by omega) (by first | omega | (simp <;> omega))) fun _v69 _w_125 _q69 => ?_
              obtain ⟨rfl, _cw_125⟩ := _q69
              have _cw_125z := _cw_125.size
              have E := E.step _cw_125 (fun i hm => by have _h1 := mem_rg hm; left; omega)
              refine WL_step rfl rfl (r_assign rfl) ?_
              refine WL_nil ?_
              refine thn_nrm (_hK_120 _ _ ?_)
              clear _hK_120
              refine W_seq fun _K_126 _hK_126 => ?_
              refine W_seq fun _K_127 _hK_127 => ?_
              refine W_region ?_
              refine WL_step rfl rfl (r_move rfl) ?_
              refine WL_step rfl rfl (r_lss rfl rfl) ?_
              refine WL_step rfl rfl (r_move rfl) ?_
              refine WL_split (d := 72) rfl (fun _h72 => ?_) (fun _h72 => ?_)
              · have _kb_128 := _h72
                have _h72 := bt_d _h72
                refine WL_skip rfl rfl ?_
                refine WL_skip rfl rfl ?_
                refine WL_skip rfl rfl ?_
                refine WL_skip rfl rfl ?_
                refine WL_step rfl rfl (r_pickT rfl rfl) ?_
                refine WL_step rfl rfl (r_move rfl) ?_
                refine WL_skip rfl rfl ?_
                refine WL_skip rfl rfl ?_
                refine WL_skip rfl rfl ?_
                refine WL_step rfl rfl (r_pickT rfl rfl) ?_
                refine WL_nil ?_
                refine thn_nrm (_hK_127 _ _ ?_)
                clear _hK_127
                refine W_condT rfl ?_
                refine W_seq fun _K_129 _hK_129 => ?_
                refine W_region ?_
                refine WL_step rfl rfl (r_assign rfl) ?_
                refine WL_nil ?_
                refine thn_nrm (_hK_129 _ _ ?_)
                clear _hK_129
                refine W_ret (thn_ret ?_)
                clear _hK_126
                exact ret_intro [_] ⟨rfl, trivial⟩ ⟨congrArg Value.bool (by first | rfl | (exfalso; omega) | (exfalso; revert _h72; simp; done) | (exfalso; revert _h72; simp; omega)), E⟩
              · have _kb_128 := _h72
                have _h72 := bf_d _h72
                refine WL_step rfl rfl (r_move rfl) ?_
                refine WL_step rfl rfl (r_move rfl) ?_
                refine WL_s rfl rfl ?_
                have _f_130 := (((((((((_q_u42_0.ch0 _cw_74).ch0 _cw_81).ch0 _cw_87).ch0 _cw_92).ch0 _cw_98).ch0 _cw_104).ch0 _cw_109).ch _cw_119 (fun g hg hm => by have _h0 := mem_rg hm; have _h1 := _lo_u42_0 _ hg; have _h2 := _hiu42_0 _ hg; omega)).ch _cw_125 (fun g hg hm => by have _h0 := mem_rg hm; have _h1 := _lo_u42_0 _ hg; have _h2 := _hiu42_0 _ hg; omega))
                have _f_131 := (((((((((_f_73.ch0 _cw_74).ch0 _cw_81).ch0 _cw_87).ch0 _cw_92).ch0 _cw_98).ch0 _cw_104).ch0 _cw_109).ch _cw_119 (fun g hg hm => by have _h0 := mem_rg hm; have _h1 := _lo_u32_0 _ hg; have _h2 := _hiu32_0 _ hg; omega)).ch _cw_125 (fun g hg hm => by have _h0 := mem_rg hm; have _h1 := _lo_u32_0 _ hg; have _h2 := _hiu32_0 _ hg; omega))
                refine Step.call (r_call (xs := [.tmp 73, .tmp 74]) fk18 rfl) (c_laws_eqIntS _f_130.ls _f_131.ls ) fun _v75 _w_132 _q75 => ?_
                obtain ⟨rfl, _cw_132⟩ := _q75
                have _cw_132z := _cw_132.size
                have E := E.trans _cw_132
                refine WL_step rfl rfl (r_not rfl) ?_
                refine WL_step rfl rfl (r_pickF rfl rfl) ?_
                refine WL_step rfl rfl (r_move rfl) ?_
                refine WL_splitF (d := 78) rfl _kb_75 ?_
                refine WL_step rfl rfl (r_move rfl) ?_
                refine WL_step rfl rfl (r_move rfl) ?_
                refine WL_step rfl rfl (r_neqB un4 rfl rfl) ?_
                refine WL_step rfl rfl (r_pickF rfl rfl) ?_
                refine WL_nil ?_
                refine thn_nrm (_hK_127 _ _ ?_)
                clear _hK_127
                refine W_condFk rfl _kb_77 ?_
                refine W_skip ?_
                refine thn_nrm (_hK_126 _ _ ?_)
                clear _hK_126
                refine W_seq fun _K_133 _hK_133 => ?_
                refine W_region ?_
                refine WL_step rfl rfl (r_assign rfl) ?_
                refine WL_nil ?_
                refine thn_nrm (_hK_133 _ _ ?_)
                clear _hK_133
                refine W_seq fun _K_134 _hK_134 => ?_
                refine W_region ?_
                refine WL_step rfl rfl (r_move rfl) ?_
                refine WL_step rfl rfl (r_move rfl) ?_
                refine WL_s rfl rfl ?_
                have _f_135 := (_f_130.ch0 _cw_132)
                refine Step.call (r_call (xs := [.tmp 83, .tmp 84]) fk20 rfl) (c_laws_markIntS _f_135 _ (by omega) (by first | omega | (simp <;> omega))) fun _v85 _w_136 _q85 => ?_
                obtain ⟨rfl, _q85, _cw_136⟩ := _q85
                have _cw_136z := _cw_136.size
                have E := E.step _cw_136 (fun i hi => .inl (by have _h1 := _lo_u42_0 _ hi; omega))
                refine WL_step rfl rfl (r_assign rfl) ?_
                refine WL_nil ?_
                refine thn_nrm (_hK_134 _ _ ?_)
                clear _hK_134
                refine W_seq fun _K_137 _hK_137 => ?_
                refine W_region ?_
                refine WL_step rfl rfl (r_assign rfl) ?_
                refine WL_nil ?_
                refine thn_nrm (_hK_137 _ _ ?_)
                clear _hK_137
                refine W_seq fun _K_138 _hK_138 => ?_
                refine W_region ?_
                refine WL_step rfl rfl (r_move rfl) ?_
                refine WL_step rfl rfl (r_move rfl) ?_
                refine WL_s rfl rfl ?_
                refine Step.call (r_call (xs := [.tmp 86, .tmp 87]) fk21 rfl) (c_laws_heldIntS _q85.ls _ (by omega) (by first | omega | (simp <;> omega))) fun _v88 _w_139 _q88 => ?_
                obtain ⟨rfl, _cw_139⟩ := _q88
                have _cw_139z := _cw_139.size
                have E := E.trans _cw_139
                refine WL_step rfl rfl (r_assign rfl) ?_
                refine WL_nil ?_
                refine thn_nrm (_hK_138 _ _ ?_)
                clear _hK_138
                refine W_seq fun _K_140 _hK_140 => ?_
                refine W_seq fun _K_141 _hK_141 => ?_
                refine W_region ?_
                refine WL_step rfl rfl (r_move rfl) ?_
                refine WL_step rfl rfl (r_lss rfl rfl) ?_
                refine WL_nil ?_
                refine thn_nrm (_hK_141 _ _ ?_)
                clear _hK_141
                refine W_cond rfl (fun _h90 => ?_) (fun _h90 => ?_)
                · have _kb_142 := _h90
                  have _h90 := bt_d _h90
                  refine W_seq fun _K_143 _hK_143 => ?_
                  refine W_region ?_
                  refine WL_step rfl rfl (r_assign rfl) ?_
                  refine WL_nil ?_
                  refine thn_nrm (_hK_143 _ _ ?_)
                  clear _hK_143
                  refine W_ret (thn_ret ?_)
                  clear _hK_140
                  exact ret_intro [_] ⟨rfl, trivial⟩ ⟨congrArg Value.bool (by first | rfl | (exfalso; omega) | (exfalso; revert _h90; simp; done) | (exfalso; revert _h90; simp; omega)), E⟩
                · have _kb_142 := _h90
                  have _h90 := bf_d _h90
                  refine W_skip ?_
                  refine thn_nrm (_hK_140 _ _ ?_)
                  clear _hK_140
                  refine W_seq fun _K_144 _hK_144 => ?_
                  refine W_seq fun _K_145 _hK_145 => ?_
                  refine W_region ?_
                  refine WL_step rfl rfl (r_move rfl) ?_
                  refine WL_step rfl rfl (r_move rfl) ?_
                  refine WL_step rfl rfl (r_neq rfl rfl) ?_
                  refine WL_nil ?_
                  refine thn_nrm (_hK_145 _ _ ?_)
                  clear _hK_145
                  refine W_cond rfl (fun _h93 => ?_) (fun _h93 => ?_)
                  · have _kb_146 := _h93
                    have _h93 := bf_d (bt_n _h93)
                    refine W_seq fun _K_147 _hK_147 => ?_
                    refine W_region ?_
                    refine WL_step rfl rfl (r_assign rfl) ?_
                    refine WL_nil ?_
                    refine thn_nrm (_hK_147 _ _ ?_)
                    clear _hK_147
                    refine W_ret (thn_ret ?_)
                    clear _hK_144
                    exact ret_intro [_] ⟨rfl, trivial⟩ ⟨congrArg Value.bool (by first | rfl | (exfalso; omega) | (exfalso; revert _h93; simp; done) | (exfalso; revert _h93; simp; omega)), E⟩
                  · have _kb_146 := _h93
                    have _h93 := bt_d (bf_n _h93)
                    refine W_skip ?_
                    refine thn_nrm (_hK_144 _ _ ?_)
                    clear _hK_144
                    refine W_seq fun _K_148 _hK_148 => ?_
                    refine W_drawC [] 10 mixed rfl fun _w_149 _cw_149 => ?_
                    have _cw_149z := _cw_149.size
                    have E := E.trans _cw_149
                    have _f_150 := (((((((((((_f_83.ch0 _cw_87).ch0 _cw_92).ch0 _cw_98).ch0 _cw_104).ch0 _cw_109).ch _cw_119 (fun hm => by have _h1 := mem_rg hm; omega)).ch _cw_125 (fun hm => by have _h1 := mem_rg hm; omega)).ch0 _cw_132).ch _cw_136 (fun hm => by have _h1 := _lo_u42_0 _ hm; have _h2 := _hiu42_0 _ hm; omega)).ch0 _cw_139).ch0 _cw_149)
                    refine DR_s 0 rfl (by kernel_rfl) rfl rfl (t_loadAtA0 _f_150.at_ (fun i hi => absurd hi List.not_mem_nil) agg25 sz25 rfl ?_)
                    have _f_151 := ((((((((_f_100.ch0 _cw_104).ch0 _cw_109).ch _cw_119 (fun hm => by have _h1 := mem_rg hm; omega)).ch _cw_125 (fun hm => by have _h1 := mem_rg hm; omega)).ch0 _cw_132).ch _cw_136 (fun hm => by have _h1 := _lo_u42_0 _ hm; have _h2 := _hiu42_0 _ hm; omega)).ch0 _cw_139).ch0 _cw_149)
                    refine DR_s 2 rfl (by kernel_rfl) rfl rfl (t_loadAtA0 _f_151.at_ (fun i hi => absurd hi List.not_mem_nil) agg25 sz25 rfl ?_)
                    refine DR_one 1 (by kernel_rfl) ?_
                    refine DO_s rfl rfl rfl ?_
                    have _f_152 := (((((((((((_f_84.ch0 _cw_87).ch0 _cw_92).ch0 _cw_98).ch0 _cw_104).ch0 _cw_109).ch _cw_119 (fun i hm => by have _h1 := mem_rg hm; omega)).ch _cw_125 (fun i hm => by have _h1 := mem_rg hm; omega)).ch0 _cw_132).ch _cw_136 (fun i hi => by have _h1 := _lo_u42_0 _ hi; omega)).ch0 _cw_139).ch0 _cw_149)
                    have _f_153 := (((((((((((_f_85.ch0 _cw_87).ch0 _cw_92).ch0 _cw_98).ch0 _cw_104).ch0 _cw_109).ch _cw_119 (fun i hm => by have _h1 := mem_rg hm; omega)).ch _cw_125 (fun i hm => by have _h1 := mem_rg hm; omega)).ch0 _cw_132).ch _cw_136 (fun i hi => by have _h1 := _lo_u42_0 _ hi; omega)).ch0 _cw_139).ch0 _cw_149)
                    have _f_154 := (((((((((((_f_86.ch0 _cw_87).ch0 _cw_92).ch0 _cw_98).ch0 _cw_104).ch0 _cw_109).ch _cw_119 (fun i hm => by have _h1 := mem_rg hm; omega)).ch _cw_125 (fun i hm => by have _h1 := mem_rg hm; omega)).ch0 _cw_132).ch _cw_136 (fun i hi => by have _h1 := _lo_u42_0 _ hi; omega)).ch0 _cw_139).ch0 _cw_149)
                    refine Step.call (r_call (xs := [.tmp 95]) fk11 rfl) (c_laws_toAutomaton _ _f_152 _f_154 _f_153 (by omega)) fun _v96 _w_155 _q96 => ?_
                    obtain ⟨u96_0x1, u96_0x2, _vs96_0x2, rfl, _q_u96_0x1, _lo_u96_0x1, _q_u96_0x2, _lo_u96_0x2, _od_vs96_0x2, _sep_vs96_0x2, _dj_u96_0x1_u96_0x2, _sep_u96_0x1_vs96_0x2, _cw_155⟩ := _q96
                    have _cw_155z := _cw_155.size
                    have E := E.trans _cw_155
                    obtain ⟨Au96_0x1, Cu96_0x1, eu96_0x1⟩ := _q_u96_0x1.val
                    subst eu96_0x1
                    have lu96_0x1 := _q_u96_0x1.len
                    have _hiu96_0x1 := _q_u96_0x1.lt
                    obtain ⟨Au96_0x2, Cu96_0x2, eu96_0x2⟩ := _q_u96_0x2.val
                    subst eu96_0x2
                    have lu96_0x2 := _q_u96_0x2.len
                    have _hiu96_0x2 := _q_u96_0x2.lt
                    have _S_156 : Ch [] _w_149 _w_155 := ((Ch.refl _ _).trans _cw_155)
                    refine ⟨_S_156, ?_⟩
                    refine DR_one 3 (by kernel_rfl) ?_
                    refine DO_s rfl rfl rfl ?_
                    have _f_157 := (((((((((_f_101.ch0 _cw_104).ch0 _cw_109).ch _cw_119 (fun i hm => by have _h1 := mem_rg hm; omega)).ch _cw_125 (fun i hm => by have _h1 := mem_rg hm; omega)).ch0 _cw_132).ch _cw_136 (fun i hi => by have _h1 := _lo_u42_0 _ hi; omega)).ch0 _cw_139).ch0 _cw_149).ch0 _cw_155)
                    have _f_158 := (((((((((_f_102.ch0 _cw_104).ch0 _cw_109).ch _cw_119 (fun i hm => by have _h1 := mem_rg hm; omega)).ch _cw_125 (fun i hm => by have _h1 := mem_rg hm; omega)).ch0 _cw_132).ch _cw_136 (fun i hi => by have _h1 := _lo_u42_0 _ hi; omega)).ch0 _cw_139).ch0 _cw_149).ch0 _cw_155)
                    have _f_159 := (((((((((_f_103.ch0 _cw_104).ch0 _cw_109).ch _cw_119 (fun i hm => by have _h1 := mem_rg hm; omega)).ch _cw_125 (fun i hm => by have _h1 := mem_rg hm; omega)).ch0 _cw_132).ch _cw_136 (fun i hi => by have _h1 := _lo_u42_0 _ hi; omega)).ch0 _cw_139).ch0 _cw_149).ch0 _cw_155)
                    refine Step.call (r_call (xs := [.tmp 97]) fk11 rfl) (c_laws_toAutomaton _ _f_157 _f_159 _f_158 (by omega)) fun _v98 _w_160 _q98 => ?_
                    obtain ⟨u98_0x1, u98_0x2, _vs98_0x2, rfl, _q_u98_0x1, _lo_u98_0x1, _q_u98_0x2, _lo_u98_0x2, _od_vs98_0x2, _sep_vs98_0x2, _dj_u98_0x1_u98_0x2, _sep_u98_0x1_vs98_0x2, _cw_160⟩ := _q98
                    have _cw_160z := _cw_160.size
                    have E := E.trans _cw_160
                    obtain ⟨Au98_0x1, Cu98_0x1, eu98_0x1⟩ := _q_u98_0x1.val
                    subst eu98_0x1
                    have lu98_0x1 := _q_u98_0x1.len
                    have _hiu98_0x1 := _q_u98_0x1.lt
                    obtain ⟨Au98_0x2, Cu98_0x2, eu98_0x2⟩ := _q_u98_0x2.val
                    subst eu98_0x2
                    have lu98_0x2 := _q_u98_0x2.len
                    have _hiu98_0x2 := _q_u98_0x2.lt
                    have _S_161 : Ch [] _w_149 _w_160 := (_S_156.trans _cw_160)
                    refine ⟨_S_161, ?_⟩
                    refine DR_one 4 (by kernel_rfl) ?_
                    refine DO_s rfl rfl rfl ?_
                    have _f_162 := (_q_u96_0x1.ch0 _cw_160)
                    have _f_163 := (_od_vs96_0x2.ch0 _cw_160)
                    have _f_164 := (_q_u96_0x2.ch0 _cw_160)
                    refine Step.call (r_call (xs := [.tmp 96, .tmp 98]) fk17 rfl) (c_impl_MissingWord _ _f_162.ls _f_164.ls _f_163.rd _ _q_u98_0x1.ls _q_u98_0x2.ls _od_vs98_0x2.rd ) fun _v99 _w_165 _q99 => ?_
                    obtain ⟨u99_0, rfl, _q_u99_0, _lo_u99_0, _cw_165⟩ := _q99
                    have _cw_165z := _cw_165.size
                    have E := E.trans _cw_165
                    obtain ⟨Au99_0, Cu99_0, eu99_0⟩ := _q_u99_0.val
                    subst eu99_0
                    have lu99_0 := _q_u99_0.len
                    have _hiu99_0 := _q_u99_0.lt
                    have _S_166 : Ch [] _w_149 _w_165 := (_S_161.trans _cw_165)
                    refine ⟨_S_166, ?_⟩
                    refine DR_s 5 rfl (by kernel_rfl) rfl rfl (t_v (fun _ => (r_move rfl)) ?_)
                    refine DR_s 6 rfl (by kernel_rfl) rfl rfl (t_v (fun _ => (r_extract rfl rfl)) ?_)
                    refine DR_s 7 rfl (by kernel_rfl) rfl rfl (t_v (fun _ => (r_extract rfl rfl)) ?_)
                    refine DR_s 8 rfl (by kernel_rfl) rfl rfl (t_v (fun _ => (r_assign rfl)) ?_)
                    refine DR_s 9 rfl (by kernel_rfl) rfl rfl (t_v (fun _ => (r_assign rfl)) ?_)
                    refine DR_done (by kernel_rfl) ?_
                    refine thn_nrm (_hK_148 _ _ ?_)
                    clear _hK_148
                    refine W_seq fun _K_167 _hK_167 => ?_
                    refine W_seq fun _K_168 _hK_168 => ?_
                    refine W_region ?_
                    refine WL_step rfl rfl (r_move rfl) ?_
                    refine WL_step rfl rfl (r_move rfl) ?_
                    refine WL_s rfl rfl ?_
                    have _f_169 := (((((((_f_131.ch0 _cw_132).ch _cw_136 (fun g hg hm => by have _h1 := _lo_u42_0 _ hm; have _h2 := _hiu42_0 _ hm; have _h3 := _lo_u32_0 _ hg; have _h4 := _hiu32_0 _ hg; omega)).ch0 _cw_139).ch0 _cw_149).ch0 _cw_155).ch0 _cw_160).ch0 _cw_165)
                    refine Step.call (r_call (xs := [.tmp 102, .tmp 103]) fk18 rfl) (c_laws_eqIntS _q_u99_0.ls _f_169.ls ) fun _v104 _w_170 _q104 => ?_
                    obtain ⟨rfl, _cw_170⟩ := _q104
                    have _cw_170z := _cw_170.size
                    have E := E.trans _cw_170
                    refine WL_step rfl rfl (r_not rfl) ?_
                    refine WL_step rfl rfl (r_move rfl) ?_
                    refine WL_splitF (d := 106) rfl _kb_75 ?_
                    refine WL_step rfl rfl (r_move rfl) ?_
                    refine WL_step rfl rfl (r_move rfl) ?_
                    refine WL_step rfl rfl (r_neqB un4 rfl rfl) ?_
                    refine WL_step rfl rfl (r_pickF rfl rfl) ?_
                    refine WL_nil ?_
                    refine thn_nrm (_hK_168 _ _ ?_)
                    clear _hK_168
                    refine W_condFk rfl _kb_77 ?_
                    refine W_skip ?_
                    refine thn_nrm (_hK_167 _ _ ?_)
                    clear _hK_167
                    refine W_seq fun _K_171 _hK_171 => ?_
                    refine W_region ?_
                    refine WL_step rfl rfl (r_assign rfl) ?_
                    refine WL_nil ?_
                    refine thn_nrm (_hK_171 _ _ ?_)
                    clear _hK_171
                    refine W_seq fun _K_172 _hK_172 => ?_
                    refine W_region ?_
                    refine WL_step rfl rfl (r_move rfl) ?_
                    refine WL_step rfl rfl (r_move rfl) ?_
                    refine WL_s rfl rfl ?_
                    have _f_173 := ((((((_q85.ch0 _cw_139).ch0 _cw_149).ch0 _cw_155).ch0 _cw_160).ch0 _cw_165).ch0 _cw_170)
                    refine Step.call (r_call (xs := [.tmp 111, .tmp 112]) fk21 rfl) (c_laws_heldIntS _f_173.ls _ (by omega) (by first | omega | (simp <;> omega))) fun _v113 _w_174 _q113 => ?_
                    obtain ⟨rfl, _cw_174⟩ := _q113
                    have _cw_174z := _cw_174.size
                    have E := E.trans _cw_174
                    refine WL_step rfl rfl (r_assign rfl) ?_
                    refine WL_nil ?_
                    refine thn_nrm (_hK_172 _ _ ?_)
                    clear _hK_172
                    refine W_seq fun _K_175 _hK_175 => ?_
                    refine W_seq fun _K_176 _hK_176 => ?_
                    refine W_region ?_
                    refine WL_step rfl rfl (r_move rfl) ?_
                    refine WL_step rfl rfl (r_lss rfl rfl) ?_
                    refine WL_nil ?_
                    refine thn_nrm (_hK_176 _ _ ?_)
                    clear _hK_176
                    refine W_condFk rfl _kb_142 ?_
                    refine W_skip ?_
                    refine thn_nrm (_hK_175 _ _ ?_)
                    clear _hK_175
                    refine W_seq fun _K_177 _hK_177 => ?_
                    refine W_seq fun _K_178 _hK_178 => ?_
                    refine W_region ?_
                    refine WL_step rfl rfl (r_move rfl) ?_
                    refine WL_step rfl rfl (r_move rfl) ?_
                    refine WL_step rfl rfl (r_neq rfl rfl) ?_
                    refine WL_nil ?_
                    refine thn_nrm (_hK_178 _ _ ?_)
                    clear _hK_178
                    refine W_condFk rfl _kb_146 ?_
                    refine W_skip ?_
                    refine thn_nrm (_hK_177 _ _ ?_)
                    clear _hK_177
                    refine W_seq fun _K_179 _hK_179 => ?_
                    refine W_region ?_
                    refine WL_step rfl rfl (r_assign rfl) ?_
                    refine WL_nil ?_
                    refine thn_nrm (_hK_179 _ _ ?_)
                    clear _hK_179
                    refine W_ret ?_
                    exact ret_intro [_] ⟨rfl, trivial⟩ ⟨congrArg Value.bool (by first | rfl | (exfalso; omega) | (exfalso; revert _h93; simp; done) | (exfalso; revert _h93; simp; omega)), E⟩

end Go.Proofs.Ytliecidadhlieaa
