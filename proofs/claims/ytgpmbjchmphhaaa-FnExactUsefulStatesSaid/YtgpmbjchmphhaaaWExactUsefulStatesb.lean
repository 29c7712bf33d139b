/- Walks of functions that FnExactUsefulStates reaches: what each returns, and that it leaves the memory that was there alone. -/
import Derived.Test.YtgpmbjchmphhaaaKF
import Derived.Test.YtgpmbjchmphhaaaKG
import Derived.Test.YtgpmbjchmphhaaaKH
import Derived.Test.YtgpmbjchmphhaaaKI
import Derived.Test.YtgpmbjchmphhaaaKJ
import Derived.Test.YtgpmbjchmphhaaaKM
import Derived.Test.YtgpmbjchmphhaaaKN
import Derived.Test.YtgpmbjchmphhaaaKO
import Derived.Test.YtgpmbjchmphhaaaKP
import Derived.Test.YtgpmbjchmphhaaaKQ
import Derived.Test.YtgpmbjchmphhaaaKR
import Derived.Test.YtgpmbjchmphhaaaKS
import Derived.Test.YtgpmbjchmphhaaaKT
import Derived.Test.YtgpmbjchmphhaaaKU
import Derived.Test.YtgpmbjchmphhaaaKV
import Derived.Test.YtgpmbjchmphhaaaKX
import Derived.Test.YtgpmbjchmphhaaaKY
import Derived.Test.YtgpmbjchmphhaaaKZ
import Derived.Test.YtgpmbjchmphhaaaJA
import Derived.Test.YtgpmbjchmphhaaaJB
import Derived.Test.YtgpmbjchmphhaaaWExactUsefulStates
import Derived.Test.YtgpmbjchmphhaaaProg
namespace Go.Proofs.Ytgpmbjchmphhaaa
open Go.KLib
set_option maxRecDepth 20000
set_option linter.unusedVariables false
set_option linter.unusedSimpArgs false
namespace TExactUsefulStatesb
theorem agg22 : aggB Try.prog 22 = some false := by kernel_rfl
theorem agg23 : aggB Try.prog 23 = some false := by kernel_rfl
theorem agg25 : aggB Try.prog 25 = some true := by kernel_rfl
theorem agg28 : aggB Try.prog 28 = some true := by kernel_rfl
theorem agg3 : aggB Try.prog 3 = some false := by kernel_rfl
theorem agg32 : aggB Try.prog 32 = some false := by kernel_rfl
theorem agg4 : aggB Try.prog 4 = some false := by kernel_rfl
theorem by3 : bytesB Try.prog 3 = some 8 := by kernel_rfl
theorem by4 : bytesB Try.prog 4 = some 1 := by kernel_rfl
theorem el22 : elB Try.prog 22 = some 4 := by kernel_rfl
theorem el23 : elB Try.prog 23 = some 32 := by kernel_rfl
theorem el32 : elB Try.prog 32 = some 3 := by kernel_rfl
theorem fa28_0 : faB Try.prog 28 0 = some 0 := by kernel_rfl
theorem fa28_1 : faB Try.prog 28 1 = some 1 := by kernel_rfl
theorem fa28_2 : faB Try.prog 28 2 = some 2 := by kernel_rfl
theorem fk14 : fnB Try.prog 14 = true := by kernel_rfl
theorem fk16 : fnB Try.prog 16 = true := by kernel_rfl
theorem fk18 : fnB Try.prog 18 = true := by kernel_rfl
theorem fk25 : fnB Try.prog 25 = true := by kernel_rfl
theorem fk28 : fnB Try.prog 28 = true := by kernel_rfl
theorem fk29 : fnB Try.prog 29 = true := by kernel_rfl
theorem fk30 : fnB Try.prog 30 = true := by kernel_rfl
theorem fk35 : fnB Try.prog 35 = true := by kernel_rfl
theorem fk36 : fnB Try.prog 36 = true := by kernel_rfl
theorem fk49 : fnB Try.prog 49 = true := by kernel_rfl
theorem fk50 : fnB Try.prog 50 = true := by kernel_rfl
theorem fk75 : fnB Try.prog 75 = true := by kernel_rfl
theorem mixed : Try.prog.follows .mixedOrders = true := by kernel_rfl
theorem sz25 : sizeB Try.prog 25 = some 3 := by kernel_rfl
theorem sz28 : sizeB Try.prog 28 = some 3 := by kernel_rfl
theorem sz3 : sizeB Try.prog 3 = some 1 := by kernel_rfl
theorem sz32 : sizeB Try.prog 32 = some 1 := by kernel_rfl
theorem sz4 : sizeB Try.prog 4 = some 1 := by kernel_rfl
theorem zr28 : zeroB Try.prog 28 = some (.agg #[.int .i64 0, .slice none 0 0, .slice none 0 0]) := by kernel_rfl
theorem zr3 : zeroB Try.prog 3 = some (.int .i64 0) := by kernel_rfl
theorem zr4 : zeroB Try.prog 4 = some (.bool false) := by kernel_rfl
end TExactUsefulStatesb
open TExactUsefulStatesb

/-- spec.l11Reach -/
theorem c_spec_l11Reach {w : World} (aS : Int) {LL_aA _B_aA : Nat} {_v_aA : Value} {aA : List Bool} (_h_aA : Ls bcs 1 w LL_aA _B_aA _v_aA aA) {LL_saN _B_saN : Nat} {_v_saN : Value} {saN : List Sv} (_h_saN : Ls Sv.cs 1 w LL_saN _B_saN _v_saN saN) {LR_aN BB_aN : Nat} {aN : List (List Int)} (_rd_aN : Rd ics 1 w LR_aN BB_aN saN aN) (hv : ValidA aS aA aN) :
    Ctr Try.prog 75 #[(.agg #[(.int .i64 aS), _v_aA, _v_saN])] w (fun v w' => Ol bcs 4 1 w' v (reachL aS aA.length aN) ∧ Lo w.heap.size v ∧ Ch [] w w') := by
  obtain ⟨_A_aA, _C_aA, _e1_aA⟩ := _h_aA.val
  subst _e1_aA
  have _l_aA := _h_aA.len
  have _h_aA := _h_aA.here (by decide)
  obtain ⟨_A_saN, _C_saN, _e1_saN⟩ := _h_saN.val
  subst _e1_saN
  have _l_saN := _h_saN.len
  have _h_saN := _h_saN.here (by decide)
  have _rd_aN := _rd_aN.here (by decide)
  have _rl_aN := _rd_aN.1
  have E := Ch.refl [] w
  have hv2 := hv.2.2.1; have hv1 := hv.1; have hv0 := hv.2.1
  refine Ctr_of_W (N := 59) (vs0 := [(.agg #[(.int .i64 aS), (.slice _A_aA aA.length _C_aA), (.slice _A_saN saN.length _C_saN)])]) Try.func75 rfl rfl rfl ?_
  refine W_seq fun _K_1 _hK_1 => ?_
  refine W_region ?_
  refine WL_s rfl rfl ?_
  refine s_box rfl fun _b1 _w_2 _m1 _cw_2 _e1 => ?_
  have _cw_2z := _cw_2.size
  have E := E.trans _cw_2
  have _z1 := _m1.lt
  replace _m1 : Blk _w_2 _b1 28 [(.int .i64 aS), (.slice _A_aA aA.length _C_aA), (.slice _A_saN saN.length _C_saN)] := _m1
  refine WL_step rfl rfl (r_assign rfl) ?_
  refine WL_nil ?_
  refine thn_nrm (_hK_1 _ _ ?_)
  clear _hK_1
  refine W_seq fun _K_3 _hK_3 => ?_
  refine W_region ?_
  refine WL_step rfl rfl (r_fieldAddr fa28_1 rfl) ?_
  refine WL_step rfl rfl (r_loadAt _m1.at_ agg22 rfl rfl) ?_
  refine WL_step rfl rfl (r_len (by rw [el22]; rfl) rfl) ?_
  refine WL_s rfl rfl ?_
  refine s_make (cs := bcs) false el22 sz4 by4 zr4 bcs_len (by decide) rfl rfl (by omega) (by omega) fun _v10 _w_4 _q10 _lo10 _cw_4 => ?_
  have _cw_4z := _cw_4.size
  have E := E.trans _cw_4
  obtain ⟨_Av10, _Cv10, _ev10⟩ := _q10.val
  subst _ev10
  have _lv10 := _q10.len
  have _hiv10 := _q10.lt
  refine WL_step rfl rfl (r_assign rfl) ?_
  refine WL_nil ?_
  refine thn_nrm (_hK_3 _ _ ?_)
  clear _hK_3
  refine W_seq fun _K_5 _hK_5 => ?_
  refine W_region ?_
  refine WL_step rfl rfl (r_move rfl) ?_
  refine WL_step rfl rfl (r_fieldAddr fa28_0 rfl) ?_
  have _f_6 := (_m1.ch0 _cw_4)
  refine WL_step rfl rfl (r_loadAt _f_6.at_ agg3 rfl rfl) ?_
  refine WL_s rfl rfl ?_
  refine s_indexO (j := aS.toNat) _q10 el22 sz4 rfl rfl (by omega) (by (first | omega | (simp only [List.length_replicate, List.length_set]; omega))) fun _g14 _o14 _cp14 _q14 => ?_
  refine WL_s rfl rfl ?_
  refine s_storeO (j := aS.toNat) true _q10 _q14 bcs_len sz4 rfl rfl rfl rfl (by (first | omega | (simp only [List.length_replicate, List.length_set]; omega))) fun _w_7 _o_8 _cw_7 => ?_
  have _cw_7z := _cw_7.size
  have E := E.step _cw_7 (fun i hi => .inl (by have _h1 := _lo10 _ hi; omega))
  refine WL_nil ?_
  refine thn_nrm (_hK_5 _ _ ?_)
  clear _hK_5
  refine W_seq fun _K_9 _hK_9 => ?_
  refine W_seq fun _K_10 _hK_10 => ?_
  refine W_region ?_
  refine WL_step rfl rfl (r_assign rfl) ?_
  refine WL_nil ?_
  refine thn_nrm (_hK_10 _ _ ?_)
  clear _hK_10
  refine W_block ?_
  have _oi_11 : Ol bcs 4 1 _w_7 (.slice _Av10 ((List.replicate aA.length false)).length _Cv10) (((List.replicate aA.length false).set aS.toNat true)) := by
    have hx := _o_8
    exact hx
  have _f_12 := (_f_6.ch _cw_7 (fun hm => by have _h1 := _lo10 _ hm; have _h2 := _hiv10 _ hm; omega))
  refine W_loop (σ := Nat × List Bool) (fun ⟨j, _o1⟩ => [(1, (.pointer (some ⟨_b1, 0, none⟩))), (2, (.slice none 0 0)), (3, (.slice _Av10 ((List.replicate aA.length false)).length _Cv10)), (4, (.int .i64 ((j : Nat) : Int)))]) (fun ⟨j, _o1⟩ wx => Ch [] w wx ∧ _w_7.heap.size ≤ wx.heap.size ∧ (j ≤ aA.length) ∧ (_o1.length = aA.length) ∧ (ClBelow (ReachB aS) (BackA aN) _o1) ∧ (ClAbove (ReachB aS) (BackA aN) _o1 j) ∧ Blk wx _b1 28 [(.int .i64 aS), (.slice _A_aA aA.length _C_aA), (.slice _A_saN saN.length _C_saN)] ∧ Ol bcs 4 1 wx (.slice _Av10 ((List.replicate aA.length false)).length _Cv10) _o1) (fun ⟨j, _o1⟩ => aA.length - j) (0, ((List.replicate aA.length false).set aS.toNat true)) (Sub.cons rfl (Sub.cons rfl (Sub.cons rfl (Sub.cons rfl (Sub.nil _))))) ⟨E, (Nat.le_refl _), (by omega), (by simp), (reach_base (by omega) (by omega)), (reach_base2 (by omega) (by omega)), _f_12, _oi_11⟩ ?_
  rintro ⟨j, _o1⟩ _wr_13 ⟨E, _zz0, hj, hl1, hb1, ha1, _F0_0, _o0_3⟩
  have _E0h := E
  have _E0hz := _E0h.size
  have _F0_0z := _F0_0.lt
  refine W_seq fun _K_14 _hK_14 => ?_
  refine W_seq fun _K_15 _hK_15 => ?_
  refine W_region ?_
  refine WL_step rfl rfl (r_move rfl) ?_
  refine WL_step rfl rfl (r_fieldAddr fa28_1 rfl) ?_
  refine WL_step rfl rfl (r_loadAt _F0_0.at_ agg22 rfl rfl) ?_
  refine WL_step rfl rfl (r_len (by rw [el22]; rfl) rfl) ?_
  refine WL_step rfl rfl (r_lss rfl rfl) ?_
  refine WL_nil ?_
  refine thn_nrm (_hK_15 _ _ ?_)
  clear _hK_15
  refine W_cond rfl (fun _h19 => ?_) (fun _h19 => ?_)
  · have _kb_16 := _h19
    have _h19 := bt_d _h19
    refine W_skip ?_
    refine thn_nrm (_hK_14 _ _ ?_)
    clear _hK_14
    refine W_seq fun _K_17 _hK_17 => ?_
    refine W_block ?_
    refine W_seq fun _K_18 _hK_18 => ?_
    refine W_region ?_
    refine WL_step rfl rfl (r_assign rfl) ?_
    refine WL_nil ?_
    refine thn_nrm (_hK_18 _ _ ?_)
    clear _hK_18
    refine W_block ?_
    have _oi_19 : Ol bcs 4 1 _wr_13 (.slice _Av10 ((List.replicate aA.length false)).length _Cv10) (_o1) := by
      have hx := _o0_3
      exact hx
    refine W_loop (σ := Nat × List Bool) (fun ⟨s, _o2⟩ => [(1, (.pointer (some ⟨_b1, 0, none⟩))), (2, (.slice none 0 0)), (3, (.slice _Av10 ((List.replicate aA.length false)).length _Cv10)), (4, (.int .i64 ((j : Nat) : Int))), (5, (.int .i64 ((s : Nat) : Int))), (19, (.bool (decide (((j : Nat) : Int) < ((aA.length : Nat) : Int)))))]) (fun ⟨s, _o2⟩ wx => Ch [] w wx ∧ _wr_13.heap.size ≤ wx.heap.size ∧ (s ≤ aA.length) ∧ (_o2.length = aA.length) ∧ (ClBelow (ReachB aS) (BackA aN) _o2) ∧ (ClAbove (ReachB aS) (BackA aN) _o2 j) ∧ (FUp aS aN j _o2 s) ∧ Blk wx _b1 28 [(.int .i64 aS), (.slice _A_aA aA.length _C_aA), (.slice _A_saN saN.length _C_saN)] ∧ Ol bcs 4 1 wx (.slice _Av10 ((List.replicate aA.length false)).length _Cv10) _o2) (fun ⟨s, _o2⟩ => aA.length - s) (0, _o1) (Sub.cons rfl (Sub.cons rfl (Sub.cons rfl (Sub.cons rfl (Sub.cons rfl (Sub.cons rfl (Sub.nil _))))))) ⟨E, (Nat.le_refl _), (by omega), hl1, hb1, ha1, fup_zero, _F0_0, _oi_19⟩ ?_
    rintro ⟨s, _o2⟩ _wr_20 ⟨E, _zz1, hs, hl2, hb2, ha2, hu2, _F1_0, _o1_3⟩
    have _E1h := E
    have _E1hz := _E1h.size
    have _F1_0z := _F1_0.lt
    refine W_seq fun _K_21 _hK_21 => ?_
    refine W_seq fun _K_22 _hK_22 => ?_
    refine W_region ?_
    refine WL_step rfl rfl (r_move rfl) ?_
    refine WL_step rfl rfl (r_fieldAddr fa28_1 rfl) ?_
    refine WL_step rfl rfl (r_loadAt _F1_0.at_ agg22 rfl rfl) ?_
    refine WL_step rfl rfl (r_len (by rw [el22]; rfl) rfl) ?_
    refine WL_step rfl rfl (r_lss rfl rfl) ?_
    refine WL_nil ?_
    refine thn_nrm (_hK_22 _ _ ?_)
    clear _hK_22
    refine W_cond rfl (fun _h26 => ?_) (fun _h26 => ?_)
    · have _kb_23 := _h26
      have _h26 := bt_d _h26
      refine W_skip ?_
      refine thn_nrm (_hK_21 _ _ ?_)
      clear _hK_21
      refine W_seq fun _K_24 _hK_24 => ?_
      refine W_block ?_
      refine W_seq fun _K_25 _hK_25 => ?_
      refine W_region ?_
      refine WL_step rfl rfl (r_assign rfl) ?_
      refine WL_nil ?_
      refine thn_nrm (_hK_25 _ _ ?_)
      clear _hK_25
      refine W_block ?_
      have _oi_26 : Ol bcs 4 1 _wr_20 (.slice _Av10 ((List.replicate aA.length false)).length _Cv10) (_o2) := by
        have hx := _o1_3
        exact hx
      refine W_loop (σ := Nat × List Bool) (fun ⟨k, _o3⟩ => [(1, (.pointer (some ⟨_b1, 0, none⟩))), (2, (.slice none 0 0)), (3, (.slice _Av10 ((List.replicate aA.length false)).length _Cv10)), (4, (.int .i64 ((j : Nat) : Int))), (5, (.int .i64 ((s : Nat) : Int))), (6, (.int .i64 ((k : Nat) : Int))), (19, (.bool (decide (((j : Nat) : Int) < ((aA.length : Nat) : Int))))), (26, (.bool (decide (((s : Nat) : Int) < ((aA.length : Nat) : Int)))))]) (fun ⟨k, _o3⟩ wx => Ch [] w wx ∧ _wr_20.heap.size ≤ wx.heap.size ∧ (k ≤ 9) ∧ (_o3.length = aA.length) ∧ (ClBelow (ReachB aS) (BackA aN) _o3) ∧ (ClAbove (ReachB aS) (BackA aN) _o3 j) ∧ (FUp aS aN j _o3 s) ∧ (FRow aS aN j _o3 s k) ∧ Blk wx _b1 28 [(.int .i64 aS), (.slice _A_aA aA.length _C_aA), (.slice _A_saN saN.length _C_saN)] ∧ Ol bcs 4 1 wx (.slice _Av10 ((List.replicate aA.length false)).length _Cv10) _o3) (fun ⟨k, _o3⟩ => 9 - k) (0, _o2) (Sub.cons rfl (Sub.cons rfl (Sub.cons rfl (Sub.cons rfl (Sub.cons rfl (Sub.cons rfl (Sub.cons rfl (Sub.cons rfl (Sub.nil _))))))))) ⟨E, (Nat.le_refl _), (by omega), hl2, hb2, ha2, hu2, frow_zero, _F1_0, _oi_26⟩ ?_
      rintro ⟨k, _o3⟩ _wr_27 ⟨E, _zz2, _hk, hl3, hb3, ha3, hu3, hr3, _F2_0, _o2_3⟩
      have _E2h := E
      have _E2hz := _E2h.size
      have _F2_0z := _F2_0.lt
      refine W_seq fun _K_28 _hK_28 => ?_
      refine W_seq fun _K_29 _hK_29 => ?_
      refine W_region ?_
      refine WL_step rfl rfl (r_move rfl) ?_
      refine WL_step rfl rfl (r_lss rfl rfl) ?_
      refine WL_nil ?_
      refine thn_nrm (_hK_29 _ _ ?_)
      clear _hK_29
      refine W_cond rfl (fun _h30 => ?_) (fun _h30 => ?_)
      · have _kb_30 := _h30
        have _h30 := bt_d _h30
        refine W_skip ?_
        refine thn_nrm (_hK_28 _ _ ?_)
        clear _hK_28
        refine W_seq fun _K_31 _hK_31 => ?_
        refine W_block ?_
        refine W_seq fun _K_32 _hK_32 => ?_
        refine W_region ?_
        refine WL_step rfl rfl (r_move rfl) ?_
        refine WL_step rfl rfl (r_move rfl) ?_
        refine WL_s rfl rfl ?_
        refine (s_index _o2_3.ls bcs_len el22 sz4 rfl rfl rfl (by omega) fun _p35 _y35 _hy35 _a35 => ?_)
        refine WL_step rfl rfl (r_loadAt0 _a35 agg4 rfl rfl) ?_
        refine WL_step rfl rfl (r_move rfl) ?_
        refine WL_split (d := 37) rfl (fun _h37 => ?_) (fun _h37 => ?_)
        · have _kb_33 := _h37
          refine WL_step rfl rfl (r_fieldAddr fa28_2 rfl) ?_
          refine WL_step rfl rfl (r_loadAt _F2_0.at_ agg23 rfl rfl) ?_
          refine WL_step rfl rfl (r_move rfl) ?_
          refine WL_s rfl rfl ?_
          have _f_34 := (_h_saN.ch0 _E2h)
          refine (s_index _f_34 Sv.len el23 sz32 rfl rfl rfl (by omega) fun _p41 _y41 _hy41 _a41 => ?_)
          have _f_35 := (_rd_aN.ch0 _E2h)
          obtain ⟨_ys41, _hys41, _fs41⟩ := _f_35.get _hy41
          obtain ⟨_A41, _n41, _C41⟩ := _y41
          obtain rfl := _fs41.eqn
          have _l41 := _fs41.len
          replace _fs41 : Ls ics 1 _wr_27 LR_aN w.heap.size (.slice _A41 _ys41.length _C41) _ys41 := _fs41
          replace _a41 : At _wr_27 LL_saN w.heap.size _p41 ([(.slice _A41 _ys41.length _C41)]) := _a41
          have _e41 := (fits_row hv.2 _hys41).1
          refine WL_step rfl rfl (r_loadAt0 _a41 agg32 rfl rfl) ?_
          refine WL_step rfl rfl (r_move rfl) ?_
          refine WL_s rfl rfl ?_
          refine (s_index _fs41 ics_len el32 sz3 rfl rfl rfl (by omega) fun _p44 _y44 _hy44 _a44 => ?_)
          have f44 := fits_el hv.2 _hys41 _hy44
          refine WL_step rfl rfl (r_loadAt0 _a44 agg3 rfl rfl) ?_
          refine WL_step rfl rfl (r_geq rfl rfl) ?_
          refine WL_step rfl rfl (r_pickT rfl rfl) ?_
          refine WL_nil ?_
          refine thn_nrm (_hK_32 _ _ ?_)
          clear _hK_32
          refine W_cond rfl (fun _h47 => ?_) (fun _h47 => ?_)
          · have _kb_36 := _h47
            have _h47 := bt_d _h47
            refine W_region ?_
            refine WL_step rfl rfl (r_move rfl) ?_
            refine WL_step rfl rfl (r_fieldAddr fa28_2 rfl) ?_
            refine WL_step rfl rfl (r_loadAt _F2_0.at_ agg23 rfl rfl) ?_
            refine WL_step rfl rfl (r_move rfl) ?_
            refine WL_s rfl rfl ?_
            refine (s_index _f_34 Sv.len el23 sz32 rfl rfl rfl (by omega) fun _p52 _y52 _hy52 _a52 => ?_)
            obtain ⟨_ys52, _hys52, _fs52⟩ := _f_35.get _hy52
            obtain ⟨_A52, _n52, _C52⟩ := _y52
            obtain rfl := _fs52.eqn
            have _l52 := _fs52.len
            replace _fs52 : Ls ics 1 _wr_27 LR_aN w.heap.size (.slice _A52 _ys52.length _C52) _ys52 := _fs52
            replace _a52 : At _wr_27 LL_saN w.heap.size _p52 ([(.slice _A52 _ys52.length _C52)]) := _a52
            have _e52 := (fits_row hv.2 _hys52).1
            refine WL_step rfl rfl (r_loadAt0 _a52 agg32 rfl rfl) ?_
            refine WL_step rfl rfl (r_move rfl) ?_
            refine WL_s rfl rfl ?_
            refine (s_index _fs52 ics_len el32 sz3 rfl rfl rfl (by omega) fun _p55 _y55 _hy55 _a55 => ?_)
            have _e55 := get_uniq _hy44 ((get_uniq _hys52 _hys41) ▸ _hy55)
            have f55 := fits_el hv.2 _hys52 _hy55
            refine WL_step rfl rfl (r_loadAt0 _a55 agg3 rfl rfl) ?_
            refine WL_s rfl rfl ?_
            refine s_indexO (j := _y55.toNat) _o2_3 el22 sz4 rfl rfl (by omega) (by (first | omega | (simp only [List.length_replicate, List.length_set]; omega))) fun _g57 _o57 _cp57 _q57 => ?_
            refine WL_s rfl rfl ?_
            refine s_storeO (j := _y55.toNat) true _o2_3 _q57 bcs_len sz4 rfl rfl rfl rfl (by (first | omega | (simp only [List.length_replicate, List.length_set]; omega))) fun _w_37 _o_38 _cw_37 => ?_
            have _cw_37z := _cw_37.size
            have E := E.step _cw_37 (fun i hi => .inl (by have _h1 := _lo10 _ hi; omega))
            refine WL_nil ?_
            refine inB_nrm ?_
            refine thn_nrm (_hK_31 _ _ ?_)
            clear _hK_31
            refine W_region ?_
            refine WL_step rfl rfl (r_move rfl) ?_
            refine WL_step rfl rfl (r_add (by omega) rfl rfl) ?_
            refine WL_step rfl rfl (r_assign rfl) ?_
            refine WL_nil ?_
            have _on_39 : Ol bcs 4 1 _w_37 (.slice _Av10 ((List.replicate aA.length false)).length _Cv10) ((_o3.set _y55.toNat true)) := by
              have hx := _o_38
              exact hx
            have _f_40 := (_F2_0.ch _cw_37 (fun hm => by have _h1 := _lo10 _ hm; have _h2 := _hiv10 _ hm; omega))
            exact thn_nrm (Exists.intro ((k + 1), (_o3.set _y55.toNat true)) ⟨⟨E, (by omega), (by omega), (by first | exact hl3 | simpa using hl3), (by first | exact hb3 | exact set_below hb3 (.step (show BackA aN _y55.toNat s from ⟨k, _ys52, _hys52, by rw [_hy55, Int.toNat_of_nonneg (by omega)]⟩) (hb3 _ (by rw [_hy35, show _y35 = true from _h37])))), (by first | exact ha3 | exact set_above ha3), (by first | exact hu3 | exact fup_set hu3), (by first | exact frow_hit hr3 _hys52 _hy55 (by omega) (by omega) | exact frow_miss hr3 _hys41 _hy44 (fun t e _ => by omega) ha3 | exact frow_any hr3 (fun q => by rw [_hy35, _h37] at q; cases q) ha3), _f_40, _on_39⟩, Sub.cons rfl (Sub.cons rfl (Sub.cons rfl (Sub.cons rfl (Sub.cons rfl (Sub.cons rfl (Sub.cons rfl (Sub.cons rfl (Sub.nil _)))))))), (by first | omega | (dsimp only; omega))⟩)
          · have _kb_36 := _h47
            have _h47 := bf_d _h47
            refine W_skip ?_
            refine inB_nrm ?_
            refine thn_nrm (_hK_31 _ _ ?_)
            clear _hK_31
            refine W_region ?_
            refine WL_step rfl rfl (r_move rfl) ?_
            refine WL_step rfl rfl (r_add (by omega) rfl rfl) ?_
            refine WL_step rfl rfl (r_assign rfl) ?_
            refine WL_nil ?_
            have _on_41 : Ol bcs 4 1 _wr_27 (.slice _Av10 ((List.replicate aA.length false)).length _Cv10) (_o3) := by
              have hx := _o2_3
              exact hx
            exact thn_nrm (Exists.intro ((k + 1), _o3) ⟨⟨E, (by omega), (by omega), (by first | exact hl3 | simpa using hl3), (by first | exact hb3 | exact set_below hb3 (.step (show BackA aN _y55.toNat s from ⟨k, _ys52, _hys52, by rw [_hy55, Int.toNat_of_nonneg (by omega)]⟩) (hb3 _ (by rw [_hy35, show _y35 = true from _h37])))), (by first | exact ha3 | exact set_above ha3), (by first | exact hu3 | exact fup_set hu3), (by first | exact frow_hit hr3 _hys52 _hy55 (by omega) (by omega) | exact frow_miss hr3 _hys41 _hy44 (fun t e _ => by omega) ha3 | exact frow_any hr3 (fun q => by rw [_hy35, _h37] at q; cases q) ha3), _F2_0, _on_41⟩, Sub.cons rfl (Sub.cons rfl (Sub.cons rfl (Sub.cons rfl (Sub.cons rfl (Sub.cons rfl (Sub.cons rfl (Sub.cons rfl (Sub.nil _)))))))), (by first | omega | (dsimp only; omega))⟩)
        · have _kb_33 := _h37
          refine WL_skip rfl rfl ?_
          refine WL_skip rfl rfl ?_
          refine WL_skip rfl rfl ?_
          refine WL_skip rfl rfl ?_
          refine WL_skip rfl rfl ?_
          refine WL_skip rfl rfl ?_
          refine WL_skip rfl rfl ?_
          refine WL_skip rfl rfl ?_
          refine WL_skip rfl rfl ?_
          refine WL_step rfl rfl (r_pickF rfl rfl) ?_
          refine WL_nil ?_
          refine thn_nrm (_hK_32 _ _ ?_)
          clear _hK_32
          refine W_condF rfl ?_
          refine W_skip ?_
          refine inB_nrm ?_
          refine thn_nrm (_hK_31 _ _ ?_)
          clear _hK_31
          refine W_region ?_
          refine WL_step rfl rfl (r_move rfl) ?_
          refine WL_step rfl rfl (r_add (by omega) rfl rfl) ?_
          refine WL_step rfl rfl (r_assign rfl) ?_
          refine WL_nil ?_
          have _on_42 : Ol bcs 4 1 _wr_27 (.slice _Av10 ((List.replicate aA.length false)).length _Cv10) (_o3) := by
            have hx := _o2_3
            exact hx
          exact thn_nrm (Exists.intro ((k + 1), _o3) ⟨⟨E, (by omega), (by omega), (by first | exact hl3 | simpa using hl3), (by first | exact hb3 | exact set_below hb3 (.step (show BackA aN _y55.toNat s from ⟨k, _ys52, _hys52, by rw [_hy55, Int.toNat_of_nonneg (by omega)]⟩) (hb3 _ (by rw [_hy35, show _y35 = true from _h37])))), (by first | exact ha3 | exact set_above ha3), (by first | exact hu3 | exact fup_set hu3), (by first | exact frow_hit hr3 _hys52 _hy55 (by omega) (by omega) | exact frow_miss hr3 _hys41 _hy44 (fun t e _ => by omega) ha3 | exact frow_any hr3 (fun q => by rw [_hy35, _h37] at q; cases q) ha3), _F2_0, _on_42⟩, Sub.cons rfl (Sub.cons rfl (Sub.cons rfl (Sub.cons rfl (Sub.cons rfl (Sub.cons rfl (Sub.cons rfl (Sub.cons rfl (Sub.nil _)))))))), (by first | omega | (dsimp only; omega))⟩)
      · have _kb_30 := _h30
        have _h30 := bf_d _h30
        refine W_exit (thn_exit (thn_exit (inB_hit ?_)))
        refine inB_nrm ?_
        refine thn_nrm (_hK_24 _ _ ?_)
        clear _hK_24
        refine W_region ?_
        refine WL_step rfl rfl (r_move rfl) ?_
        refine WL_step rfl rfl (r_add (by omega) rfl rfl) ?_
        refine WL_step rfl rfl (r_assign rfl) ?_
        refine WL_nil ?_
        have _on_43 : Ol bcs 4 1 _wr_27 (.slice _Av10 ((List.replicate aA.length false)).length _Cv10) (_o3) := by
          have hx := _o2_3
          exact hx
        exact thn_nrm (Exists.intro ((s + 1), _o3) ⟨⟨E, (by omega), (by omega), hl3, hb3, ha3, (fup_row hu3 hr3 (fun r hr => by have _h1 := (fits_row hv.2 hr).1; omega)), _F2_0, _on_43⟩, Sub.cons rfl (Sub.cons rfl (Sub.cons rfl (Sub.cons rfl (Sub.cons rfl (Sub.cons rfl (Sub.nil _)))))), (by first | omega | (dsimp only; omega))⟩)
    · have _kb_23 := _h26
      have _h26 := bf_d _h26
      refine W_exit (thn_exit (thn_exit (inB_hit ?_)))
      refine inB_nrm ?_
      refine thn_nrm (_hK_17 _ _ ?_)
      clear _hK_17
      refine W_region ?_
      refine WL_step rfl rfl (r_move rfl) ?_
      refine WL_step rfl rfl (r_add (by omega) rfl rfl) ?_
      refine WL_step rfl rfl (r_assign rfl) ?_
      refine WL_nil ?_
      have _on_44 : Ol bcs 4 1 _wr_20 (.slice _Av10 ((List.replicate aA.length false)).length _Cv10) (_o2) := by
        have hx := _o1_3
        exact hx
      exact thn_nrm (Exists.intro ((j + 1), _o2) ⟨⟨E, (by omega), (by omega), hl2, hb2, (fround_up ha2 hu2 (by omega)), _F1_0, _on_44⟩, Sub.cons rfl (Sub.cons rfl (Sub.cons rfl (Sub.cons rfl (Sub.nil _)))), (by first | omega | (dsimp only; omega))⟩)
  · have _kb_16 := _h19
    have _h19 := bf_d _h19
    refine W_exit (thn_exit (thn_exit (inB_hit ?_)))
    refine thn_nrm (_hK_9 _ _ ?_)
    clear _hK_9
    refine W_seq fun _K_45 _hK_45 => ?_
    refine W_region ?_
    refine WL_step rfl rfl (r_move rfl) ?_
    refine WL_step rfl rfl (r_assign rfl) ?_
    refine WL_nil ?_
    refine thn_nrm (_hK_45 _ _ ?_)
    clear _hK_45
    refine W_ret ?_
    clear _hK_14
    have _o_46 : Ol bcs 4 1 _wr_13 (.slice _Av10 ((List.replicate aA.length false)).length _Cv10) (reachL aS aA.length aN) := by
      have hx := _o0_3
      exact hx.eq (reach_of_rounds hv.2 hl1 hb1 ha1 (by omega))
    exact ret_intro [_] ⟨rfl, trivial⟩ ⟨_o_46, Lo.down _lo10 (by omega), E⟩

/-- spec.UsefulStates -/
theorem c_spec_UsefulStates {w : World} (aS : Int) {LL_aA _B_aA : Nat} {_v_aA : Value} {aA : List Bool} (_h_aA : Ls bcs 1 w LL_aA _B_aA _v_aA aA) {LL_saN _B_saN : Nat} {_v_saN : Value} {saN : List Sv} (_h_saN : Ls Sv.cs 1 w LL_saN _B_saN _v_saN saN) {LR_aN BB_aN : Nat} {aN : List (List Int)} (_rd_aN : Rd ics 1 w LR_aN BB_aN saN aN) :
    Ctr Try.prog 35 #[(.agg #[(.int .i64 aS), _v_aA, _v_saN])] w (fun v w' => Ol ics 3 1 w' v (usfR aS aA aN) ∧ Lo w.heap.size v ∧ Ch [] w w') := by
  obtain ⟨_A_aA, _C_aA, _e1_aA⟩ := _h_aA.val
  subst _e1_aA
  have _l_aA := _h_aA.len
  have _h_aA := _h_aA.here (by decide)
  obtain ⟨_A_saN, _C_saN, _e1_saN⟩ := _h_saN.val
  subst _e1_saN
  have _l_saN := _h_saN.len
  have _h_saN := _h_saN.here (by decide)
  have _rd_aN := _rd_aN.here (by decide)
  have _rl_aN := _rd_aN.1
  have E := Ch.refl [] w
  refine Ctr_of_W (N := 38) (vs0 := [(.agg #[(.int .i64 aS), (.slice _A_aA aA.length _C_aA), (.slice _A_saN saN.length _C_saN)])]) Try.func35 rfl rfl rfl ?_
  refine W_seq fun _K_1 _hK_1 => ?_
  refine W_region ?_
  refine WL_s rfl rfl ?_
  refine s_box rfl fun _b1 _w_2 _m1 _cw_2 _e1 => ?_
  have _cw_2z := _cw_2.size
  have E := E.trans _cw_2
  have _z1 := _m1.lt
  replace _m1 : Blk _w_2 _b1 28 [(.int .i64 aS), (.slice _A_aA aA.length _C_aA), (.slice _A_saN saN.length _C_saN)] := _m1
  refine WL_step rfl rfl (r_assign rfl) ?_
  refine WL_nil ?_
  refine thn_nrm (_hK_1 _ _ ?_)
  clear _hK_1
  refine W_seq fun _K_3 _hK_3 => ?_
  refine W_region ?_
  refine WL_s rfl rfl ?_
  refine s_buildSlice0 (k := 1) ics el32 sz3 fun _v7 _w_4 _q7 _lo7 _cw_4 => ?_
  have _cw_4z := _cw_4.size
  have E := E.trans _cw_4
  obtain ⟨_Av7, _Cv7, _ev7⟩ := _q7.val
  subst _ev7
  have _lv7 := _q7.len
  have _hiv7 := _q7.lt
  refine WL_step rfl rfl (r_assign rfl) ?_
  refine WL_nil ?_
  refine thn_nrm (_hK_3 _ _ ?_)
  clear _hK_3
  refine W_seq fun _K_5 _hK_5 => ?_
  refine W_seq fun _K_6 _hK_6 => ?_
  refine W_region ?_
  have _f_7 := (_m1.ch0 _cw_4)
  refine WL_step rfl rfl (r_loadAtA0 _f_7.at_ agg28 sz28 rfl) ?_
  refine WL_s rfl rfl ?_
  have _f_8 := ((_h_aA.ch0 _cw_2).ch0 _cw_4)
  have _f_9 := ((_rd_aN.ch0 _cw_2).ch0 _cw_4)
  have _f_10 := ((_h_saN.ch0 _cw_2).ch0 _cw_4)
  refine Step.call (r_call (xs := [.tmp 8]) fk49 rfl) (c_spec_IsValidAutomaton _ _f_8 _f_10 _f_9 ) fun _v9 _w_11 _q9 => ?_
  obtain ⟨rfl, _cw_11⟩ := _q9
  have _cw_11z := _cw_11.size
  have E := E.trans _cw_11
  refine WL_step rfl rfl (r_not rfl) ?_
  refine WL_nil ?_
  refine thn_nrm (_hK_6 _ _ ?_)
  clear _hK_6
  refine W_cond rfl (fun _h10 => ?_) (fun _h10 => ?_)
  · have _kb_12 := _h10
    have _h10 := bf_t (bt_n _h10)
    refine W_seq fun _K_13 _hK_13 => ?_
    refine W_region ?_
    refine WL_step rfl rfl (r_move rfl) ?_
    refine WL_step rfl rfl (r_assign rfl) ?_
    refine WL_nil ?_
    refine thn_nrm (_hK_13 _ _ ?_)
    clear _hK_13
    refine W_ret (thn_ret ?_)
    clear _hK_5
    have _f_14 := (_q7.ch0 _cw_11)
    have _o_15 : Ol ics 3 1 _w_11 (.slice _Av7 (([] : List Int)).length _Cv7) (usfR aS aA aN) := by
      have hx := _f_14
      first | exact hx.eq (usfR_n _h10) | exact hx.eq (usfR_y _h10 (by omega))
    exact ret_intro [_] ⟨rfl, trivial⟩ ⟨_o_15, Lo.down _lo7 (by omega), E⟩
  · have _kb_12 := _h10
    have _h10 := bt_t (bf_n _h10)
    refine W_skip ?_
    refine thn_nrm (_hK_5 _ _ ?_)
    clear _hK_5
    refine W_seq fun _K_16 _hK_16 => ?_
    refine W_region ?_
    have _f_17 := (_f_7.ch0 _cw_11)
    refine WL_step rfl rfl (r_loadAtA0 _f_17.at_ agg28 sz28 rfl) ?_
    refine WL_s rfl rfl ?_
    have _f_18 := (_f_8.ch0 _cw_11)
    have _f_19 := (_f_9.ch0 _cw_11)
    have _f_20 := (_f_10.ch0 _cw_11)
    refine Step.call (r_call (xs := [.tmp 12]) fk75 rfl) (c_spec_l11Reach _ _f_18 _f_20 _f_19 _h10) fun _v13 _w_21 _q13 => ?_
    obtain ⟨_q13, _lo13, _cw_21⟩ := _q13
    have _cw_21z := _cw_21.size
    have E := E.trans _cw_21
    obtain ⟨_Av13, _Cv13, _ev13⟩ := _q13.val
    subst _ev13
    have _lv13 := _q13.len
    have _hiv13 := _q13.lt
    have _e13 := reachL_len aS aA.length aN
    refine WL_step rfl rfl (r_assign rfl) ?_
    refine WL_nil ?_
    refine thn_nrm (_hK_16 _ _ ?_)
    clear _hK_16
    refine W_seq fun _K_22 _hK_22 => ?_
    refine W_region ?_
    have _f_23 := (_f_17.ch0 _cw_21)
    refine WL_step rfl rfl (r_loadAtA0 _f_23.at_ agg28 sz28 rfl) ?_
    refine WL_s rfl rfl ?_
    have _f_24 := (_f_18.ch0 _cw_21)
    have _f_25 := (_f_19.ch0 _cw_21)
    have _f_26 := (_f_20.ch0 _cw_21)
    refine Step.call (r_call (xs := [.tmp 14]) fk50 rfl) (c_spec_l11Live _ _f_24 _f_26 _f_25 _h10) fun _v15 _w_27 _q15 => ?_
    obtain ⟨_q15, _lo15, _cw_27⟩ := _q15
    have _cw_27z := _cw_27.size
    have E := E.trans _cw_27
    obtain ⟨_Av15, _Cv15, _ev15⟩ := _q15.val
    subst _ev15
    have _lv15 := _q15.len
    have _hiv15 := _q15.lt
    have _e15 := liveL_len aA aN
    refine WL_step rfl rfl (r_assign rfl) ?_
    refine WL_nil ?_
    refine thn_nrm (_hK_22 _ _ ?_)
    clear _hK_22
    refine W_seq fun _K_28 _hK_28 => ?_
    refine W_seq fun _K_29 _hK_29 => ?_
    refine W_region ?_
    refine WL_step rfl rfl (r_assign rfl) ?_
    refine WL_nil ?_
    refine thn_nrm (_hK_29 _ _ ?_)
    clear _hK_29
    refine W_block ?_
    have _f_30 := (((_q7.ch0 _cw_11).ch0 _cw_21).ch0 _cw_27)
    have _oi_31 : Ol ics 3 1 _w_27 (.slice _Av7 (([] : List Int)).length _Cv7) (usfP aS aA aN 0) := by
      have hx := _f_30
      simpa [usfP] using hx
    have _f_32 := (_f_23.ch0 _cw_27)
    have _f_33 := (_f_24.ch0 _cw_27)
    have _f_34 := (_f_26.ch0 _cw_27)
    have _f_35 := (_f_25.ch0 _cw_27)
    have _f_36 := (_q13.ch0 _cw_27)
    refine W_loop (σ := Nat × Value) (fun ⟨k, sv⟩ => [(1, (.pointer (some ⟨_b1, 0, none⟩))), (2, (.slice none 0 0)), (3, sv), (4, (.slice _Av13 (reachL aS aA.length aN).length _Cv13)), (5, (.slice _Av15 (liveL aA aN).length _Cv15)), (6, (.int .i64 ((k : Nat) : Int)))]) (fun ⟨k, sv⟩ wx => Ch [] w wx ∧ _w_27.heap.size ≤ wx.heap.size ∧ (k ≤ aA.length) ∧ Blk wx _b1 28 [(.int .i64 aS), (.slice _A_aA aA.length _C_aA), (.slice _A_saN saN.length _C_saN)] ∧ Ls bcs 1 wx LL_aA w.heap.size (.slice _A_aA aA.length _C_aA) aA ∧ Ls Sv.cs 1 wx LL_saN w.heap.size (.slice _A_saN saN.length _C_saN) saN ∧ Rd ics 1 wx LR_aN w.heap.size saN aN ∧ Ol bcs 4 1 wx (.slice _Av13 (reachL aS aA.length aN).length _Cv13) (reachL aS aA.length aN) ∧ Ol bcs 4 1 wx (.slice _Av15 (liveL aA aN).length _Cv15) (liveL aA aN) ∧ Ol ics 3 1 wx sv (usfP aS aA aN k) ∧ Lo _w_2.heap.size sv ∧ (∀ g ∈ bl sv, g ∉ bl (.slice _Av13 (reachL aS aA.length aN).length _Cv13)) ∧ (∀ g ∈ bl sv, g ∉ bl (.slice _Av15 (liveL aA aN).length _Cv15))) (fun ⟨k, sv⟩ => aA.length - k) (0, (.slice _Av7 (([] : List Int)).length _Cv7)) (Sub.cons rfl (Sub.cons rfl (Sub.cons rfl (Sub.cons rfl (Sub.cons rfl (Sub.cons rfl (Sub.nil _))))))) ⟨E, (Nat.le_refl _), (by omega), _f_32, _f_33, _f_34, _f_35, _f_36, _q15, _oi_31, _lo7, (fun g hm hg => by have _h1 := _lo7 _ hm; have _h2 := _hiv7 _ hm; have _h3 := _lo13 _ hg; have _h4 := _hiv13 _ hg; omega), (fun g hm hg => by have _h1 := _lo7 _ hm; have _h2 := _hiv7 _ hm; have _h3 := _lo15 _ hg; have _h4 := _hiv15 _ hg; omega)⟩ ?_
    rintro ⟨k, sv⟩ _wr_37 ⟨E, _zz0, _hk, _F0_0, _F0_1, _F0_2, _F0_3, _F0_4, _F0_5, _o0_3, _lo0_3, _djl0_3_13, _djl0_3_15⟩
    have _E0h := E
    have _E0hz := _E0h.size
    have _F0_0z := _F0_0.lt
    obtain ⟨Asv, Csv, esv⟩ := _o0_3.val
    subst esv
    have lsv := _o0_3.len
    have hisv := _o0_3.lt
    have _v12 := _h10.1
    refine W_seq fun _K_38 _hK_38 => ?_
    refine W_seq fun _K_39 _hK_39 => ?_
    refine W_region ?_
    refine WL_step rfl rfl (r_move rfl) ?_
    refine WL_step rfl rfl (r_fieldAddr fa28_1 rfl) ?_
    refine WL_step rfl rfl (r_loadAt _F0_0.at_ agg22 rfl rfl) ?_
    refine WL_step rfl rfl (r_len (by rw [el22]; rfl) rfl) ?_
    refine WL_step rfl rfl (r_lss rfl rfl) ?_
    refine WL_nil ?_
    refine thn_nrm (_hK_39 _ _ ?_)
    clear _hK_39
    refine W_cond rfl (fun _h20 => ?_) (fun _h20 => ?_)
    · have _kb_40 := _h20
      have _h20 := bt_d _h20
      refine W_skip ?_
      refine thn_nrm (_hK_38 _ _ ?_)
      clear _hK_38
      refine W_seq fun _K_41 _hK_41 => ?_
      refine W_block ?_
      refine W_seq fun _K_42 _hK_42 => ?_
      refine W_region ?_
      refine WL_step rfl rfl (r_move rfl) ?_
      refine WL_step rfl rfl (r_move rfl) ?_
      refine WL_s rfl rfl ?_
      refine (s_index _F0_4.ls bcs_len el22 sz4 rfl rfl rfl (by omega) fun _p25 _y25 _hy25 _a25 => ?_)
      refine WL_step rfl rfl (r_loadAt0 _a25 agg4 rfl rfl) ?_
      refine WL_step rfl rfl (r_move rfl) ?_
      refine WL_split (d := 27) rfl (fun _h27 => ?_) (fun _h27 => ?_)
      · have _kb_43 := _h27
        refine WL_step rfl rfl (r_move rfl) ?_
        refine WL_step rfl rfl (r_move rfl) ?_
        refine WL_s rfl rfl ?_
        refine (s_index _F0_5.ls bcs_len el22 sz4 rfl rfl rfl (by omega) fun _p30 _y30 _hy30 _a30 => ?_)
        refine WL_step rfl rfl (r_loadAt0 _a30 agg4 rfl rfl) ?_
        refine WL_step rfl rfl (r_pickT rfl rfl) ?_
        refine WL_nil ?_
        refine thn_nrm (_hK_42 _ _ ?_)
        clear _hK_42
        refine W_cond rfl (fun _h32 => ?_) (fun _h32 => ?_)
        · have _kb_44 := _h32
          refine W_region ?_
          refine WL_step rfl rfl (r_move rfl) ?_
          refine WL_step rfl rfl (r_move rfl) ?_
          refine WL_s rfl rfl ?_
          refine s_buildSlice (cs := ics) (parts := [(0, .tmp 34)]) (0 : Int) [((k : Nat) : Int)] el32 sz3 zr3 ics_len (by decide) rfl rfl rfl (by decide) (by decide) rfl fun _v35 _w_45 _q35 _lo35 _cw_45 => ?_
          have _cw_45z := _cw_45.size
          have E := E.trans _cw_45
          obtain ⟨_Av35, _Cv35, _ev35⟩ := _q35.val
          subst _ev35
          have _lv35 := _q35.len
          have _hiv35 := _q35.lt
          refine WL_s rfl rfl ?_
          have _f_47 := (_o0_3.ch0 _cw_45)
          refine s_append (cs := ics) el32 sz3 by3 zr3 rfl (by decide) ics_one _f_47 _q35.ls rfl rfl (by have _h9 := usfP_len aS aA aN k; simp only [List.length_singleton]; omega) (by have _h9 := usfP_len aS aA aN k; simp only [List.length_singleton]; omega) _lo0_3 (by omega) fun _v36 _w_46 _q36 _lo36 _ap36 _cw_46 => ?_
          have _cw_46z := _cw_46.size
          have E := E.step _cw_46 (fun i hi => .inl (by have _h1 := _lo0_3 _ hi; omega))
          obtain ⟨_Av36, _Cv36, _ev36⟩ := _q36.val
          subst _ev36
          have _lv36 := _q36.len
          have _hiv36 := _q36.lt
          refine WL_step rfl rfl (r_assign rfl) ?_
          refine WL_nil ?_
          refine inB_nrm ?_
          refine thn_nrm (_hK_41 _ _ ?_)
          clear _hK_41
          refine W_region ?_
          refine WL_step rfl rfl (r_move rfl) ?_
          refine WL_step rfl rfl (r_add (by omega) rfl rfl) ?_
          refine WL_step rfl rfl (r_assign rfl) ?_
          refine WL_nil ?_
          have _on_48 : Ol ics 3 1 _w_46 (.slice _Av36 ((usfP aS aA aN k ++ [((k : Nat) : Int)])).length _Cv36) (usfP aS aA aN (k + 1)) := by
            have hx := _q36
            first | exact hx.eq (usf_y _hy25 _hy30 (by assumption) (by assumption)) | exact hx.eq (usf_n1 _hy25 (by assumption) (by omega)) | exact hx.eq (usf_n2 _hy30 (by assumption) (by omega))
          have _f_49 := ((_F0_0.ch0 _cw_45).ch _cw_46 (fun hm => by have _h1 := _lo0_3 _ hm; have _h2 := hisv _ hm; omega))
          have _f_50 := ((_F0_1.ch0 _cw_45).ch _cw_46 (fun i hi => by have _h1 := _lo0_3 _ hi; omega))
          have _f_51 := ((_F0_2.ch0 _cw_45).ch _cw_46 (fun i hi => by have _h1 := _lo0_3 _ hi; omega))
          have _f_52 := ((_F0_3.ch0 _cw_45).ch _cw_46 (fun i hi => by have _h1 := _lo0_3 _ hi; omega))
          have _f_53 := ((_F0_4.ch0 _cw_45).ch _cw_46 (fun g hg hm => by exact _djl0_3_13 _ hm hg))
          have _f_54 := ((_F0_5.ch0 _cw_45).ch _cw_46 (fun g hg hm => by exact _djl0_3_15 _ hm hg))
          exact thn_nrm (Exists.intro ((k + 1), (.slice _Av36 ((usfP aS aA aN k ++ [((k : Nat) : Int)])).length _Cv36)) ⟨⟨E, (by omega), (by omega), _f_49, _f_50, _f_51, _f_52, _f_53, _f_54, _on_48, (Lo.down _lo36 (by omega)), (fun g hm hg => by rcases _ap36 with ea | ea; (rw [ea] at hm; exact _djl0_3_13 _ hm hg); (rw [ea] at hm; have _z1 := List.mem_singleton.1 hm; have _h3 := _lo13 _ hg; have _h4 := _hiv13 _ hg; omega)), (fun g hm hg => by rcases _ap36 with ea | ea; (rw [ea] at hm; exact _djl0_3_15 _ hm hg); (rw [ea] at hm; have _z1 := List.mem_singleton.1 hm; have _h3 := _lo15 _ hg; have _h4 := _hiv15 _ hg; omega))⟩, Sub.cons rfl (Sub.cons rfl (Sub.cons rfl (Sub.cons rfl (Sub.cons rfl (Sub.cons rfl (Sub.nil _)))))), (by first | omega | (dsimp only; omega))⟩)
        · have _kb_44 := _h32
          refine W_skip ?_
          refine inB_nrm ?_
          refine thn_nrm (_hK_41 _ _ ?_)
          clear _hK_41
          refine W_region ?_
          refine WL_step rfl rfl (r_move rfl) ?_
          refine WL_step rfl rfl (r_add (by omega) rfl rfl) ?_
          refine WL_step rfl rfl (r_assign rfl) ?_
          refine WL_nil ?_
          have _on_55 : Ol ics 3 1 _wr_37 (.slice Asv (usfP aS aA aN k).length Csv) (usfP aS aA aN (k + 1)) := by
            have hx := _o0_3
            first | exact hx.eq (usf_y _hy25 _hy30 (by assumption) (by assumption)) | exact hx.eq (usf_n1 _hy25 (by assumption) (by omega)) | exact hx.eq (usf_n2 _hy30 (by assumption) (by omega))
          exact thn_nrm (Exists.intro ((k + 1), (.slice Asv (usfP aS aA aN k).length Csv)) ⟨⟨E, (by omega), (by omega), _F0_0, _F0_1, _F0_2, _F0_3, _F0_4, _F0_5, _on_55, (Lo.down _lo0_3 (by omega)), (fun g hm hg => by exact _djl0_3_13 _ hm hg), (fun g hm hg => by exact _djl0_3_15 _ hm hg)⟩, Sub.cons rfl (Sub.cons rfl (Sub.cons rfl (Sub.cons rfl (Sub.cons rfl (Sub.cons rfl (Sub.nil _)))))), (by first | omega | (dsimp only; omega))⟩)
      · have _kb_43 := _h27
        refine WL_skip rfl rfl ?_
        refine WL_skip rfl rfl ?_
        refine WL_skip rfl rfl ?_
        refine WL_skip rfl rfl ?_
        refine WL_step rfl rfl (r_pickF rfl rfl) ?_
        refine WL_nil ?_
        refine thn_nrm (_hK_42 _ _ ?_)
        clear _hK_42
        refine W_condF rfl ?_
        refine W_skip ?_
        refine inB_nrm ?_
        refine thn_nrm (_hK_41 _ _ ?_)
        clear _hK_41
        refine W_region ?_
        refine WL_step rfl rfl (r_move rfl) ?_
        refine WL_step rfl rfl (r_add (by omega) rfl rfl) ?_
        refine WL_step rfl rfl (r_assign rfl) ?_
        refine WL_nil ?_
        have _on_56 : Ol ics 3 1 _wr_37 (.slice Asv (usfP aS aA aN k).length Csv) (usfP aS aA aN (k + 1)) := by
          have hx := _o0_3
          first | exact hx.eq (usf_y _hy25 _hy30 (by assumption) (by assumption)) | exact hx.eq (usf_n1 _hy25 (by assumption) (by omega)) | exact hx.eq (usf_n2 _hy30 (by assumption) (by omega))
        exact thn_nrm (Exists.intro ((k + 1), (.slice Asv (usfP aS aA aN k).length Csv)) ⟨⟨E, (by omega), (by omega), _F0_0, _F0_1, _F0_2, _F0_3, _F0_4, _F0_5, _on_56, (Lo.down _lo0_3 (by omega)), (fun g hm hg => by exact _djl0_3_13 _ hm hg), (fun g hm hg => by exact _djl0_3_15 _ hm hg)⟩, Sub.cons rfl (Sub.cons rfl (Sub.cons rfl (Sub.cons rfl (Sub.cons rfl (Sub.cons rfl (Sub.nil _)))))), (by first | omega | (dsimp only; omega))⟩)
    · have _kb_40 := _h20
      have _h20 := bf_d _h20
      refine W_exit (thn_exit (thn_exit (inB_hit ?_)))
      refine thn_nrm (_hK_28 _ _ ?_)
      clear _hK_28
      refine W_seq fun _K_57 _hK_57 => ?_
      refine W_region ?_
      refine WL_step rfl rfl (r_move rfl) ?_
      refine WL_step rfl rfl (r_assign rfl) ?_
      refine WL_nil ?_
      refine thn_nrm (_hK_57 _ _ ?_)
      clear _hK_57
      refine W_ret ?_
      clear _hK_38
      have _o_58 : Ol ics 3 1 _wr_37 (.slice Asv (usfP aS aA aN k).length Csv) (usfR aS aA aN) := by
        have hx := _o0_3
        first | exact hx.eq (usfR_n _h10) | exact hx.eq (usfR_y _h10 (by omega))
      exact ret_intro [_] ⟨rfl, trivial⟩ ⟨_o_58, Lo.down _lo0_3 (by omega), E⟩

/-- laws.FnExactUsefulStates -/
theorem c_laws_FnExactUsefulStates {w : World} (aS : Int) {LL_aA _B_aA : Nat} {_v_aA : Value} {aA : List Bool} (_h_aA : Ls bcs 1 w LL_aA _B_aA _v_aA aA) {LL_saN _B_saN : Nat} {_v_saN : Value} {saN : List Sv} (_h_saN : Ls Sv.cs 1 w LL_saN _B_saN _v_saN saN) {LR_aN BB_aN : Nat} {aN : List (List Int)} (_rd_aN : Rd ics 1 w LR_aN BB_aN saN aN) :
    Ctr Try.prog 8 #[(.agg #[(.int .i64 aS), _v_aA, _v_saN])] w (fun v w' => v = .bool (true) ∧ Ch [] w w') := by
  obtain ⟨_A_aA, _C_aA, _e1_aA⟩ := _h_aA.val
  subst _e1_aA
  have _l_aA := _h_aA.len
  have _h_aA := _h_aA.here (by decide)
  obtain ⟨_A_saN, _C_saN, _e1_saN⟩ := _h_saN.val
  subst _e1_saN
  have _l_saN := _h_saN.len
  have _h_saN := _h_saN.here (by decide)
  have _rd_aN := _rd_aN.here (by decide)
  have _rl_aN := _rd_aN.1
  have E := Ch.refl [] w
  have sl := usfR_len aS aA aN
  refine Ctr_of_W (N := 69) (vs0 := [(.agg #[(.int .i64 aS), (.slice _A_aA aA.length _C_aA), (.slice _A_saN saN.length _C_saN)])]) Try.func8 rfl rfl rfl ?_
  refine W_seq fun _K_1 _hK_1 => ?_
  refine W_region ?_
  refine WL_s rfl rfl ?_
  refine s_box rfl fun _b1 _w_2 _m1 _cw_2 _e1 => ?_
  have _cw_2z := _cw_2.size
  have E := E.trans _cw_2
  have _z1 := _m1.lt
  replace _m1 : Blk _w_2 _b1 25 [(.int .i64 aS), (.slice _A_aA aA.length _C_aA), (.slice _A_saN saN.length _C_saN)] := _m1
  refine WL_step rfl rfl (r_assign rfl) ?_
  refine WL_nil ?_
  refine thn_nrm (_hK_1 _ _ ?_)
  clear _hK_1
  refine W_seq fun _K_3 _hK_3 => ?_
  refine W_region ?_
  refine WL_step rfl rfl (r_assign rfl) ?_
  refine WL_nil ?_
  refine thn_nrm (_hK_3 _ _ ?_)
  clear _hK_3
  refine W_seq fun _K_4 _hK_4 => ?_
  refine W_region ?_
  refine WL_step rfl rfl (r_loadAtA0 _m1.at_ agg25 sz25 rfl) ?_
  refine WL_step rfl rfl (r_move rfl) ?_
  refine WL_s rfl rfl ?_
  have _f_5 := (_h_aA.ch0 _cw_2)
  have _f_6 := (_rd_aN.ch0 _cw_2)
  have _f_7 := (_h_saN.ch0 _cw_2)
  refine Step.call (r_call (xs := [.tmp 11, .tmp 12]) fk14 rfl) (c_laws_szAutomaton _ _f_5 _f_7 _f_6 _ (by omega) (by omega)) fun _v13 _w_8 _q13 => ?_
  obtain ⟨rfl, _cw_8⟩ := _q13
  have _cw_8z := _cw_8.size
  have E := E.trans _cw_8
  refine WL_step rfl rfl (r_assign rfl) ?_
  refine WL_nil ?_
  refine thn_nrm (_hK_4 _ _ ?_)
  clear _hK_4
  refine W_seq fun _K_9 _hK_9 => ?_
  refine W_seq fun _K_10 _hK_10 => ?_
  refine W_region ?_
  refine WL_step rfl rfl (r_move rfl) ?_
  refine WL_step rfl rfl (r_lss rfl rfl) ?_
  refine WL_nil ?_
  refine thn_nrm (_hK_10 _ _ ?_)
  clear _hK_10
  refine W_cond rfl (fun _h15 => ?_) (fun _h15 => ?_)
  · have _kb_11 := _h15
    have _h15 := bt_d _h15
    refine W_seq fun _K_12 _hK_12 => ?_
    refine W_region ?_
    refine WL_step rfl rfl (r_assign rfl) ?_
    refine WL_nil ?_
    refine thn_nrm (_hK_12 _ _ ?_)
    clear _hK_12
    refine W_ret (thn_ret ?_)
    clear _hK_9
    exact ret_intro [_] ⟨rfl, trivial⟩ ⟨congrArg Value.bool (by first | rfl | (exfalso; omega) | (exfalso; revert _h15; simp; done) | (exfalso; revert _h15; simp; omega)), E⟩
  · have _kb_11 := _h15
    have _h15 := bf_d _h15
    refine W_skip ?_
    refine thn_nrm (_hK_9 _ _ ?_)
    clear _hK_9
    refine W_seq fun _K_13 _hK_13 => ?_
    refine W_region ?_
    have _f_14 := (_m1.ch0 _cw_8)
    refine WL_step rfl rfl (r_loadAtA0 _f_14.at_ agg25 sz25 rfl) ?_
    refine WL_s rfl rfl ?_
    have _f_15 := (_f_5.ch0 _cw_8)
    have _f_16 := (_f_6.ch0 _cw_8)
    have _f_17 := (_f_7.ch0 _cw_8)
    refine Step.call (r_call (xs := [.tmp 16]) fk16 rfl) (c_laws_toAutomaton _ _f_15 _f_17 _f_16 (by omega)) fun _v17 _w_18 _q17 => ?_
    obtain ⟨u17_0x1, u17_0x2, _vs17_0x2, rfl, _q_u17_0x1, _lo_u17_0x1, _q_u17_0x2, _lo_u17_0x2, _od_vs17_0x2, _sep_vs17_0x2, _dj_u17_0x1_u17_0x2, _sep_u17_0x1_vs17_0x2, _cw_18⟩ := _q17
    have _cw_18z := _cw_18.size
    have E := E.trans _cw_18
    obtain ⟨Au17_0x1, Cu17_0x1, eu17_0x1⟩ := _q_u17_0x1.val
    subst eu17_0x1
    have lu17_0x1 := _q_u17_0x1.len
    have _hiu17_0x1 := _q_u17_0x1.lt
    obtain ⟨Au17_0x2, Cu17_0x2, eu17_0x2⟩ := _q_u17_0x2.val
    subst eu17_0x2
    have lu17_0x2 := _q_u17_0x2.len
    have _hiu17_0x2 := _q_u17_0x2.lt
    refine WL_s rfl rfl ?_
    refine Step.call (r_call (xs := [.tmp 17]) fk35 rfl) (c_spec_UsefulStates _ _q_u17_0x1.ls _q_u17_0x2.ls _od_vs17_0x2.rd ) fun _v18 _w_19 _q18 => ?_
    obtain ⟨_q18, _lo18, _cw_19⟩ := _q18
    have _cw_19z := _cw_19.size
    have E := E.trans _cw_19
    obtain ⟨_Av18, _Cv18, _ev18⟩ := _q18.val
    subst _ev18
    have _lv18 := _q18.len
    have _hiv18 := _q18.lt
    refine WL_step rfl rfl (r_assign rfl) ?_
    refine WL_nil ?_
    refine thn_nrm (_hK_13 _ _ ?_)
    clear _hK_13
    refine W_seq fun _K_20 _hK_20 => ?_
    refine W_region ?_
    have _f_21 := ((_f_14.ch0 _cw_18).ch0 _cw_19)
    refine WL_step rfl rfl (r_loadAtA0 _f_21.at_ agg25 sz25 rfl) ?_
    refine WL_s rfl rfl ?_
    have _f_22 := ((_f_15.ch0 _cw_18).ch0 _cw_19)
    have _f_23 := ((_f_16.ch0 _cw_18).ch0 _cw_19)
    have _f_24 := ((_f_17.ch0 _cw_18).ch0 _cw_19)
    refine Step.call (r_call (xs := [.tmp 19]) fk16 rfl) (c_laws_toAutomaton _ _f_22 _f_24 _f_23 (by omega)) fun _v20 _w_25 _q20 => ?_
    obtain ⟨u20_0x1, u20_0x2, _vs20_0x2, rfl, _q_u20_0x1, _lo_u20_0x1, _q_u20_0x2, _lo_u20_0x2, _od_vs20_0x2, _sep_vs20_0x2, _dj_u20_0x1_u20_0x2, _sep_u20_0x1_vs20_0x2, _cw_25⟩ := _q20
    have _cw_25z := _cw_25.size
    have E := E.trans _cw_25
    obtain ⟨Au20_0x1, Cu20_0x1, eu20_0x1⟩ := _q_u20_0x1.val
    subst eu20_0x1
    have lu20_0x1 := _q_u20_0x1.len
    have _hiu20_0x1 := _q_u20_0x1.lt
    obtain ⟨Au20_0x2, Cu20_0x2, eu20_0x2⟩ := _q_u20_0x2.val
    subst eu20_0x2
    have lu20_0x2 := _q_u20_0x2.len
    have _hiu20_0x2 := _q_u20_0x2.lt
    refine WL_s rfl rfl ?_
    refine s_alloc zr28 fun _b5 _w_26 _m5 _cw_26 _e5 => ?_
    have _cw_26z := _cw_26.size
    have E := E.trans _cw_26
    have _z5 := _m5.lt
    replace _m5 : Blk _w_26 _b5 28 [(.int .i64 0), (.slice none 0 0), (.slice none 0 0)] := _m5
    refine WL_s rfl rfl ?_
    refine s_storeA (off := 0) 3 _m5 sz28 rfl (us := [(.int .i64 aS), (.slice Au20_0x1 (aA).length Cu20_0x1), (.slice Au20_0x2 (_vs20_0x2).length Cu20_0x2)]) rfl rfl rfl rfl fun _w_27 _m_28 _cw_27 => ?_
    have _cw_27z := _cw_27.size
    have E := E.step _cw_27 (fun i hi => .inl (by have _h1 := List.mem_singleton.1 hi; omega))
    replace _m_28 : Blk _w_27 _b5 28 [(.int .i64 aS), (.slice Au20_0x1 (aA).length Cu20_0x1), (.slice Au20_0x2 (_vs20_0x2).length Cu20_0x2)] := _m_28
    refine WL_nil ?_
    refine thn_nrm (_hK_20 _ _ ?_)
    clear _hK_20
    refine W_seq fun _K_29 _hK_29 => ?_
    refine W_region ?_
    refine WL_step rfl rfl (r_loadAtA0 _m_28.at_ agg28 sz28 rfl) ?_
    refine WL_s rfl rfl ?_
    have _f_30 := ((_q_u20_0x1.ch0 _cw_26).ch _cw_27 (fun g hg hm => by have _h0 := List.mem_singleton.1 hm; have _h2 := _lo_u20_0x1 _ hg; have _h3 := _hiu20_0x1 _ hg; omega))
    have _f_31 := ((_od_vs20_0x2.ch0 _cw_26).ch _cw_27 (fun i hi => by have _h1 := List.mem_singleton.1 hi; omega))
    have _f_32 := ((_q_u20_0x2.ch0 _cw_26).ch _cw_27 (fun g hg hm => by have _h0 := List.mem_singleton.1 hm; have _h2 := _lo_u20_0x2 _ hg; have _h3 := _hiu20_0x2 _ hg; omega))
    refine Step.call (r_call (xs := [.tmp 21]) fk36 rfl) (c_impl_UsefulStates _ _f_30.ls _f_32.ls _f_31.rd ) fun _v22 _w_33 _q22 => ?_
    obtain ⟨_q22, _lo22, _cw_33⟩ := _q22
    have _cw_33z := _cw_33.size
    have E := E.trans _cw_33
    obtain ⟨_Av22, _Cv22, _ev22⟩ := _q22.val
    subst _ev22
    have _lv22 := _q22.len
    have _hiv22 := _q22.lt
    refine WL_step rfl rfl (r_assign rfl) ?_
    refine WL_nil ?_
    refine thn_nrm (_hK_29 _ _ ?_)
    clear _hK_29
    refine W_seq fun _K_34 _hK_34 => ?_
    refine W_seq fun _K_35 _hK_35 => ?_
    refine W_region ?_
    refine WL_step rfl rfl (r_move rfl) ?_
    refine WL_step rfl rfl (r_move rfl) ?_
    refine WL_s rfl rfl ?_
    have _f_36 := ((((_q18.ch0 _cw_25).ch0 _cw_26).ch _cw_27 (fun g hg hm => by have _h0 := List.mem_singleton.1 hm; have _h2 := _lo18 _ hg; have _h3 := _hiv18 _ hg; omega)).ch0 _cw_33)
    refine Step.call (r_call (xs := [.tmp 23, .tmp 24]) fk25 rfl) (c_laws_eqIntS _q22.ls _f_36.ls ) fun _v25 _w_37 _q25 => ?_
    obtain ⟨rfl, _cw_37⟩ := _q25
    have _cw_37z := _cw_37.size
    have E := E.trans _cw_37
    refine WL_step rfl rfl (r_not rfl) ?_
    refine WL_nil ?_
    refine thn_nrm (_hK_35 _ _ ?_)
    clear _hK_35
    refine W_cond rfl (fun _h26 => ?_) (fun _h26 => ?_)
    · have _kb_38 := _h26
      have _h26 := bf_d (bt_n _h26)
      refine W_seq fun _K_39 _hK_39 => ?_
      refine W_region ?_
      refine WL_step rfl rfl (r_assign rfl) ?_
      refine WL_nil ?_
      refine thn_nrm (_hK_39 _ _ ?_)
      clear _hK_39
      refine W_ret (thn_ret ?_)
      clear _hK_34
      exact ret_intro [_] ⟨rfl, trivial⟩ ⟨congrArg Value.bool (by first | rfl | (exfalso; omega) | (exfalso; revert _h26; simp; done) | (exfalso; revert _h26; simp; omega)), E⟩
    · have _kb_38 := _h26
      have _h26 := bt_d (bf_n _h26)
      refine W_skip ?_
      refine thn_nrm (_hK_34 _ _ ?_)
      clear _hK_34
      refine W_seq fun _K_40 _hK_40 => ?_
      refine W_seq fun _K_41 _hK_41 => ?_
      refine W_drawC [] 5 mixed rfl fun _w_42 _cw_42 => ?_
      have _cw_42z := _cw_42.size
      have E := E.trans _cw_42
      have _f_43 := (((_m_28.ch0 _cw_33).ch0 _cw_37).ch0 _cw_42)
      refine DR_s 0 rfl (by kernel_rfl) rfl rfl (t_loadAtA0 _f_43.at_ (fun i hi => absurd hi List.not_mem_nil) agg28 sz28 rfl ?_)
      have _f_44 := ((((((_f_21.ch0 _cw_25).ch0 _cw_26).ch _cw_27 (fun hm => by have _h1 := List.mem_singleton.1 hm; omega)).ch0 _cw_33).ch0 _cw_37).ch0 _cw_42)
      refine DR_s 1 rfl (by kernel_rfl) rfl rfl (t_loadAtA0 _f_44.at_ (fun i hi => absurd hi List.not_mem_nil) agg25 sz25 rfl ?_)
      refine DR_one 2 (by kernel_rfl) ?_
      refine DO_s rfl rfl rfl ?_
      have _f_45 := ((((((_f_22.ch0 _cw_25).ch0 _cw_26).ch _cw_27 (fun i hi => by have _h1 := List.mem_singleton.1 hi; omega)).ch0 _cw_33).ch0 _cw_37).ch0 _cw_42)
      have _f_46 := ((((((_f_23.ch0 _cw_25).ch0 _cw_26).ch _cw_27 (fun i hi => by have _h1 := List.mem_singleton.1 hi; omega)).ch0 _cw_33).ch0 _cw_37).ch0 _cw_42)
      have _f_47 := ((((((_f_24.ch0 _cw_25).ch0 _cw_26).ch _cw_27 (fun i hi => by have _h1 := List.mem_singleton.1 hi; omega)).ch0 _cw_33).ch0 _cw_37).ch0 _cw_42)
      refine Step.call (r_call (xs := [.tmp 28]) fk16 rfl) (c_laws_toAutomaton _ _f_45 _f_47 _f_46 (by omega)) fun _v29 _w_48 _q29 => ?_
      obtain ⟨u29_0x1, u29_0x2, _vs29_0x2, rfl, _q_u29_0x1, _lo_u29_0x1, _q_u29_0x2, _lo_u29_0x2, _od_vs29_0x2, _sep_vs29_0x2, _dj_u29_0x1_u29_0x2, _sep_u29_0x1_vs29_0x2, _cw_48⟩ := _q29
      have _cw_48z := _cw_48.size
      have E := E.trans _cw_48
      obtain ⟨Au29_0x1, Cu29_0x1, eu29_0x1⟩ := _q_u29_0x1.val
      subst eu29_0x1
      have lu29_0x1 := _q_u29_0x1.len
      have _hiu29_0x1 := _q_u29_0x1.lt
      obtain ⟨Au29_0x2, Cu29_0x2, eu29_0x2⟩ := _q_u29_0x2.val
      subst eu29_0x2
      have lu29_0x2 := _q_u29_0x2.len
      have _hiu29_0x2 := _q_u29_0x2.lt
      have _S_49 : Ch [] _w_42 _w_48 := ((Ch.refl _ _).trans _cw_48)
      refine ⟨_S_49, ?_⟩
      refine DR_one 3 (by kernel_rfl) ?_
      refine DO_s rfl rfl rfl ?_
      have _f_50 := ((((_f_30.ch0 _cw_33).ch0 _cw_37).ch0 _cw_42).ch0 _cw_48)
      have _f_51 := ((((_f_31.ch0 _cw_33).ch0 _cw_37).ch0 _cw_42).ch0 _cw_48)
      have _f_52 := ((((_f_32.ch0 _cw_33).ch0 _cw_37).ch0 _cw_42).ch0 _cw_48)
      refine Step.call (r_call (xs := [.tmp 27, .tmp 29]) fk18 rfl) (c_laws_eqAutomaton _ _f_50.ls _f_52.ls _f_51.rd _ _q_u29_0x1.ls _q_u29_0x2.ls _od_vs29_0x2.rd ) fun _v30 _w_53 _q30 => ?_
      obtain ⟨rfl, _cw_53⟩ := _q30
      have _cw_53z := _cw_53.size
      have E := E.trans _cw_53
      have _S_54 : Ch [] _w_42 _w_53 := (_S_49.trans _cw_53)
      refine ⟨_S_54, ?_⟩
      refine DR_s 4 rfl (by kernel_rfl) rfl rfl (t_v (fun _ => (r_not rfl)) ?_)
      refine DR_done (by kernel_rfl) ?_
      refine thn_nrm (_hK_41 _ _ ?_)
      clear _hK_41
      refine W_cond rfl (fun _h31 => ?_) (fun _h31 => ?_)
      · have _kb_55 := _h31
        have _h31 := bf_d (bt_n _h31)
        refine W_seq fun _K_56 _hK_56 => ?_
        refine W_region ?_
        refine WL_step rfl rfl (r_assign rfl) ?_
        refine WL_nil ?_
        refine thn_nrm (_hK_56 _ _ ?_)
        clear _hK_56
        refine W_ret (thn_ret ?_)
        clear _hK_40
        exact ret_intro [_] ⟨rfl, trivial⟩ ⟨congrArg Value.bool (by first | rfl | (exfalso; omega) | (exfalso; revert _h31; simp; done) | (exfalso; revert _h31; simp; omega)), E⟩
      · have _kb_55 := _h31
        have _h31 := bt_d (bf_n _h31)
        refine W_skip ?_
        refine thn_nrm (_hK_40 _ _ ?_)
        clear _hK_40
        refine W_seq fun _K_57 _hK_57 => ?_
        refine W_region ?_
        refine WL_step rfl rfl (r_assign rfl) ?_
        refine WL_nil ?_
        refine thn_nrm (_hK_57 _ _ ?_)
        clear _hK_57
        refine W_seq fun _K_58 _hK_58 => ?_
        refine W_region ?_
        have _f_59 := ((_f_43.ch0 _cw_48).ch0 _cw_53)
        refine WL_step rfl rfl (r_loadAtA0 _f_59.at_ agg28 sz28 rfl) ?_
        refine WL_step rfl rfl (r_move rfl) ?_
        refine WL_s rfl rfl ?_
        have _f_60 := (_f_50.ch0 _cw_53)
        have _f_61 := (_f_52.ch0 _cw_53)
        have _f_62 := (_f_51.ch0 _cw_53)
        refine Step.call (r_call (xs := [.tmp 32, .tmp 33]) fk28 rfl) (c_laws_markAutomaton _ _f_60 _f_61 (_f_62.up (lo' := _w_19.heap.size) (hi' := _w_25.heap.size) (by omega) (by omega)) (fun g hm => by have _h1 := _lo_u20_0x2 _ hm; have _h2 := _hiu20_0x2 _ hm; omega) _sep_vs20_0x2 (by omega) (fun g hm => by have _h1 := _lo_u20_0x1 _ hm; have _h2 := _hiu20_0x1 _ hm; omega) (fun g hm hg => by exact _dj_u20_0x1_u20_0x2 _ hm hg) _sep_u20_0x1_vs20_0x2 _ (by omega) (by first | omega | (simp <;> omega))) fun _v34 _w_63 _q34 => ?_
        obtain ⟨rfl, _cw_63⟩ := _q34
        have _cw_63z := _cw_63.size
        have E := E.step _cw_63 (fun i hm => by have _h1 := mem_rg hm; left; omega)
        refine WL_step rfl rfl (r_assign rfl) ?_
        refine WL_nil ?_
        refine thn_nrm (_hK_58 _ _ ?_)
        clear _hK_58
        refine W_seq fun _K_64 _hK_64 => ?_
        refine W_seq fun _K_65 _hK_65 => ?_
        refine W_region ?_
        refine WL_step rfl rfl (r_move rfl) ?_
        refine WL_step rfl rfl (r_lss rfl rfl) ?_
        refine WL_step rfl rfl (r_move rfl) ?_
        refine WL_split (d := 37) rfl (fun _h37 => ?_) (fun _h37 => ?_)
        · have _kb_66 := _h37
          have _h37 := bt_d _h37
          refine WL_skip rfl rfl ?_
          refine WL_skip rfl rfl ?_
          refine WL_skip rfl rfl ?_
          refine WL_skip rfl rfl ?_
          refine WL_step rfl rfl (r_pickT rfl rfl) ?_
          refine WL_nil ?_
          refine thn_nrm (_hK_65 _ _ ?_)
          clear _hK_65
          refine W_condT rfl ?_
          refine W_seq fun _K_67 _hK_67 => ?_
          refine W_region ?_
          refine WL_step rfl rfl (r_assign rfl) ?_
          refine WL_nil ?_
          refine thn_nrm (_hK_67 _ _ ?_)
          clear _hK_67
          refine W_ret (thn_ret ?_)
          clear _hK_64
          exact ret_intro [_] ⟨rfl, trivial⟩ ⟨congrArg Value.bool (by first | rfl | (exfalso; omega) | (exfalso; revert _h37; simp; done) | (exfalso; revert _h37; simp; omega)), E⟩
        · have _kb_66 := _h37
          have _h37 := bf_d _h37
          refine WL_step rfl rfl (r_move rfl) ?_
          refine WL_step rfl rfl (r_move rfl) ?_
          refine WL_s rfl rfl ?_
          have _f_68 := (((((_q22.ch0 _cw_37).ch0 _cw_42).ch0 _cw_48).ch0 _cw_53).ch _cw_63 (fun g hg hm => by have _h0 := mem_rg hm; have _h1 := _lo22 _ hg; have _h2 := _hiv22 _ hg; omega))
          have _f_69 := (((((_f_36.ch0 _cw_37).ch0 _cw_42).ch0 _cw_48).ch0 _cw_53).ch _cw_63 (fun g hg hm => by have _h0 := mem_rg hm; have _h1 := _lo18 _ hg; have _h2 := _hiv18 _ hg; omega))
          refine Step.call (r_call (xs := [.tmp 38, .tmp 39]) fk25 rfl) (c_laws_eqIntS _f_68.ls _f_69.ls ) fun _v40 _w_70 _q40 => ?_
          obtain ⟨rfl, _cw_70⟩ := _q40
          have _cw_70z := _cw_70.size
          have E := E.trans _cw_70
          refine WL_step rfl rfl (r_not rfl) ?_
          refine WL_step rfl rfl (r_pickF rfl rfl) ?_
          refine WL_nil ?_
          refine thn_nrm (_hK_65 _ _ ?_)
          clear _hK_65
          refine W_condFk rfl _kb_38 ?_
          refine W_skip ?_
          refine thn_nrm (_hK_64 _ _ ?_)
          clear _hK_64
          refine W_seq fun _K_71 _hK_71 => ?_
          refine W_region ?_
          refine WL_step rfl rfl (r_assign rfl) ?_
          refine WL_nil ?_
          refine thn_nrm (_hK_71 _ _ ?_)
          clear _hK_71
          refine W_seq fun _K_72 _hK_72 => ?_
          refine W_region ?_
          refine WL_step rfl rfl (r_move rfl) ?_
          refine WL_step rfl rfl (r_move rfl) ?_
          refine WL_s rfl rfl ?_
          have _f_73 := (_f_68.ch0 _cw_70)
          refine Step.call (r_call (xs := [.tmp 43, .tmp 44]) fk29 rfl) (c_laws_markIntS _f_73 _ (by omega) (by first | omega | (simp <;> omega))) fun _v45 _w_74 _q45 => ?_
          obtain ⟨rfl, _q45, _cw_74⟩ := _q45
          have _cw_74z := _cw_74.size
          have E := E.step _cw_74 (fun i hi => .inl (by have _h1 := _lo22 _ hi; omega))
          refine WL_step rfl rfl (r_assign rfl) ?_
          refine WL_nil ?_
          refine thn_nrm (_hK_72 _ _ ?_)
          clear _hK_72
          refine W_seq fun _K_75 _hK_75 => ?_
          refine W_region ?_
          refine WL_step rfl rfl (r_assign rfl) ?_
          refine WL_nil ?_
          refine thn_nrm (_hK_75 _ _ ?_)
          clear _hK_75
          refine W_seq fun _K_76 _hK_76 => ?_
          refine W_region ?_
          refine WL_step rfl rfl (r_move rfl) ?_
          refine WL_step rfl rfl (r_move rfl) ?_
          refine WL_s rfl rfl ?_
          refine Step.call (r_call (xs := [.tmp 46, .tmp 47]) fk30 rfl) (c_laws_heldIntS _q45.ls _ (by omega) (by first | omega | (simp <;> omega))) fun _v48 _w_77 _q48 => ?_
          obtain ⟨rfl, _cw_77⟩ := _q48
          have _cw_77z := _cw_77.size
          have E := E.trans _cw_77
          refine WL_step rfl rfl (r_assign rfl) ?_
          refine WL_nil ?_
          refine thn_nrm (_hK_76 _ _ ?_)
          clear _hK_76
          refine W_seq fun _K_78 _hK_78 => ?_
          refine W_seq fun _K_79 _hK_79 => ?_
          refine W_region ?_
          refine WL_step rfl rfl (r_move rfl) ?_
          refine WL_step rfl rfl (r_lss rfl rfl) ?_
          refine WL_nil ?_
          refine thn_nrm (_hK_79 _ _ ?_)
          clear _hK_79
          refine W_cond rfl (fun _h50 => ?_) (fun _h50 => ?_)
          · have _kb_80 := _h50
            have _h50 := bt_d _h50
            refine W_seq fun _K_81 _hK_81 => ?_
            refine W_region ?_
            refine WL_step rfl rfl (r_assign rfl) ?_
            refine WL_nil ?_
            refine thn_nrm (_hK_81 _ _ ?_)
            clear _hK_81
            refine W_ret (thn_ret ?_)
            clear _hK_78
            exact ret_intro [_] ⟨rfl, trivial⟩ ⟨congrArg Value.bool (by first | rfl | (exfalso; omega) | (exfalso; revert _h50; simp; done) | (exfalso; revert _h50; simp; omega)), E⟩
          · have _kb_80 := _h50
            have _h50 := bf_d _h50
            refine W_skip ?_
            refine thn_nrm (_hK_78 _ _ ?_)
            clear _hK_78
            refine W_seq fun _K_82 _hK_82 => ?_
            refine W_seq fun _K_83 _hK_83 => ?_
            refine W_region ?_
            refine WL_step rfl rfl (r_move rfl) ?_
            refine WL_step rfl rfl (r_move rfl) ?_
            refine WL_step rfl rfl (r_neq rfl rfl) ?_
            refine WL_nil ?_
            refine thn_nrm (_hK_83 _ _ ?_)
            clear _hK_83
            refine W_cond rfl (fun _h53 => ?_) (fun _h53 => ?_)
            · have _kb_84 := _h53
              have _h53 := bf_d (bt_n _h53)
              refine W_seq fun _K_85 _hK_85 => ?_
              refine W_region ?_
              refine WL_step rfl rfl (r_assign rfl) ?_
              refine WL_nil ?_
              refine thn_nrm (_hK_85 _ _ ?_)
              clear _hK_85
              refine W_ret (thn_ret ?_)
              clear _hK_82
              exact ret_intro [_] ⟨rfl, trivial⟩ ⟨congrArg Value.bool (by first | rfl | (exfalso; omega) | (exfalso; revert _h53; simp; done) | (exfalso; revert _h53; simp; omega)), E⟩
            · have _kb_84 := _h53
              have _h53 := bt_d (bf_n _h53)
              refine W_skip ?_
              refine thn_nrm (_hK_82 _ _ ?_)
              clear _hK_82
              refine W_seq fun _K_86 _hK_86 => ?_
              refine W_region ?_
              have _f_87 := ((((((_f_44.ch0 _cw_48).ch0 _cw_53).ch _cw_63 (fun hm => by have _h1 := mem_rg hm; omega)).ch0 _cw_70).ch _cw_74 (fun hm => by have _h1 := _lo22 _ hm; have _h2 := _hiv22 _ hm; omega)).ch0 _cw_77)
              refine WL_step rfl rfl (r_loadAtA0 _f_87.at_ agg25 sz25 rfl) ?_
              refine WL_s rfl rfl ?_
              have _f_88 := ((((((_f_45.ch0 _cw_48).ch0 _cw_53).ch _cw_63 (fun i hm => by have _h1 := mem_rg hm; omega)).ch0 _cw_70).ch _cw_74 (fun i hi => by have _h1 := _lo22 _ hi; omega)).ch0 _cw_77)
              have _f_89 := ((((((_f_46.ch0 _cw_48).ch0 _cw_53).ch _cw_63 (fun i hm => by have _h1 := mem_rg hm; omega)).ch0 _cw_70).ch _cw_74 (fun i hi => by have _h1 := _lo22 _ hi; omega)).ch0 _cw_77)
              have _f_90 := ((((((_f_47.ch0 _cw_48).ch0 _cw_53).ch _cw_63 (fun i hm => by have _h1 := mem_rg hm; omega)).ch0 _cw_70).ch _cw_74 (fun i hi => by have _h1 := _lo22 _ hi; omega)).ch0 _cw_77)
              refine Step.call (r_call (xs := [.tmp 54]) fk16 rfl) (c_laws_toAutomaton _ _f_88 _f_90 _f_89 (by omega)) fun _v55 _w_91 _q55 => ?_
              obtain ⟨u55_0x1, u55_0x2, _vs55_0x2, rfl, _q_u55_0x1, _lo_u55_0x1, _q_u55_0x2, _lo_u55_0x2, _od_vs55_0x2, _sep_vs55_0x2, _dj_u55_0x1_u55_0x2, _sep_u55_0x1_vs55_0x2, _cw_91⟩ := _q55
              have _cw_91z := _cw_91.size
              have E := E.trans _cw_91
              obtain ⟨Au55_0x1, Cu55_0x1, eu55_0x1⟩ := _q_u55_0x1.val
              subst eu55_0x1
              have lu55_0x1 := _q_u55_0x1.len
              have _hiu55_0x1 := _q_u55_0x1.lt
              obtain ⟨Au55_0x2, Cu55_0x2, eu55_0x2⟩ := _q_u55_0x2.val
              subst eu55_0x2
              have lu55_0x2 := _q_u55_0x2.len
              have _hiu55_0x2 := _q_u55_0x2.lt
              refine WL_s rfl rfl ?_
              refine Step.call (r_call (xs := [.tmp 55]) fk36 rfl) (c_impl_UsefulStates _ _q_u55_0x1.ls _q_u55_0x2.ls _od_vs55_0x2.rd ) fun _v56 _w_92 _q56 => ?_
              obtain ⟨_q56, _lo56, _cw_92⟩ := _q56
              have _cw_92z := _cw_92.size
              have E := E.trans _cw_92
              obtain ⟨_Av56, _Cv56, _ev56⟩ := _q56.val
              subst _ev56
              have _lv56 := _q56.len
              have _hiv56 := _q56.lt
              refine WL_step rfl rfl (r_assign rfl) ?_
              refine WL_nil ?_
              refine thn_nrm (_hK_86 _ _ ?_)
              clear _hK_86
              refine W_seq fun _K_93 _hK_93 => ?_
              refine W_seq fun _K_94 _hK_94 => ?_
              refine W_region ?_
              refine WL_step rfl rfl (r_move rfl) ?_
              refine WL_step rfl rfl (r_move rfl) ?_
              refine WL_s rfl rfl ?_
              have _f_95 := (((((_f_69.ch0 _cw_70).ch _cw_74 (fun g hg hm => by have _h1 := _lo22 _ hm; have _h2 := _hiv22 _ hm; have _h3 := _lo18 _ hg; have _h4 := _hiv18 _ hg; omega)).ch0 _cw_77).ch0 _cw_91).ch0 _cw_92)
              refine Step.call (r_call (xs := [.tmp 57, .tmp 58]) fk25 rfl) (c_laws_eqIntS _q56.ls _f_95.ls ) fun _v59 _w_96 _q59 => ?_
              obtain ⟨rfl, _cw_96⟩ := _q59
              have _cw_96z := _cw_96.size
              have E := E.trans _cw_96
              refine WL_step rfl rfl (r_not rfl) ?_
              refine WL_nil ?_
              refine thn_nrm (_hK_94 _ _ ?_)
              clear _hK_94
              refine W_condFk rfl _kb_38 ?_
              refine W_skip ?_
              refine thn_nrm (_hK_93 _ _ ?_)
              clear _hK_93
              refine W_seq fun _K_97 _hK_97 => ?_
              refine W_region ?_
              refine WL_step rfl rfl (r_assign rfl) ?_
              refine WL_nil ?_
              refine thn_nrm (_hK_97 _ _ ?_)
              clear _hK_97
              refine W_seq fun _K_98 _hK_98 => ?_
              refine W_region ?_
              refine WL_step rfl rfl (r_move rfl) ?_
              refine WL_step rfl rfl (r_move rfl) ?_
              refine WL_s rfl rfl ?_
              have _f_99 := ((((_q45.ch0 _cw_77).ch0 _cw_91).ch0 _cw_92).ch0 _cw_96)
              refine Step.call (r_call (xs := [.tmp 61, .tmp 62]) fk30 rfl) (c_laws_heldIntS _f_99.ls _ (by omega) (by first | omega | (simp <;> omega))) fun _v63 _w_100 _q63 => ?_
              obtain ⟨rfl, _cw_100⟩ := _q63
              have _cw_100z := _cw_100.size
              have E := E.trans _cw_100
              refine WL_step rfl rfl (r_assign rfl) ?_
              refine WL_nil ?_
              refine thn_nrm (_hK_98 _ _ ?_)
              clear _hK_98
              refine W_seq fun _K_101 _hK_101 => ?_
              refine W_seq fun _K_102 _hK_102 => ?_
              refine W_region ?_
              refine WL_step rfl rfl (r_move rfl) ?_
              refine WL_step rfl rfl (r_lss rfl rfl) ?_
              refine WL_nil ?_
              refine thn_nrm (_hK_102 _ _ ?_)
              clear _hK_102
              refine W_condFk rfl _kb_80 ?_
              refine W_skip ?_
              refine thn_nrm (_hK_101 _ _ ?_)
              clear _hK_101
              refine W_seq fun _K_103 _hK_103 => ?_
              refine W_seq fun _K_104 _hK_104 => ?_
              refine W_region ?_
              refine WL_step rfl rfl (r_move rfl) ?_
              refine WL_step rfl rfl (r_move rfl) ?_
              refine WL_step rfl rfl (r_neq rfl rfl) ?_
              refine WL_nil ?_
              refine thn_nrm (_hK_104 _ _ ?_)
              clear _hK_104
              refine W_condFk rfl _kb_84 ?_
              refine W_skip ?_
              refine thn_nrm (_hK_103 _ _ ?_)
              clear _hK_103
              refine W_seq fun _K_105 _hK_105 => ?_
              refine W_region ?_
              refine WL_step rfl rfl (r_assign rfl) ?_
              refine WL_nil ?_
              refine thn_nrm (_hK_105 _ _ ?_)
              clear _hK_105
              refine W_ret ?_
              exact ret_intro [_] ⟨rfl, trivial⟩ ⟨congrArg Value.bool (by first | rfl | (exfalso; omega) | (exfalso; revert _h53; simp; done) | (exfalso; revert _h53; simp; omega)), E⟩

end Go.Proofs.Ytgpmbjchmphhaaa
