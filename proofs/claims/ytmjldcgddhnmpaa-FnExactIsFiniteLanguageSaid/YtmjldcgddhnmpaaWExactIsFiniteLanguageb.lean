/- Walks of functions that FnExactIsFiniteLanguage reaches: what each returns, and that it leaves the memory that was there alone. -/
import Derived.Test.YtmjldcgddhnmpaaLibA
import Derived.Test.YtmjldcgddhnmpaaLibB
import Derived.Test.YtmjldcgddhnmpaaLibC
import Derived.Test.YtmjldcgddhnmpaaWExactIsFiniteLanguage
import Derived.Test.YtmjldcgddhnmpaaProg
namespace Go.Proofs.Ytmjldcgddhnmpaa
open Go.KLib Go.Shelf
set_option maxHeartbeats 1000000
set_option maxRecDepth 20000
set_option linter.unusedVariables false
set_option linter.unusedSimpArgs false
namespace TExactIsFiniteLanguageb
theorem agg26 : aggB Try.prog 26 = some false := by kernel_rfl
theorem agg3 : aggB Try.prog 3 = some false := by kernel_rfl
theorem agg37 : aggB Try.prog 37 = some false := by kernel_rfl
theorem agg39 : aggB Try.prog 39 = some true := by kernel_rfl
theorem agg4 : aggB Try.prog 4 = some false := by kernel_rfl
theorem agg42 : aggB Try.prog 42 = some true := by kernel_rfl
theorem agg46 : aggB Try.prog 46 = some false := by kernel_rfl
theorem by3 : bytesB Try.prog 3 = some 8 := by kernel_rfl
theorem by4 : bytesB Try.prog 4 = some 1 := by kernel_rfl
theorem el26 : elB Try.prog 26 = some 46 := by kernel_rfl
theorem el37 : elB Try.prog 37 = some 4 := by kernel_rfl
theorem el46 : elB Try.prog 46 = some 3 := by kernel_rfl
theorem fa42_0 : faB Try.prog 42 0 = some 0 := by kernel_rfl
theorem fa42_1 : faB Try.prog 42 1 = some 1 := by kernel_rfl
theorem fa42_2 : faB Try.prog 42 2 = some 2 := by kernel_rfl
theorem fk119 : fnB Try.prog 119 = true := by kernel_rfl
theorem fk120 : fnB Try.prog 120 = true := by kernel_rfl
theorem fk16 : fnB Try.prog 16 = true := by kernel_rfl
theorem fk17 : fnB Try.prog 17 = true := by kernel_rfl
theorem fk18 : fnB Try.prog 18 = true := by kernel_rfl
theorem fk19 : fnB Try.prog 19 = true := by kernel_rfl
theorem fk20 : fnB Try.prog 20 = true := by kernel_rfl
theorem fk60 : fnB Try.prog 60 = true := by kernel_rfl
theorem fk61 : fnB Try.prog 61 = true := by kernel_rfl
theorem fk62 : fnB Try.prog 62 = true := by kernel_rfl
theorem mixed : Try.prog.follows .mixedOrders = true := by kernel_rfl
theorem sz3 : sizeB Try.prog 3 = some 1 := by kernel_rfl
theorem sz39 : sizeB Try.prog 39 = some 3 := by kernel_rfl
theorem sz4 : sizeB Try.prog 4 = some 1 := by kernel_rfl
theorem sz42 : sizeB Try.prog 42 = some 3 := by kernel_rfl
theorem sz46 : sizeB Try.prog 46 = some 1 := by kernel_rfl
theorem un4 : Try.prog.underlying 4 = some (.bool) := by kernel_rfl
theorem zr3 : zeroB Try.prog 3 = some (.int .i64 0) := by kernel_rfl
theorem zr4 : zeroB Try.prog 4 = some (.bool false) := by kernel_rfl
theorem zr42 : zeroB Try.prog 42 = some (.agg #[.int .i64 0, .slice none 0 0, .slice none 0 0]) := by kernel_rfl
end TExactIsFiniteLanguageb
open TExactIsFiniteLanguageb

/-- spec.l11Live -/
theorem c_spec_l11Live {w : World} (aS : Int) {LL_aA _B_aA : Nat} {_v_aA : Value} {aA : List Bool} (_h_aA : Ls bcs 1 w LL_aA _B_aA _v_aA aA) {LL_saN _B_saN : Nat} {_v_saN : Value} {saN : List Sv} (_h_saN : Ls Sv.cs 1 w LL_saN _B_saN _v_saN saN) {LR_aN BB_aN : Nat} {aN : List (List Int)} (_rd_aN : Rd ics 1 w LR_aN BB_aN saN aN) (hv : ValidA aS aA aN) :
    Ctr Try.prog 120 #[(.agg #[(.int .i64 aS), _v_aA, _v_saN])] w (fun v w' => Ol bcs 4 1 w' v (liveL aA aN) ∧ Lo w.heap.size v ∧ Ch [] w w') := by
  obtain ⟨_A_aA, _C_aA, _e1_aA⟩ := _h_aA.val
  subst _e1_aA
  have _l_aA := _h_aA.len
  have _h_aA := _h_aA.here (by decide)
  obtain ⟨_A_saN, _C_saN, _e1_saN⟩ := _h_saN.val
  subst _e1_saN
  have _l_saN := _h_saN.len
  have _h_saN := _h_saN.here (by decide)
  have _rd_aN := _rd_aN.here (by decide)
  have _rl_aN := _rd_aN.1
  have E := Ch.refl [] w
  have hv2 := hv.2.2.1; have hv1 := hv.1
  refine Ctr_of_W (N := 55) (vs0 := [(.agg #[(.int .i64 aS), (.slice _A_aA aA.length _C_aA), (.slice _A_saN saN.length _C_saN)])]) Try.func120 rfl rfl rfl ?_
  refine W_seq fun _K_1 _hK_1 => ?_
  refine W_region ?_
  refine WL_s rfl rfl ?_
  refine s_box rfl fun _b1 _w_2 _m1 _cw_2 _e1 => ?_
  have _cw_2z := _cw_2.size
  have E := E.trans _cw_2
  have _z1 := _m1.lt
  replace _m1 : Blk _w_2 _b1 42 [(.int .i64 aS), (.slice _A_aA aA.length _C_aA), (.slice _A_saN saN.length _C_saN)] := _m1
  refine WL_step rfl rfl (r_assign rfl) ?_
  refine WL_nil ?_
  refine thn_nrm (_hK_1 _ _ ?_)
  clear _hK_1
  refine W_seq fun _K_3 _hK_3 => ?_
  refine W_region ?_
  refine WL_s rfl rfl ?_
  refine s_buildSlice0 (k := 1) bcs el37 sz4 fun _v7 _w_4 _q7 _lo7 _cw_4 => ?_
  have _cw_4z := _cw_4.size
  have E := E.trans _cw_4
  obtain ⟨_Av7, _Cv7, _ev7⟩ := _q7.val
  subst _ev7
  have _lv7 := _q7.len
  have _hiv7 := _q7.lt
  refine WL_step rfl rfl (r_fieldAddr fa42_1 rfl) ?_
  have _f_5 := (_m1.ch0 _cw_4)
  refine WL_step rfl rfl (r_loadAt _f_5.at_ agg37 rfl rfl) ?_
  refine WL_s rfl rfl ?_
  have _f_7 := ((_h_aA.ch0 _cw_2).ch0 _cw_4)
  refine s_append (cs := bcs) el37 sz4 by4 zr4 rfl (by decide) bcs_one _q7 _f_7 rfl rfl (by first | omega | (simp only [List.length_append, List.length_nil, List.length_cons, List.length_replicate, List.length_set, List.length_reverse, List.length_map] at *; omega) | (simp at *; omega)) (by first | omega | (simp only [List.length_append, List.length_nil, List.length_cons, List.length_replicate, List.length_set, List.length_reverse, List.length_map] at *; omega) | (simp at *; omega)) _lo7 (by omega) fun _v10 _w_6 _q10 _lo10 _ap10 _cw_6 => ?_
  have _cw_6z := _cw_6.size
  have E := E.step _cw_6 (fun i hi => .inl (by have _h1 := _lo7 _ hi; omega))
  replace _q10 : Ol bcs 4 1 _w_6 _v10 aA := _q10
  obtain ⟨_Av10, _Cv10, _ev10⟩ := _q10.val
  subst _ev10
  have _lv10 := _q10.len
  have _hiv10 := _q10.lt
  refine WL_step rfl rfl (r_assign rfl) ?_
  refine WL_nil ?_
  refine thn_nrm (_hK_3 _ _ ?_)
  clear _hK_3
  refine W_seq fun _K_8 _hK_8 => ?_
  refine W_seq fun _K_9 _hK_9 => ?_
  refine W_region ?_
  refine WL_step rfl rfl (r_assign rfl) ?_
  refine WL_nil ?_
  refine thn_nrm (_hK_9 _ _ ?_)
  clear _hK_9
  refine W_block ?_
  have _oi_10 : Ol bcs 4 1 _w_6 (.slice _Av10 (aA).length _Cv10) (aA) := by
    have hx := _q10
    exact hx
  have _f_11 := (_f_5.ch _cw_6 (fun hm => by have _h1 := _lo7 _ hm; have _h2 := _hiv7 _ hm; omega))
  have _f_12 := (_f_7.ch _cw_6 (fun i hi => by have _h1 := _lo7 _ hi; omega))
  refine W_loop (σ := Nat × List Bool) (fun ⟨j, _o1⟩ => [(1, (.pointer (some ⟨_b1, 0, none⟩))), (2, (.slice none 0 0)), (3, (.slice _Av10 (aA).length _Cv10)), (4, (.int .i64 ((j : Nat) : Int)))]) (fun ⟨j, _o1⟩ wx => Ch [] w wx ∧ _w_6.heap.size ≤ wx.heap.size ∧ (j ≤ aA.length) ∧ (_o1.length = aA.length) ∧ (ClBelow (LiveB aA) (EdgeA aN) _o1) ∧ (ClAbove (LiveB aA) (EdgeA aN) _o1 j) ∧ Blk wx _b1 42 [(.int .i64 aS), (.slice _A_aA aA.length _C_aA), (.slice _A_saN saN.length _C_saN)] ∧ Ls bcs 1 wx LL_aA w.heap.size (.slice _A_aA aA.length _C_aA) aA ∧ Ol bcs 4 1 wx (.slice _Av10 (aA).length _Cv10) _o1) (fun ⟨j, _o1⟩ => aA.length - j) (0, aA) (Sub.cons rfl (Sub.cons rfl (Sub.cons rfl (Sub.cons rfl (Sub.nil _))))) ⟨E, (Nat.le_refl _), (by omega), rfl, (fun s h => .base h), (fun s h => h), _f_11, _f_12, _oi_10⟩ ?_
  rintro ⟨j, _o1⟩ _wr_13 ⟨E, _zz0, hj, hl1, hb1, ha1, _F0_0, _F0_1, _o0_3⟩
  have _E0h := E
  have _E0hz := _E0h.size
  have _F0_0z := _F0_0.lt
  refine W_seq fun _K_14 _hK_14 => ?_
  refine W_seq fun _K_15 _hK_15 => ?_
  refine W_region ?_
  refine WL_step rfl rfl (r_move rfl) ?_
  refine WL_step rfl rfl (r_fieldAddr fa42_1 rfl) ?_
  refine WL_step rfl rfl (r_loadAt _F0_0.at_ agg37 rfl rfl) ?_
  refine WL_step rfl rfl (r_len (by rw [el37]; rfl) rfl) ?_
  refine WL_step rfl rfl (r_lss rfl rfl) ?_
  refine WL_nil ?_
  refine thn_nrm (_hK_15 _ _ ?_)
  clear _hK_15
  refine W_cond rfl (fun _h15 => ?_) (fun _h15 => ?_)
  · have _kb_16 := _h15
    have _h15 := bt_d _h15
    refine W_skip ?_
    refine thn_nrm (_hK_14 _ _ ?_)
    clear _hK_14
    refine W_seq fun _K_17 _hK_17 => ?_
    refine W_block ?_
    refine W_seq fun _K_18 _hK_18 => ?_
    refine W_region ?_
    refine WL_step rfl rfl (r_assign rfl) ?_
    refine WL_nil ?_
    refine thn_nrm (_hK_18 _ _ ?_)
    clear _hK_18
    refine W_block ?_
    have _oi_19 : Ol bcs 4 1 _wr_13 (.slice _Av10 (aA).length _Cv10) (_o1) := by
      have hx := _o0_3
      exact hx
    refine W_loop (σ := Nat × List Bool) (fun ⟨s, _o2⟩ => [(1, (.pointer (some ⟨_b1, 0, none⟩))), (2, (.slice none 0 0)), (3, (.slice _Av10 (aA).length _Cv10)), (4, (.int .i64 ((j : Nat) : Int))), (5, (.int .i64 ((s : Nat) : Int))), (11, (.int .i64 ((j : Nat) : Int))), (12, (.pointer (some (Addr.add ⟨_b1, 0, none⟩ 1)))), (13, (.slice _A_aA aA.length _C_aA)), (14, (.int .i64 ((aA.length : Nat) : Int))), (15, (.bool (decide (((j : Nat) : Int) < ((aA.length : Nat) : Int)))))]) (fun ⟨s, _o2⟩ wx => Ch [] w wx ∧ _wr_13.heap.size ≤ wx.heap.size ∧ (s ≤ aA.length) ∧ (_o2.length = aA.length) ∧ (ClBelow (LiveB aA) (EdgeA aN) _o2) ∧ (ClAbove (LiveB aA) (EdgeA aN) _o2 j) ∧ (UpTo aA aN j _o2 s) ∧ Blk wx _b1 42 [(.int .i64 aS), (.slice _A_aA aA.length _C_aA), (.slice _A_saN saN.length _C_saN)] ∧ Ls bcs 1 wx LL_aA w.heap.size (.slice _A_aA aA.length _C_aA) aA ∧ Ol bcs 4 1 wx (.slice _Av10 (aA).length _Cv10) _o2) (fun ⟨s, _o2⟩ => aA.length - s) (0, _o1) (Sub.cons rfl (Sub.cons rfl (Sub.cons rfl (Sub.cons rfl (Sub.cons rfl (Sub.cons rfl (Sub.cons rfl (Sub.cons rfl (Sub.cons rfl (Sub.cons rfl (Sub.nil _))))))))))) ⟨E, (Nat.le_refl _), (by omega), hl1, hb1, ha1, upto_zero, _F0_0, _F0_1, _oi_19⟩ ?_
    rintro ⟨s, _o2⟩ _wr_20 ⟨E, _zz1, hs, hl2, hb2, ha2, hu2, _F1_0, _F1_1, _o1_3⟩
    have _E1h := E
    have _E1hz := _E1h.size
    have _F1_0z := _F1_0.lt
    refine W_seq fun _K_21 _hK_21 => ?_
    refine W_seq fun _K_22 _hK_22 => ?_
    refine W_region ?_
    refine WL_step rfl rfl (r_move rfl) ?_
    refine WL_step rfl rfl (r_fieldAddr fa42_1 rfl) ?_
    refine WL_step rfl rfl (r_loadAt _F1_0.at_ agg37 rfl rfl) ?_
    refine WL_step rfl rfl (r_len (by rw [el37]; rfl) rfl) ?_
    refine WL_step rfl rfl (r_lss rfl rfl) ?_
    refine WL_nil ?_
    refine thn_nrm (_hK_22 _ _ ?_)
    clear _hK_22
    refine W_cond rfl (fun _h22 => ?_) (fun _h22 => ?_)
    · have _kb_23 := _h22
      have _h22 := bt_d _h22
      refine W_skip ?_
      refine thn_nrm (_hK_21 _ _ ?_)
      clear _hK_21
      refine W_seq fun _K_24 _hK_24 => ?_
      refine W_block ?_
      refine W_seq fun _K_25 _hK_25 => ?_
      refine W_region ?_
      refine WL_step rfl rfl (r_assign rfl) ?_
      refine WL_nil ?_
      refine thn_nrm (_hK_25 _ _ ?_)
      clear _hK_25
      refine W_block ?_
      have _oi_26 : Ol bcs 4 1 _wr_20 (.slice _Av10 (aA).length _Cv10) (_o2) := by
        have hx := _o1_3
        exact hx
      refine W_loop (σ := Nat × List Bool) (fun ⟨k, _o3⟩ => [(1, (.pointer (some ⟨_b1, 0, none⟩))), (2, (.slice none 0 0)), (3, (.slice _Av10 (aA).length _Cv10)), (4, (.int .i64 ((j : Nat) : Int))), (5, (.int .i64 ((s : Nat) : Int))), (6, (.int .i64 ((k : Nat) : Int))), (11, (.int .i64 ((j : Nat) : Int))), (12, (.pointer (some (Addr.add ⟨_b1, 0, none⟩ 1)))), (13, (.slice _A_aA aA.length _C_aA)), (14, (.int .i64 ((aA.length : Nat) : Int))), (15, (.bool (decide (((j : Nat) : Int) < ((aA.length : Nat) : Int))))), (18, (.int .i64 ((s : Nat) : Int))), (19, (.pointer (some (Addr.add ⟨_b1, 0, none⟩ 1)))), (20, (.slice _A_aA aA.length _C_aA)), (21, (.int .i64 ((aA.length : Nat) : Int))), (22, (.bool (decide (((s : Nat) : Int) < ((aA.length : Nat) : Int)))))]) (fun ⟨k, _o3⟩ wx => Ch [] w wx ∧ _wr_20.heap.size ≤ wx.heap.size ∧ (k ≤ 9) ∧ (_o3.length = aA.length) ∧ (ClBelow (LiveB aA) (EdgeA aN) _o3) ∧ (ClAbove (LiveB aA) (EdgeA aN) _o3 j) ∧ (UpTo aA aN j _o3 s) ∧ (RowUp aA aN j _o3 s k) ∧ Blk wx _b1 42 [(.int .i64 aS), (.slice _A_aA aA.length _C_aA), (.slice _A_saN saN.length _C_saN)] ∧ Ls bcs 1 wx LL_aA w.heap.size (.slice _A_aA aA.length _C_aA) aA ∧ Ol bcs 4 1 wx (.slice _Av10 (aA).length _Cv10) _o3) (fun ⟨k, _o3⟩ => 9 - k) (0, _o2) (Sub.cons rfl (Sub.cons rfl (Sub.cons rfl (Sub.cons rfl (Sub.cons rfl (Sub.cons rfl (Sub.cons rfl (Sub.cons rfl (Sub.cons rfl (Sub.cons rfl (Sub.cons rfl (Sub.cons rfl (Sub.cons rfl (Sub.cons rfl (Sub.cons rfl (Sub.cons rfl (Sub.nil _))))))))))))))))) ⟨E, (Nat.le_refl _), (by omega), hl2, hb2, ha2, hu2, rowup_zero, _F1_0, _F1_1, _oi_26⟩ ?_
      rintro ⟨k, _o3⟩ _wr_27 ⟨E, _zz2, _hk, hl3, hb3, ha3, hu3, hr3, _F2_0, _F2_1, _o2_3⟩
      have _E2h := E
      have _E2hz := _E2h.size
      have _F2_0z := _F2_0.lt
      refine W_seq fun _K_28 _hK_28 => ?_
      refine W_seq fun _K_29 _hK_29 => ?_
      refine W_region ?_
      refine WL_step rfl rfl (r_move rfl) ?_
      refine WL_step rfl rfl (r_lss rfl rfl) ?_
      refine WL_nil ?_
      refine thn_nrm (_hK_29 _ _ ?_)
      clear _hK_29
      refine W_cond rfl (fun _h26 => ?_) (fun _h26 => ?_)
      · have _kb_30 := _h26
        have _h26 := bt_d _h26
        refine W_skip ?_
        refine thn_nrm (_hK_28 _ _ ?_)
        clear _hK_28
        refine W_seq fun _K_31 _hK_31 => ?_
        refine W_block ?_
        refine W_seq fun _K_32 _hK_32 => ?_
        refine W_region ?_
        refine WL_step rfl rfl (r_fieldAddr fa42_2 rfl) ?_
        refine WL_step rfl rfl (r_loadAt _F2_0.at_ agg26 rfl rfl) ?_
        refine WL_step rfl rfl (r_move rfl) ?_
        refine WL_s rfl rfl ?_
        have _f_33 := (_h_saN.ch0 _E2h)
        refine (s_index _f_33 Sv.len el26 sz46 rfl rfl rfl (by omega) fun _p32 _y32 _hy32 _a32 => ?_)
        have _f_34 := (_rd_aN.ch0 _E2h)
        obtain ⟨_ys32, _hys32, _fs32⟩ := _f_34.get _hy32
        obtain ⟨_A32, _n32, _C32⟩ := _y32
        obtain rfl := _fs32.eqn
        have _l32 := _fs32.len
        replace _fs32 : Ls ics 1 _wr_27 LR_aN w.heap.size (.slice _A32 _ys32.length _C32) _ys32 := _fs32
        replace _a32 : At _wr_27 LL_saN w.heap.size _p32 ([(.slice _A32 _ys32.length _C32)]) := _a32
        have _e32 := (fits_row hv.2 _hys32).1
        refine WL_step rfl rfl (r_loadAt0 _a32 agg46 rfl rfl) ?_
        refine WL_step rfl rfl (r_move rfl) ?_
        refine WL_s rfl rfl ?_
        refine (s_index _fs32 ics_len el46 sz3 rfl rfl rfl (by omega) fun _p35 _y35 _hy35 _a35 => ?_)
        refine WL_step rfl rfl (r_loadAt0 _a35 agg3 rfl rfl) ?_
        refine WL_step rfl rfl (r_geq rfl rfl) ?_
        refine WL_step rfl rfl (r_move rfl) ?_
        refine WL_split (d := 38) rfl (fun _h38 => ?_) (fun _h38 => ?_)
        · have _kb_35 := _h38
          have _h38 := bt_d _h38
          refine WL_step rfl rfl (r_move rfl) ?_
          refine WL_step rfl rfl (r_fieldAddr fa42_2 rfl) ?_
          refine WL_step rfl rfl (r_loadAt _F2_0.at_ agg26 rfl rfl) ?_
          refine WL_step rfl rfl (r_move rfl) ?_
          refine WL_s rfl rfl ?_
          refine (s_index _f_33 Sv.len el26 sz46 rfl rfl rfl (by omega) fun _p43 _y43 _hy43 _a43 => ?_)
          obtain ⟨_ys43, _hys43, _fs43⟩ := _f_34.get _hy43
          obtain ⟨_A43, _n43, _C43⟩ := _y43
          obtain rfl := _fs43.eqn
          have _l43 := _fs43.len
          replace _fs43 : Ls ics 1 _wr_27 LR_aN w.heap.size (.slice _A43 _ys43.length _C43) _ys43 := _fs43
          replace _a43 : At _wr_27 LL_saN w.heap.size _p43 ([(.slice _A43 _ys43.length _C43)]) := _a43
          have _e43 := (fits_row hv.2 _hys43).1
          refine WL_step rfl rfl (r_loadAt0 _a43 agg46 rfl rfl) ?_
          refine WL_step rfl rfl (r_move rfl) ?_
          refine WL_s rfl rfl ?_
          refine (s_index _fs43 ics_len el46 sz3 rfl rfl rfl (by omega) fun _p46 _y46 _hy46 _a46 => ?_)
          have _e46 := get_uniq _hy35 ((get_uniq _hys43 _hys32) ▸ _hy46)
          have f46 := fits_el hv.2 _hys43 _hy46
          refine WL_step rfl rfl (r_loadAt0 _a46 agg3 rfl rfl) ?_
          refine WL_s rfl rfl ?_
          refine (s_index (j := _y46.toNat) _o2_3.ls bcs_len el37 sz4 rfl rfl (by omega) (by omega) fun _p48 _y48 _hy48 _a48 => ?_)
          refine WL_step rfl rfl (r_loadAt0 _a48 agg4 rfl rfl) ?_
          refine WL_step rfl rfl (r_pickT rfl rfl) ?_
          refine WL_nil ?_
          refine thn_nrm (_hK_32 _ _ ?_)
          clear _hK_32
          refine W_cond rfl (fun _h50 => ?_) (fun _h50 => ?_)
          · have _kb_36 := _h50
            refine W_region ?_
            refine WL_step rfl rfl (r_move rfl) ?_
            refine WL_step rfl rfl (r_move rfl) ?_
            refine WL_s rfl rfl ?_
            refine s_indexO (j := s) _o2_3 el37 sz4 rfl rfl rfl (by omega) fun _g53 _o53 _cp53 _q53 => ?_
            refine WL_s rfl rfl ?_
            refine s_storeO (j := s) true _o2_3 _q53 bcs_len sz4 rfl rfl rfl rfl (by omega) fun _w_37 _o_38 _cw_37 => ?_
            have _cw_37z := _cw_37.size
            have E := E.step _cw_37 (fun i hi => .inl (by have _h1 := _lo10 _ hi; omega))
            refine WL_nil ?_
            refine inB_nrm ?_
            refine thn_nrm (_hK_31 _ _ ?_)
            clear _hK_31
            refine W_region ?_
            refine WL_step rfl rfl (r_move rfl) ?_
            refine WL_step rfl rfl (r_add (by omega) rfl rfl) ?_
            refine WL_step rfl rfl (r_assign rfl) ?_
            refine WL_nil ?_
            have _on_39 : Ol bcs 4 1 _w_37 (.slice _Av10 (aA).length _Cv10) ((_o3.set s true)) := by
              have hx := _o_38
              exact hx
            have _f_40 := (_F2_0.ch _cw_37 (fun hm => by rcases _ap10 with ea | ea; (rw [ea] at hm; have _h1 := _lo7 _ hm; have _h2 := _hiv7 _ hm; omega); (rw [ea] at hm; have _z1 := List.mem_singleton.1 hm; omega)))
            have _f_41 := (_F2_1.ch _cw_37 (fun i hi => by have _h1 := _lo10 _ hi; omega))
            exact thn_nrm (Exists.intro ((k + 1), (_o3.set s true)) ⟨⟨E, (by omega), (by omega), (by first | exact hl3 | simpa using hl3), (by first | exact hb3 | exact set_below hb3 (.step (t := _y46.toNat) ⟨k, _ys43, _hys43, by rw [_hy46, Int.toNat_of_nonneg (by omega)]⟩ (hb3 _ (by rw [_hy48, _h50])))), (by first | exact ha3 | exact set_above ha3), (by first | exact hu3 | exact upto_set hu3), (by first | exact rowup_hit (by omega) | exact rowup_miss hr3 _hys32 _hy35 (fun t e _ => by omega) ha3 | exact rowup_miss hr3 _hys32 _hy35 (fun t e q => by obtain rfl : t = _y46.toNat := (by omega); rw [_hy48, _h50] at q; cases q) ha3), _f_40, _f_41, _on_39⟩, Sub.cons rfl (Sub.cons rfl (Sub.cons rfl (Sub.cons rfl (Sub.cons rfl (Sub.cons rfl (Sub.cons rfl (Sub.cons rfl (Sub.cons rfl (Sub.cons rfl (Sub.cons rfl (Sub.cons rfl (Sub.cons rfl (Sub.cons rfl (Sub.cons rfl (Sub.cons rfl (Sub.nil _)))))))))))))))), (by first | omega | (dsimp only; omega))⟩)
          · have _kb_36 := _h50
            refine W_skip ?_
            refine inB_nrm ?_
            refine thn_nrm (_hK_31 _ _ ?_)
            clear _hK_31
            refine W_region ?_
            refine WL_step rfl rfl (r_move rfl) ?_
            refine WL_step rfl rfl (r_add (by omega) rfl rfl) ?_
            refine WL_step rfl rfl (r_assign rfl) ?_
            refine WL_nil ?_
            have _on_42 : Ol bcs 4 1 _wr_27 (.slice _Av10 (aA).length _Cv10) (_o3) := by
              have hx := _o2_3
              exact hx
            exact thn_nrm (Exists.intro ((k + 1), _o3) ⟨⟨E, (by omega), (by omega), (by first | exact hl3 | simpa using hl3), (by first | exact hb3 | exact set_below hb3 (.step (t := _y46.toNat) ⟨k, _ys43, _hys43, by rw [_hy46, Int.toNat_of_nonneg (by omega)]⟩ (hb3 _ (by rw [_hy48, _h50])))), (by first | exact ha3 | exact set_above ha3), (by first | exact hu3 | exact upto_set hu3), (by first | exact rowup_hit (by omega) | exact rowup_miss hr3 _hys32 _hy35 (fun t e _ => by omega) ha3 | exact rowup_miss hr3 _hys32 _hy35 (fun t e q => by obtain rfl : t = _y46.toNat := (by omega); rw [_hy48, _h50] at q; cases q) ha3), _F2_0, _F2_1, _on_42⟩, Sub.cons rfl (Sub.cons rfl (Sub.cons rfl (Sub.cons rfl (Sub.cons rfl (Sub.cons rfl (Sub.cons rfl (Sub.cons rfl (Sub.cons rfl (Sub.cons rfl (Sub.cons rfl (Sub.cons rfl (Sub.cons rfl (Sub.cons rfl (Sub.cons rfl (Sub.cons rfl (Sub.nil _)))))))))))))))), (by first | omega | (dsimp only; omega))⟩)
        · have _kb_35 := _h38
          have _h38 := bf_d _h38
          refine WL_skip rfl rfl ?_
          refine WL_skip rfl rfl ?_
          refine WL_skip rfl rfl ?_
          refine WL_skip rfl rfl ?_
          refine WL_skip rfl rfl ?_
          refine WL_skip rfl rfl ?_
          refine WL_skip rfl rfl ?_
          refine WL_skip rfl rfl ?_
          refine WL_skip rfl rfl ?_
          refine WL_skip rfl rfl ?_
          refine WL_skip rfl rfl ?_
          refine WL_step rfl rfl (r_pickF rfl rfl) ?_
          refine WL_nil ?_
          refine thn_nrm (_hK_32 _ _ ?_)
          clear _hK_32
          refine W_condF rfl ?_
          refine W_skip ?_
          refine inB_nrm ?_
          refine thn_nrm (_hK_31 _ _ ?_)
          clear _hK_31
          refine W_region ?_
          refine WL_step rfl rfl (r_move rfl) ?_
          refine WL_step rfl rfl (r_add (by omega) rfl rfl) ?_
          refine WL_step rfl rfl (r_assign rfl) ?_
          refine WL_nil ?_
          have _on_43 : Ol bcs 4 1 _wr_27 (.slice _Av10 (aA).length _Cv10) (_o3) := by
            have hx := _o2_3
            exact hx
          exact thn_nrm (Exists.intro ((k + 1), _o3) ⟨⟨E, (by omega), (by omega), (by first | exact hl3 | simpa using hl3), (by first | exact hb3 | exact set_below hb3 (.step (t := _y46.toNat) ⟨k, _ys43, _hys43, by rw [_hy46, Int.toNat_of_nonneg (by omega)]⟩ (hb3 _ (by rw [_hy48, _h50])))), (by first | exact ha3 | exact set_above ha3), (by first | exact hu3 | exact upto_set hu3), (by first | exact rowup_hit (by omega) | exact rowup_miss hr3 _hys32 _hy35 (fun t e _ => by omega) ha3 | exact rowup_miss hr3 _hys32 _hy35 (fun t e q => by obtain rfl : t = _y46.toNat := (by omega); rw [_hy48, _h50] at q; cases q) ha3), _F2_0, _F2_1, _on_43⟩, Sub.cons rfl (Sub.cons rfl (Sub.cons rfl (Sub.cons rfl (Sub.cons rfl (Sub.cons rfl (Sub.cons rfl (Sub.cons rfl (Sub.cons rfl (Sub.cons rfl (Sub.cons rfl (Sub.cons rfl (Sub.cons rfl (Sub.cons rfl (Sub.cons rfl (Sub.cons rfl (Sub.nil _)))))))))))))))), (by first | omega | (dsimp only; omega))⟩)
      · have _kb_30 := _h26
        have _h26 := bf_d _h26
        refine W_exit (thn_exit (thn_exit (inB_hit ?_)))
        refine inB_nrm ?_
        refine thn_nrm (_hK_24 _ _ ?_)
        clear _hK_24
        refine W_region ?_
        refine WL_step rfl rfl (r_move rfl) ?_
        refine WL_step rfl rfl (r_add (by omega) rfl rfl) ?_
        refine WL_step rfl rfl (r_assign rfl) ?_
        refine WL_nil ?_
        have _on_44 : Ol bcs 4 1 _wr_27 (.slice _Av10 (aA).length _Cv10) (_o3) := by
          have hx := _o2_3
          exact hx
        exact thn_nrm (Exists.intro ((s + 1), _o3) ⟨⟨E, (by omega), (by omega), hl3, hb3, ha3, (upto_row hu3 hr3 (fun r hr => by have _h1 := (fits_row hv.2 hr).1; omega)), _F2_0, _F2_1, _on_44⟩, Sub.cons rfl (Sub.cons rfl (Sub.cons rfl (Sub.cons rfl (Sub.cons rfl (Sub.cons rfl (Sub.cons rfl (Sub.cons rfl (Sub.cons rfl (Sub.cons rfl (Sub.nil _)))))))))), (by first | omega | (dsimp only; omega))⟩)
    · have _kb_23 := _h22
      have _h22 := bf_d _h22
      refine W_exit (thn_exit (thn_exit (inB_hit ?_)))
      refine inB_nrm ?_
      refine thn_nrm (_hK_17 _ _ ?_)
      clear _hK_17
      refine W_region ?_
      refine WL_step rfl rfl (r_move rfl) ?_
      refine WL_step rfl rfl (r_add (by omega) rfl rfl) ?_
      refine WL_step rfl rfl (r_assign rfl) ?_
      refine WL_nil ?_
      have _on_45 : Ol bcs 4 1 _wr_20 (.slice _Av10 (aA).length _Cv10) (_o2) := by
        have hx := _o1_3
        exact hx
      exact thn_nrm (Exists.intro ((j + 1), _o2) ⟨⟨E, (by omega), (by omega), hl2, hb2, (round_up ha2 hu2 (by omega)), _F1_0, _F1_1, _on_45⟩, Sub.cons rfl (Sub.cons rfl (Sub.cons rfl (Sub.cons rfl (Sub.nil _)))), (by first | omega | (dsimp only; omega))⟩)
  · have _kb_16 := _h15
    have _h15 := bf_d _h15
    refine W_exit (thn_exit (thn_exit (inB_hit ?_)))
    refine thn_nrm (_hK_8 _ _ ?_)
    clear _hK_8
    refine W_seq fun _K_46 _hK_46 => ?_
    refine W_region ?_
    refine WL_step rfl rfl (r_move rfl) ?_
    refine WL_step rfl rfl (r_assign rfl) ?_
    refine WL_nil ?_
    refine thn_nrm (_hK_46 _ _ ?_)
    clear _hK_46
    refine W_ret ?_
    clear _hK_14
    have _o_47 : Ol bcs 4 1 _wr_13 (.slice _Av10 (aA).length _Cv10) (liveL aA aN) := by
      have hx := _o0_3
      (rw [← live_of_rounds hl1 hv2 hb1 ha1 (by omega)]; exact hx)
    exact ret_intro [_] ⟨rfl, trivial⟩ ⟨_o_47, Lo.down _lo10 (by omega), E⟩

/-- spec.l11Reach -/
theorem c_spec_l11Reach {w : World} (aS : Int) {LL_aA _B_aA : Nat} {_v_aA : Value} {aA : List Bool} (_h_aA : Ls bcs 1 w LL_aA _B_aA _v_aA aA) {LL_saN _B_saN : Nat} {_v_saN : Value} {saN : List Sv} (_h_saN : Ls Sv.cs 1 w LL_saN _B_saN _v_saN saN) {LR_aN BB_aN : Nat} {aN : List (List Int)} (_rd_aN : Rd ics 1 w LR_aN BB_aN saN aN) (hv : ValidA aS aA aN) :
    Ctr Try.prog 119 #[(.agg #[(.int .i64 aS), _v_aA, _v_saN])] w (fun v w' => Ol bcs 4 1 w' v (reachL aS aA.length aN) ∧ Lo w.heap.size v ∧ Ch [] w w') := by
  obtain ⟨_A_aA, _C_aA, _e1_aA⟩ := _h_aA.val
  subst _e1_aA
  have _l_aA := _h_aA.len
  have _h_aA := _h_aA.here (by decide)
  obtain ⟨_A_saN, _C_saN, _e1_saN⟩ := _h_saN.val
  subst _e1_saN
  have _l_saN := _h_saN.len
  have _h_saN := _h_saN.here (by decide)
  have _rd_aN := _rd_aN.here (by decide)
  have _rl_aN := _rd_aN.1
  have E := Ch.refl [] w
  have hv2 := hv.2.2.1; have hv1 := hv.1; have hv0 := hv.2.1
  refine Ctr_of_W (N := 59) (vs0 := [(.agg #[(.int .i64 aS), (.slice _A_aA aA.length _C_aA), (.slice _A_saN saN.length _C_saN)])]) Try.func119 rfl rfl rfl ?_
  refine W_seq fun _K_1 _hK_1 => ?_
  refine W_region ?_
  refine WL_s rfl rfl ?_
  refine s_box rfl fun _b1 _w_2 _m1 _cw_2 _e1 => ?_
  have _cw_2z := _cw_2.size
  have E := E.trans _cw_2
  have _z1 := _m1.lt
  replace _m1 : Blk _w_2 _b1 42 [(.int .i64 aS), (.slice _A_aA aA.length _C_aA), (.slice _A_saN saN.length _C_saN)] := _m1
  refine WL_step rfl rfl (r_assign rfl) ?_
  refine WL_nil ?_
  refine thn_nrm (_hK_1 _ _ ?_)
  clear _hK_1
  refine W_seq fun _K_3 _hK_3 => ?_
  refine W_region ?_
  refine WL_step rfl rfl (r_fieldAddr fa42_1 rfl) ?_
  refine WL_step rfl rfl (r_loadAt _m1.at_ agg37 rfl rfl) ?_
  refine WL_step rfl rfl (r_len (by rw [el37]; rfl) rfl) ?_
  refine WL_s rfl rfl ?_
  refine s_make (cs := bcs) false el37 sz4 by4 zr4 bcs_len (by decide) rfl rfl (by omega) (by omega) fun _v10 _w_4 _q10 _lo10 _cw_4 => ?_
  have _cw_4z := _cw_4.size
  have E := E.trans _cw_4
  obtain ⟨_Av10, _Cv10, _ev10⟩ := _q10.val
  subst _ev10
  have _lv10 := _q10.len
  have _hiv10 := _q10.lt
  refine WL_step rfl rfl (r_assign rfl) ?_
  refine WL_nil ?_
  refine thn_nrm (_hK_3 _ _ ?_)
  clear _hK_3
  refine W_seq fun _K_5 _hK_5 => ?_
  refine W_region ?_
  refine WL_step rfl rfl (r_move rfl) ?_
  refine WL_step rfl rfl (r_fieldAddr fa42_0 rfl) ?_
  have _f_6 := (_m1.ch0 _cw_4)
  refine WL_step rfl rfl (r_loadAt _f_6.at_ agg3 rfl rfl) ?_
  refine WL_s rfl rfl ?_
  refine s_indexO (j := aS.toNat) _q10 el37 sz4 rfl rfl (by omega) (by (first | omega | (simp only [List.length_replicate, List.length_set]; omega))) fun _g14 _o14 _cp14 _q14 => ?_
  refine WL_s rfl rfl ?_
  refine s_storeO (j := aS.toNat) true _q10 _q14 bcs_len sz4 rfl rfl rfl rfl (by (first | omega | (simp only [List.length_replicate, List.length_set]; omega))) fun _w_7 _o_8 _cw_7 => ?_
  have _cw_7z := _cw_7.size
  have E := E.step _cw_7 (fun i hi => .inl (by have _h1 := _lo10 _ hi; omega))
  refine WL_nil ?_
  refine thn_nrm (_hK_5 _ _ ?_)
  clear _hK_5
  refine W_seq fun _K_9 _hK_9 => ?_
  refine W_seq fun _K_10 _hK_10 => ?_
  refine W_region ?_
  refine WL_step rfl rfl (r_assign rfl) ?_
  refine WL_nil ?_
  refine thn_nrm (_hK_10 _ _ ?_)
  clear _hK_10
  refine W_block ?_
  have _oi_11 : Ol bcs 4 1 _w_7 (.slice _Av10 ((List.replicate aA.length false)).length _Cv10) (((List.replicate aA.length false).set aS.toNat true)) := by
    have hx := _o_8
    exact hx
  have _f_12 := (_f_6.ch _cw_7 (fun hm => by have _h1 := _lo10 _ hm; have _h2 := _hiv10 _ hm; omega))
  refine W_loop (σ := Nat × List Bool) (fun ⟨j, _o1⟩ => [(1, (.pointer (some ⟨_b1, 0, none⟩))), (2, (.slice none 0 0)), (3, (.slice _Av10 ((List.replicate aA.length false)).length _Cv10)), (4, (.int .i64 ((j : Nat) : Int)))]) (fun ⟨j, _o1⟩ wx => Ch [] w wx ∧ _w_7.heap.size ≤ wx.heap.size ∧ (j ≤ aA.length) ∧ (_o1.length = aA.length) ∧ (ClBelow (ReachB aS) (BackA aN) _o1) ∧ (ClAbove (ReachB aS) (BackA aN) _o1 j) ∧ Blk wx _b1 42 [(.int .i64 aS), (.slice _A_aA aA.length _C_aA), (.slice _A_saN saN.length _C_saN)] ∧ Ol bcs 4 1 wx (.slice _Av10 ((List.replicate aA.length false)).length _Cv10) _o1) (fun ⟨j, _o1⟩ => aA.length - j) (0, ((List.replicate aA.length false).set aS.toNat true)) (Sub.cons rfl (Sub.cons rfl (Sub.cons rfl (Sub.cons rfl (Sub.nil _))))) ⟨E, (Nat.le_refl _), (by omega), (by simp), (reach_base (by omega) (by omega)), (reach_base2 (by omega) (by omega)), _f_12, _oi_11⟩ ?_
  rintro ⟨j, _o1⟩ _wr_13 ⟨E, _zz0, hj, hl1, hb1, ha1, _F0_0, _o0_3⟩
  have _E0h := E
  have _E0hz := _E0h.size
  have _F0_0z := _F0_0.lt
  refine W_seq fun _K_14 _hK_14 => ?_
  refine W_seq fun _K_15 _hK_15 => ?_
  refine W_region ?_
  refine WL_step rfl rfl (r_move rfl) ?_
  refine WL_step rfl rfl (r_fieldAddr fa42_1 rfl) ?_
  refine WL_step rfl rfl (r_loadAt _F0_0.at_ agg37 rfl rfl) ?_
  refine WL_step rfl rfl (r_len (by rw [el37]; rfl) rfl) ?_
  refine WL_step rfl rfl (r_lss rfl rfl) ?_
  refine WL_nil ?_
  refine thn_nrm (_hK_15 _ _ ?_)
  clear _hK_15
  refine W_cond rfl (fun _h19 => ?_) (fun _h19 => ?_)
  · have _kb_16 := _h19
    have _h19 := bt_d _h19
    refine W_skip ?_
    refine thn_nrm (_hK_14 _ _ ?_)
    clear _hK_14
    refine W_seq fun _K_17 _hK_17 => ?_
    refine W_block ?_
    refine W_seq fun _K_18 _hK_18 => ?_
    refine W_region ?_
    refine WL_step rfl rfl (r_assign rfl) ?_
    refine WL_nil ?_
    refine thn_nrm (_hK_18 _ _ ?_)
    clear _hK_18
    refine W_block ?_
    have _oi_19 : Ol bcs 4 1 _wr_13 (.slice _Av10 ((List.replicate aA.length false)).length _Cv10) (_o1) := by
      have hx := _o0_3
      exact hx
    refine W_loop (σ := Nat × List Bool) (fun ⟨s, _o2⟩ => [(1, (.pointer (some ⟨_b1, 0, none⟩))), (2, (.slice none 0 0)), (3, (.slice _Av10 ((List.replicate aA.length false)).length _Cv10)), (4, (.int .i64 ((j : Nat) : Int))), (5, (.int .i64 ((s : Nat) : Int))), (19, (.bool (decide (((j : Nat) : Int) < ((aA.length : Nat) : Int)))))]) (fun ⟨s, _o2⟩ wx => Ch [] w wx ∧ _wr_13.heap.size ≤ wx.heap.size ∧ (s ≤ aA.length) ∧ (_o2.length = aA.length) ∧ (ClBelow (ReachB aS) (BackA aN) _o2) ∧ (ClAbove (ReachB aS) (BackA aN) _o2 j) ∧ (FUp aS aN j _o2 s) ∧ Blk wx _b1 42 [(.int .i64 aS), (.slice _A_aA aA.length _C_aA), (.slice _A_saN saN.length _C_saN)] ∧ Ol bcs 4 1 wx (.slice _Av10 ((List.replicate aA.length false)).length _Cv10) _o2) (fun ⟨s, _o2⟩ => aA.length - s) (0, _o1) (Sub.cons rfl (Sub.cons rfl (Sub.cons rfl (Sub.cons rfl (Sub.cons rfl (Sub.cons rfl (Sub.nil _))))))) ⟨E, (Nat.le_refl _), (by omega), hl1, hb1, ha1, fup_zero, _F0_0, _oi_19⟩ ?_
    rintro ⟨s, _o2⟩ _wr_20 ⟨E, _zz1, hs, hl2, hb2, ha2, hu2, _F1_0, _o1_3⟩
    have _E1h := E
    have _E1hz := _E1h.size
    have _F1_0z := _F1_0.lt
    refine W_seq fun _K_21 _hK_21 => ?_
    refine W_seq fun _K_22 _hK_22 => ?_
    refine W_region ?_
    refine WL_step rfl rfl (r_move rfl) ?_
    refine WL_step rfl rfl (r_fieldAddr fa42_1 rfl) ?_
    refine WL_step rfl rfl (r_loadAt _F1_0.at_ agg37 rfl rfl) ?_
    refine WL_step rfl rfl (r_len (by rw [el37]; rfl) rfl) ?_
    refine WL_step rfl rfl (r_lss rfl rfl) ?_
    refine WL_nil ?_
    refine thn_nrm (_hK_22 _ _ ?_)
    clear _hK_22
    refine W_cond rfl (fun _h26 => ?_) (fun _h26 => ?_)
    · have _kb_23 := _h26
      have _h26 := bt_d _h26
      refine W_skip ?_
      refine thn_nrm (_hK_21 _ _ ?_)
      clear _hK_21
      refine W_seq fun _K_24 _hK_24 => ?_
      refine W_block ?_
      refine W_seq fun _K_25 _hK_25 => ?_
      refine W_region ?_
      refine WL_step rfl rfl (r_assign rfl) ?_
      refine WL_nil ?_
      refine thn_nrm (_hK_25 _ _ ?_)
      clear _hK_25
      refine W_block ?_
      have _oi_26 : Ol bcs 4 1 _wr_20 (.slice _Av10 ((List.replicate aA.length false)).length _Cv10) (_o2) := by
        have hx := _o1_3
        exact hx
      refine W_loop (σ := Nat × List Bool) (fun ⟨k, _o3⟩ => [(1, (.pointer (some ⟨_b1, 0, none⟩))), (2, (.slice none 0 0)), (3, (.slice _Av10 ((List.replicate aA.length false)).length _Cv10)), (4, (.int .i64 ((j : Nat) : Int))), (5, (.int .i64 ((s : Nat) : Int))), (6, (.int .i64 ((k : Nat) : Int))), (19, (.bool (decide (((j : Nat) : Int) < ((aA.length : Nat) : Int))))), (26, (.bool (decide (((s : Nat) : Int) < ((aA.length : Nat) : Int)))))]) (fun ⟨k, _o3⟩ wx => Ch [] w wx ∧ _wr_20.heap.size ≤ wx.heap.size ∧ (k ≤ 9) ∧ (_o3.length = aA.length) ∧ (ClBelow (ReachB aS) (BackA aN) _o3) ∧ (ClAbove (ReachB aS) (BackA aN) _o3 j) ∧ (FUp aS aN j _o3 s) ∧ (FRow aS aN j _o3 s k) ∧ Blk wx _b1 42 [(.int .i64 aS), (.slice _A_aA aA.length _C_aA), (.slice _A_saN saN.length _C_saN)] ∧ Ol bcs 4 1 wx (.slice _Av10 ((List.replicate aA.length false)).length _Cv10) _o3) (fun ⟨k, _o3⟩ => 9 - k) (0, _o2) (Sub.cons rfl (Sub.cons rfl (Sub.cons rfl (Sub.cons rfl (Sub.cons rfl (Sub.cons rfl (Sub.cons rfl (Sub.cons rfl (Sub.nil _))))))))) ⟨E, (Nat.le_refl _), (by omega), hl2, hb2, ha2, hu2, frow_zero, _F1_0, _oi_26⟩ ?_
      rintro ⟨k, _o3⟩ _wr_27 ⟨E, _zz2, _hk, hl3, hb3, ha3, hu3, hr3, _F2_0, _o2_3⟩
      have _E2h := E
      have _E2hz := _E2h.size
      have _F2_0z := _F2_0.lt
      refine W_seq fun _K_28 _hK_28 => ?_
      refine W_seq fun _K_29 _hK_29 => ?_
      refine W_region ?_
      refine WL_step rfl rfl (r_move rfl) ?_
      refine WL_step rfl rfl (r_lss rfl rfl) ?_
      refine WL_nil ?_
      refine thn_nrm (_hK_29 _ _ ?_)
      clear _hK_29
      refine W_cond rfl (fun _h30 => ?_) (fun _h30 => ?_)
      · have _kb_30 := _h30
        have _h30 := bt_d _h30
        refine W_skip ?_
        refine thn_nrm (_hK_28 _ _ ?_)
        clear _hK_28
        refine W_seq fun _K_31 _hK_31 => ?_
        refine W_block ?_
        refine W_seq fun _K_32 _hK_32 => ?_
        refine W_region ?_
        refine WL_step rfl rfl (r_move rfl) ?_
        refine WL_step rfl rfl (r_move rfl) ?_
        refine WL_s rfl rfl ?_
        refine (s_index _o2_3.ls bcs_len el37 sz4 rfl rfl rfl (by omega) fun _p35 _y35 _hy35 _a35 => ?_)
        refine WL_step rfl rfl (r_loadAt0 _a35 agg4 rfl rfl) ?_
        refine WL_step rfl rfl (r_move rfl) ?_
        refine WL_split (d := 37) rfl (fun _h37 => ?_) (fun _h37 => ?_)
        · have _kb_33 := _h37
          refine WL_step rfl rfl (r_fieldAddr fa42_2 rfl) ?_
          refine WL_step rfl rfl (r_loadAt _F2_0.at_ agg26 rfl rfl) ?_
          refine WL_step rfl rfl (r_move rfl) ?_
          refine WL_s rfl rfl ?_
          have _f_34 := (_h_saN.ch0 _E2h)
          refine (s_index _f_34 Sv.len el26 sz46 rfl rfl rfl (by omega) fun _p41 _y41 _hy41 _a41 => ?_)
          have _f_35 := (_rd_aN.ch0 _E2h)
          obtain ⟨_ys41, _hys41, _fs41⟩ := _f_35.get _hy41
          obtain ⟨_A41, _n41, _C41⟩ := _y41
          obtain rfl := _fs41.eqn
          have _l41 := _fs41.len
          replace _fs41 : Ls ics 1 _wr_27 LR_aN w.heap.size (.slice _A41 _ys41.length _C41) _ys41 := _fs41
          replace _a41 : At _wr_27 LL_saN w.heap.size _p41 ([(.slice _A41 _ys41.length _C41)]) := _a41
          have _e41 := (fits_row hv.2 _hys41).1
          refine WL_step rfl rfl (r_loadAt0 _a41 agg46 rfl rfl) ?_
          refine WL_step rfl rfl (r_move rfl) ?_
          refine WL_s rfl rfl ?_
          refine (s_index _fs41 ics_len el46 sz3 rfl rfl rfl (by omega) fun _p44 _y44 _hy44 _a44 => ?_)
          have f44 := fits_el hv.2 _hys41 _hy44
          refine WL_step rfl rfl (r_loadAt0 _a44 agg3 rfl rfl) ?_
          refine WL_step rfl rfl (r_geq rfl rfl) ?_
          refine WL_step rfl rfl (r_pickT rfl rfl) ?_
          refine WL_nil ?_
          refine thn_nrm (_hK_32 _ _ ?_)
          clear _hK_32
          refine W_cond rfl (fun _h47 => ?_) (fun _h47 => ?_)
          · have _kb_36 := _h47
            have _h47 := bt_d _h47
            refine W_region ?_
            refine WL_step rfl rfl (r_move rfl) ?_
            refine WL_step rfl rfl (r_fieldAddr fa42_2 rfl) ?_
            refine WL_step rfl rfl (r_loadAt _F2_0.at_ agg26 rfl rfl) ?_
            refine WL_step rfl rfl (r_move rfl) ?_
            refine WL_s rfl rfl ?_
            refine (s_index _f_34 Sv.len el26 sz46 rfl rfl rfl (by omega) fun _p52 _y52 _hy52 _a52 => ?_)
            obtain ⟨_ys52, _hys52, _fs52⟩ := _f_35.get _hy52
            obtain ⟨_A52, _n52, _C52⟩ := _y52
            obtain rfl := _fs52.eqn
            have _l52 := _fs52.len
            replace _fs52 : Ls ics 1 _wr_27 LR_aN w.heap.size (.slice _A52 _ys52.length _C52) _ys52 := _fs52
            replace _a52 : At _wr_27 LL_saN w.heap.size _p52 ([(.slice _A52 _ys52.length _C52)]) := _a52
            have _e52 := (fits_row hv.2 _hys52).1
            refine WL_step rfl rfl (r_loadAt0 _a52 agg46 rfl rfl) ?_
            refine WL_step rfl rfl (r_move rfl) ?_
            refine WL_s rfl rfl ?_
            refine (s_index _fs52 ics_len el46 sz3 rfl rfl rfl (by omega) fun _p55 _y55 _hy55 _a55 => ?_)
            have _e55 := get_uniq _hy44 ((get_uniq _hys52 _hys41) ▸ _hy55)
            have f55 := fits_el hv.2 _hys52 _hy55
            refine WL_step rfl rfl (r_loadAt0 _a55 agg3 rfl rfl) ?_
            refine WL_s rfl rfl ?_
            refine s_indexO (j := _y55.toNat) _o2_3 el37 sz4 rfl rfl (by omega) (by (first | omega | (simp only [List.length_replicate, List.length_set]; omega))) fun _g57 _o57 _cp57 _q57 => ?_
            refine WL_s rfl rfl ?_
            refine s_storeO (j := _y55.toNat) true _o2_3 _q57 bcs_len sz4 rfl rfl rfl rfl (by (first | omega | (simp only [List.length_replicate, List.length_set]; omega))) fun _w_37 _o_38 _cw_37 => ?_
            have _cw_37z := _cw_37.size
            have E := E.step _cw_37 (fun i hi => .inl (by have _h1 := _lo10 _ hi; omega))
            refine WL_nil ?_
            refine inB_nrm ?_
            refine thn_nrm (_hK_31 _ _ ?_)
            clear _hK_31
            refine W_region ?_
            refine WL_step rfl rfl (r_move rfl) ?_
            refine WL_step rfl rfl (r_add (by omega) rfl rfl) ?_
            refine WL_step rfl rfl (r_assign rfl) ?_
            refine WL_nil ?_
            have _on_39 : Ol bcs 4 1 _w_37 (.slice _Av10 ((List.replicate aA.length false)).length _Cv10) ((_o3.set _y55.toNat true)) := by
              have hx := _o_38
              exact hx
            have _f_40 := (_F2_0.ch _cw_37 (fun hm => by have _h1 := _lo10 _ hm; have _h2 := _hiv10 _ hm; omega))
            exact thn_nrm (Exists.intro ((k + 1), (_o3.set _y55.toNat true)) ⟨⟨E, (by omega), (by omega), (by first | exact hl3 | simpa using hl3), (by first | exact hb3 | exact set_below hb3 (.step (show BackA aN _y55.toNat s from ⟨k, _ys52, _hys52, by rw [_hy55, Int.toNat_of_nonneg (by omega)]⟩) (hb3 _ (by rw [_hy35, show _y35 = true from _h37])))), (by first | exact ha3 | exact set_above ha3), (by first | exact hu3 | exact fup_set hu3), (by first | exact frow_hit hr3 _hys52 _hy55 (by omega) (by omega) | exact frow_miss hr3 _hys41 _hy44 (fun t e _ => by omega) ha3 | exact frow_any hr3 (fun q => by rw [_hy35, _h37] at q; cases q) ha3), _f_40, _on_39⟩, Sub.cons rfl (Sub.cons rfl (Sub.cons rfl (Sub.cons rfl (Sub.cons rfl (Sub.cons rfl (Sub.cons rfl (Sub.cons rfl (Sub.nil _)))))))), (by first | omega | (dsimp only; omega))⟩)
          · have _kb_36 := _h47
            have _h47 := bf_d _h47
            refine W_skip ?_
            refine inB_nrm ?_
            refine thn_nrm (_hK_31 _ _ ?_)
            clear _hK_31
            refine W_region ?_
            refine WL_step rfl rfl (r_move rfl) ?_
            refine WL_step rfl rfl (r_add (by omega) rfl rfl) ?_
            refine WL_step rfl rfl (r_assign rfl) ?_
            refine WL_nil ?_
            have _on_41 : Ol bcs 4 1 _wr_27 (.slice _Av10 ((List.replicate aA.length false)).length _Cv10) (_o3) := by
              have hx := _o2_3
              exact hx
            exact thn_nrm (Exists.intro ((k + 1), _o3) ⟨⟨E, (by omega), (by omega), (by first | exact hl3 | simpa using hl3), (by first | exact hb3 | exact set_below hb3 (.step (show BackA aN _y55.toNat s from ⟨k, _ys52, _hys52, by rw [_hy55, Int.toNat_of_nonneg (by omega)]⟩) (hb3 _ (by rw [_hy35, show _y35 = true from _h37])))), (by first | exact ha3 | exact set_above ha3), (by first | exact hu3 | exact fup_set hu3), (by first | exact frow_hit hr3 _hys52 _hy55 (by omega) (by omega) | exact frow_miss hr3 _hys41 _hy44 (fun t e _ => by omega) ha3 | exact frow_any hr3 (fun q => by rw [_hy35, _h37] at q; cases q) ha3), _F2_0, _on_41⟩, Sub.cons rfl (Sub.cons rfl (Sub.cons rfl (Sub.cons rfl (Sub.cons rfl (Sub.cons rfl (Sub.cons rfl (Sub.cons rfl (Sub.nil _)))))))), (by first | omega | (dsimp only; omega))⟩)
        · have _kb_33 := _h37
          refine WL_skip rfl rfl ?_
          refine WL_skip rfl rfl ?_
          refine WL_skip rfl rfl ?_
          refine WL_skip rfl rfl ?_
          refine WL_skip rfl rfl ?_
          refine WL_skip rfl rfl ?_
          refine WL_skip rfl rfl ?_
          refine WL_skip rfl rfl ?_
          refine WL_skip rfl rfl ?_
          refine WL_step rfl rfl (r_pickF rfl rfl) ?_
          refine WL_nil ?_
          refine thn_nrm (_hK_32 _ _ ?_)
          clear _hK_32
          refine W_condF rfl ?_
          refine W_skip ?_
          refine inB_nrm ?_
          refine thn_nrm (_hK_31 _ _ ?_)
          clear _hK_31
          refine W_region ?_
          refine WL_step rfl rfl (r_move rfl) ?_
          refine WL_step rfl rfl (r_add (by omega) rfl rfl) ?_
          refine WL_step rfl rfl (r_assign rfl) ?_
          refine WL_nil ?_
          have _on_42 : Ol bcs 4 1 _wr_27 (.slice _Av10 ((List.replicate aA.length false)).length _Cv10) (_o3) := by
            have hx := _o2_3
            exact hx
          exact thn_nrm (Exists.intro ((k + 1), _o3) ⟨⟨E, (by omega), (by omega), (by first | exact hl3 | simpa using hl3), (by first | exact hb3 | exact set_below hb3 (.step (show BackA aN _y55.toNat s from ⟨k, _ys52, _hys52, by rw [_hy55, Int.toNat_of_nonneg (by omega)]⟩) (hb3 _ (by rw [_hy35, show _y35 = true from _h37])))), (by first | exact ha3 | exact set_above ha3), (by first | exact hu3 | exact fup_set hu3), (by first | exact frow_hit hr3 _hys52 _hy55 (by omega) (by omega) | exact frow_miss hr3 _hys41 _hy44 (fun t e _ => by omega) ha3 | exact frow_any hr3 (fun q => by rw [_hy35, _h37] at q; cases q) ha3), _F2_0, _on_42⟩, Sub.cons rfl (Sub.cons rfl (Sub.cons rfl (Sub.cons rfl (Sub.cons rfl (Sub.cons rfl (Sub.cons rfl (Sub.cons rfl (Sub.nil _)))))))), (by first | omega | (dsimp only; omega))⟩)
      · have _kb_30 := _h30
        have _h30 := bf_d _h30
        refine W_exit (thn_exit (thn_exit (inB_hit ?_)))
        refine inB_nrm ?_
        refine thn_nrm (_hK_24 _ _ ?_)
        clear _hK_24
        refine W_region ?_
        refine WL_step rfl rfl (r_move rfl) ?_
        refine WL_step rfl rfl (r_add (by omega) rfl rfl) ?_
        refine WL_step rfl rfl (r_assign rfl) ?_
        refine WL_nil ?_
        have _on_43 : Ol bcs 4 1 _wr_27 (.slice _Av10 ((List.replicate aA.length false)).length _Cv10) (_o3) := by
          have hx := _o2_3
          exact hx
        exact thn_nrm (Exists.intro ((s + 1), _o3) ⟨⟨E, (by omega), (by omega), hl3, hb3, ha3, (fup_row hu3 hr3 (fun r hr => by have _h1 := (fits_row hv.2 hr).1; omega)), _F2_0, _on_43⟩, Sub.cons rfl (Sub.cons rfl (Sub.cons rfl (Sub.cons rfl (Sub.cons rfl (Sub.cons rfl (Sub.nil _)))))), (by first | omega | (dsimp only; omega))⟩)
    · have _kb_23 := _h26
      have _h26 := bf_d _h26
      refine W_exit (thn_exit (thn_exit (inB_hit ?_)))
      refine inB_nrm ?_
      refine thn_nrm (_hK_17 _ _ ?_)
      clear _hK_17
      refine W_region ?_
      refine WL_step rfl rfl (r_move rfl) ?_
      refine WL_step rfl rfl (r_add (by omega) rfl rfl) ?_
      refine WL_step rfl rfl (r_assign rfl) ?_
      refine WL_nil ?_
      have _on_44 : Ol bcs 4 1 _wr_20 (.slice _Av10 ((List.replicate aA.length false)).length _Cv10) (_o2) := by
        have hx := _o1_3
        exact hx
      exact thn_nrm (Exists.intro ((j + 1), _o2) ⟨⟨E, (by omega), (by omega), hl2, hb2, (fround_up ha2 hu2 (by omega)), _F1_0, _on_44⟩, Sub.cons rfl (Sub.cons rfl (Sub.cons rfl (Sub.cons rfl (Sub.nil _)))), (by first | omega | (dsimp only; omega))⟩)
  · have _kb_16 := _h19
    have _h19 := bf_d _h19
    refine W_exit (thn_exit (thn_exit (inB_hit ?_)))
    refine thn_nrm (_hK_9 _ _ ?_)
    clear _hK_9
    refine W_seq fun _K_45 _hK_45 => ?_
    refine W_region ?_
    refine WL_step rfl rfl (r_move rfl) ?_
    refine WL_step rfl rfl (r_assign rfl) ?_
    refine WL_nil ?_
    refine thn_nrm (_hK_45 _ _ ?_)
    clear _hK_45
    refine W_ret ?_
    clear _hK_14
    have _o_46 : Ol bcs 4 1 _wr_13 (.slice _Av10 ((List.replicate aA.length false)).length _Cv10) (reachL aS aA.length aN) := by
      have hx := _o0_3
      exact hx.eq (reach_of_rounds hv.2 hl1 hb1 ha1 (by omega))
    exact ret_intro [_] ⟨rfl, trivial⟩ ⟨_o_46, Lo.down _lo10 (by omega), E⟩

/-- spec.UsefulStates -/
theorem c_spec_UsefulStates {w : World} (aS : Int) {LL_aA _B_aA : Nat} {_v_aA : Value} {aA : List Bool} (_h_aA : Ls bcs 1 w LL_aA _B_aA _v_aA aA) {LL_saN _B_saN : Nat} {_v_saN : Value} {saN : List Sv} (_h_saN : Ls Sv.cs 1 w LL_saN _B_saN _v_saN saN) {LR_aN BB_aN : Nat} {aN : List (List Int)} (_rd_aN : Rd ics 1 w LR_aN BB_aN saN aN) :
    Ctr Try.prog 61 #[(.agg #[(.int .i64 aS), _v_aA, _v_saN])] w (fun v w' => Ol ics 3 1 w' v (usfR aS aA aN) ∧ Lo w.heap.size v ∧ Ch [] w w') := by
  obtain ⟨_A_aA, _C_aA, _e1_aA⟩ := _h_aA.val
  subst _e1_aA
  have _l_aA := _h_aA.len
  have _h_aA := _h_aA.here (by decide)
  obtain ⟨_A_saN, _C_saN, _e1_saN⟩ := _h_saN.val
  subst _e1_saN
  have _l_saN := _h_saN.len
  have _h_saN := _h_saN.here (by decide)
  have _rd_aN := _rd_aN.here (by decide)
  have _rl_aN := _rd_aN.1
  have E := Ch.refl [] w
  refine Ctr_of_W (N := 38) (vs0 := [(.agg #[(.int .i64 aS), (.slice _A_aA aA.length _C_aA), (.slice _A_saN saN.length _C_saN)])]) Try.func61 rfl rfl rfl ?_
  refine W_seq fun _K_1 _hK_1 => ?_
  refine W_region ?_
  refine WL_s rfl rfl ?_
  refine s_box rfl fun _b1 _w_2 _m1 _cw_2 _e1 => ?_
  have _cw_2z := _cw_2.size
  have E := E.trans _cw_2
  have _z1 := _m1.lt
  replace _m1 : Blk _w_2 _b1 42 [(.int .i64 aS), (.slice _A_aA aA.length _C_aA), (.slice _A_saN saN.length _C_saN)] := _m1
  refine WL_step rfl rfl (r_assign rfl) ?_
  refine WL_nil ?_
  refine thn_nrm (_hK_1 _ _ ?_)
  clear _hK_1
  refine W_seq fun _K_3 _hK_3 => ?_
  refine W_region ?_
  refine WL_s rfl rfl ?_
  refine s_buildSlice0 (k := 1) ics el46 sz3 fun _v7 _w_4 _q7 _lo7 _cw_4 => ?_
  have _cw_4z := _cw_4.size
  have E := E.trans _cw_4
  obtain ⟨_Av7, _Cv7, _ev7⟩ := _q7.val
  subst _ev7
  have _lv7 := _q7.len
  have _hiv7 := _q7.lt
  refine WL_step rfl rfl (r_assign rfl) ?_
  refine WL_nil ?_
  refine thn_nrm (_hK_3 _ _ ?_)
  clear _hK_3
  refine W_seq fun _K_5 _hK_5 => ?_
  refine W_seq fun _K_6 _hK_6 => ?_
  refine W_region ?_
  have _f_7 := (_m1.ch0 _cw_4)
  refine WL_step rfl rfl (r_loadAtA0 _f_7.at_ agg42 sz42 rfl) ?_
  refine WL_s rfl rfl ?_
  have _f_8 := ((_h_aA.ch0 _cw_2).ch0 _cw_4)
  have _f_9 := ((_rd_aN.ch0 _cw_2).ch0 _cw_4)
  have _f_10 := ((_h_saN.ch0 _cw_2).ch0 _cw_4)
  refine Step.call (r_call (xs := [.tmp 8]) fk60 rfl) (c_spec_IsValidAutomaton _ _f_8 _f_10 _f_9 ) fun _v9 _w_11 _q9 => ?_
  obtain ⟨rfl, _cw_11⟩ := _q9
  have _cw_11z := _cw_11.size
  have E := E.trans _cw_11
  refine WL_step rfl rfl (r_not rfl) ?_
  refine WL_nil ?_
  refine thn_nrm (_hK_6 _ _ ?_)
  clear _hK_6
  refine W_cond rfl (fun _h10 => ?_) (fun _h10 => ?_)
  · have _kb_12 := _h10
    have _h10 := bf_t (bt_n _h10)
    refine W_seq fun _K_13 _hK_13 => ?_
    refine W_region ?_
    refine WL_step rfl rfl (r_move rfl) ?_
    refine WL_step rfl rfl (r_assign rfl) ?_
    refine WL_nil ?_
    refine thn_nrm (_hK_13 _ _ ?_)
    clear _hK_13
    refine W_ret (thn_ret ?_)
    clear _hK_5
    have _f_14 := (_q7.ch0 _cw_11)
    have _o_15 : Ol ics 3 1 _w_11 (.slice _Av7 (([] : List Int)).length _Cv7) (usfR aS aA aN) := by
      have hx := _f_14
      first | exact hx.eq (usfR_n _h10) | exact hx.eq (usfR_y _h10 (by omega))
    exact ret_intro [_] ⟨rfl, trivial⟩ ⟨_o_15, Lo.down _lo7 (by omega), E⟩
  · have _kb_12 := _h10
    have _h10 := bt_t (bf_n _h10)
    refine W_skip ?_
    refine thn_nrm (_hK_5 _ _ ?_)
    clear _hK_5
    refine W_seq fun _K_16 _hK_16 => ?_
    refine W_region ?_
    have _f_17 := (_f_7.ch0 _cw_11)
    refine WL_step rfl rfl (r_loadAtA0 _f_17.at_ agg42 sz42 rfl) ?_
    refine WL_s rfl rfl ?_
    have _f_18 := (_f_8.ch0 _cw_11)
    have _f_19 := (_f_9.ch0 _cw_11)
    have _f_20 := (_f_10.ch0 _cw_11)
    refine Step.call (r_call (xs := [.tmp 12]) fk119 rfl) (c_spec_l11Reach _ _f_18 _f_20 _f_19 _h10) fun _v13 _w_21 _q13 => ?_
    obtain ⟨_q13, _lo13, _cw_21⟩ := _q13
    have _cw_21z := _cw_21.size
    have E := E.trans _cw_21
    obtain ⟨_Av13, _Cv13, _ev13⟩ := _q13.val
    subst _ev13
    have _lv13 := _q13.len
    have _hiv13 := _q13.lt
    have _e13 := reachL_len aS aA.length aN
    refine WL_step rfl rfl (r_assign rfl) ?_
    refine WL_nil ?_
    refine thn_nrm (_hK_16 _ _ ?_)
    clear _hK_16
    refine W_seq fun _K_22 _hK_22 => ?_
    refine W_region ?_
    have _f_23 := (_f_17.ch0 _cw_21)
    refine WL_step rfl rfl (r_loadAtA0 _f_23.at_ agg42 sz42 rfl) ?_
    refine WL_s rfl rfl ?_
    have _f_24 := (_f_18.ch0 _cw_21)
    have _f_25 := (_f_19.ch0 _cw_21)
    have _f_26 := (_f_20.ch0 _cw_21)
    refine Step.call (r_call (xs := [.tmp 14]) fk120 rfl) (c_spec_l11Live _ _f_24 _f_26 _f_25 _h10) fun _v15 _w_27 _q15 => ?_
    obtain ⟨_q15, _lo15, _cw_27⟩ := _q15
    have _cw_27z := _cw_27.size
    have E := E.trans _cw_27
    obtain ⟨_Av15, _Cv15, _ev15⟩ := _q15.val
    subst _ev15
    have _lv15 := _q15.len
    have _hiv15 := _q15.lt
    have _e15 := liveL_len aA aN
    refine WL_step rfl rfl (r_assign rfl) ?_
    refine WL_nil ?_
    refine thn_nrm (_hK_22 _ _ ?_)
    clear _hK_22
    refine W_seq fun _K_28 _hK_28 => ?_
    refine W_seq fun _K_29 _hK_29 => ?_
    refine W_region ?_
    refine WL_step rfl rfl (r_assign rfl) ?_
    refine WL_nil ?_
    refine thn_nrm (_hK_29 _ _ ?_)
    clear _hK_29
    refine W_block ?_
    have _f_30 := (((_q7.ch0 _cw_11).ch0 _cw_21).ch0 _cw_27)
    have _oi_31 : Ol ics 3 1 _w_27 (.slice _Av7 (([] : List Int)).length _Cv7) (usfP aS aA aN 0) := by
      have hx := _f_30
      simpa [usfP] using hx
    have _f_32 := (_f_23.ch0 _cw_27)
    have _f_33 := (_f_24.ch0 _cw_27)
    have _f_34 := (_f_26.ch0 _cw_27)
    have _f_35 := (_f_25.ch0 _cw_27)
    have _f_36 := (_q13.ch0 _cw_27)
    refine W_loop (σ := Nat × Value) (fun ⟨k, sv⟩ => [(1, (.pointer (some ⟨_b1, 0, none⟩))), (2, (.slice none 0 0)), (3, sv), (4, (.slice _Av13 (reachL aS aA.length aN).length _Cv13)), (5, (.slice _Av15 (liveL aA aN).length _Cv15)), (6, (.int .i64 ((k : Nat) : Int)))]) (fun ⟨k, sv⟩ wx => Ch [] w wx ∧ _w_27.heap.size ≤ wx.heap.size ∧ (k ≤ aA.length) ∧ Blk wx _b1 42 [(.int .i64 aS), (.slice _A_aA aA.length _C_aA), (.slice _A_saN saN.length _C_saN)] ∧ Ls bcs 1 wx LL_aA w.heap.size (.slice _A_aA aA.length _C_aA) aA ∧ Ls Sv.cs 1 wx LL_saN w.heap.size (.slice _A_saN saN.length _C_saN) saN ∧ Rd ics 1 wx LR_aN w.heap.size saN aN ∧ Ol bcs 4 1 wx (.slice _Av13 (reachL aS aA.length aN).length _Cv13) (reachL aS aA.length aN) ∧ Ol bcs 4 1 wx (.slice _Av15 (liveL aA aN).length _Cv15) (liveL aA aN) ∧ Ol ics 3 1 wx sv (usfP aS aA aN k) ∧ Lo _w_2.heap.size sv ∧ (∀ g ∈ bl sv, g ∉ bl (.slice _Av13 (reachL aS aA.length aN).length _Cv13)) ∧ (∀ g ∈ bl sv, g ∉ bl (.slice _Av15 (liveL aA aN).length _Cv15))) (fun ⟨k, sv⟩ => aA.length - k) (0, (.slice _Av7 (([] : List Int)).length _Cv7)) (Sub.cons rfl (Sub.cons rfl (Sub.cons rfl (Sub.cons rfl (Sub.cons rfl (Sub.cons rfl (Sub.nil _))))))) ⟨E, (Nat.le_refl _), (by omega), _f_32, _f_33, _f_34, _f_35, _f_36, _q15, _oi_31, _lo7, (fun g hm hg => by have _h1 := _lo7 _ hm; have _h2 := _hiv7 _ hm; have _h3 := _lo13 _ hg; have _h4 := _hiv13 _ hg; omega), (fun g hm hg => by have _h1 := _lo7 _ hm; have _h2 := _hiv7 _ hm; have _h3 := _lo15 _ hg; have _h4 := _hiv15 _ hg; omega)⟩ ?_
    rintro ⟨k, sv⟩ _wr_37 ⟨E, _zz0, _hk, _F0_0, _F0_1, _F0_2, _F0_3, _F0_4, _F0_5, _o0_3, _lo0_3, _djl0_3_13, _djl0_3_15⟩
    have _E0h := E
    have _E0hz := _E0h.size
    have _F0_0z := _F0_0.lt
    obtain ⟨Asv, Csv, esv⟩ := _o0_3.val
    subst esv
    have lsv := _o0_3.len
    have hisv := _o0_3.lt
    have _v12 := _h10.1
    refine W_seq fun _K_38 _hK_38 => ?_
    refine W_seq fun _K_39 _hK_39 => ?_
    refine W_region ?_
    refine WL_step rfl rfl (r_move rfl) ?_
    refine WL_step rfl rfl (r_fieldAddr fa42_1 rfl) ?_
    refine WL_step rfl rfl (r_loadAt _F0_0.at_ agg37 rfl rfl) ?_
    refine WL_step rfl rfl (r_len (by rw [el37]; rfl) rfl) ?_
    refine WL_step rfl rfl (r_lss rfl rfl) ?_
    refine WL_nil ?_
    refine thn_nrm (_hK_39 _ _ ?_)
    clear _hK_39
    refine W_cond rfl (fun _h20 => ?_) (fun _h20 => ?_)
    · have _kb_40 := _h20
      have _h20 := bt_d _h20
      refine W_skip ?_
      refine thn_nrm (_hK_38 _ _ ?_)
      clear _hK_38
      refine W_seq fun _K_41 _hK_41 => ?_
      refine W_block ?_
      refine W_seq fun _K_42 _hK_42 => ?_
      refine W_region ?_
      refine WL_step rfl rfl (r_move rfl) ?_
      refine WL_step rfl rfl (r_move rfl) ?_
      refine WL_s rfl rfl ?_
      refine (s_index _F0_4.ls bcs_len el37 sz4 rfl rfl rfl (by omega) fun _p25 _y25 _hy25 _a25 => ?_)
      refine WL_step rfl rfl (r_loadAt0 _a25 agg4 rfl rfl) ?_
      refine WL_step rfl rfl (r_move rfl) ?_
      refine WL_split (d := 27) rfl (fun _h27 => ?_) (fun _h27 => ?_)
      · have _kb_43 := _h27
        refine WL_step rfl rfl (r_move rfl) ?_
        refine WL_step rfl rfl (r_move rfl) ?_
        refine WL_s rfl rfl ?_
        refine (s_index _F0_5.ls bcs_len el37 sz4 rfl rfl rfl (by omega) fun _p30 _y30 _hy30 _a30 => ?_)
        refine WL_step rfl rfl (r_loadAt0 _a30 agg4 rfl rfl) ?_
        refine WL_step rfl rfl (r_pickT rfl rfl) ?_
        refine WL_nil ?_
        refine thn_nrm (_hK_42 _ _ ?_)
        clear _hK_42
        refine W_cond rfl (fun _h32 => ?_) (fun _h32 => ?_)
        · have _kb_44 := _h32
          refine W_region ?_
          refine WL_step rfl rfl (r_move rfl) ?_
          refine WL_step rfl rfl (r_move rfl) ?_
          refine WL_s rfl rfl ?_
          refine s_buildSlice (cs := ics) (parts := [(0, .tmp 34)]) (0 : Int) [((k : Nat) : Int)] el46 sz3 zr3 ics_len (by decide) rfl rfl rfl (by decide) (by decide) rfl fun _v35 _w_45 _q35 _lo35 _cw_45 => ?_
          have _cw_45z := _cw_45.size
          have E := E.trans _cw_45
          obtain ⟨_Av35, _Cv35, _ev35⟩ := _q35.val
          subst _ev35
          have _lv35 := _q35.len
          have _hiv35 := _q35.lt
          refine WL_s rfl rfl ?_
          have _f_47 := (_o0_3.ch0 _cw_45)
          refine s_append (cs := ics) el46 sz3 by3 zr3 rfl (by decide) ics_one _f_47 _q35.ls rfl rfl (by have _h9 := usfP_len aS aA aN k; simp only [List.length_singleton]; omega) (by have _h9 := usfP_len aS aA aN k; simp only [List.length_singleton]; omega) _lo0_3 (by omega) fun _v36 _w_46 _q36 _lo36 _ap36 _cw_46 => ?_
          have _cw_46z := _cw_46.size
          have E := E.step _cw_46 (fun i hi => .inl (by have _h1 := _lo0_3 _ hi; omega))
          obtain ⟨_Av36, _Cv36, _ev36⟩ := _q36.val
          subst _ev36
          have _lv36 := _q36.len
          have _hiv36 := _q36.lt
          refine WL_step rfl rfl (r_assign rfl) ?_
          refine WL_nil ?_
          refine inB_nrm ?_
          refine thn_nrm (_hK_41 _ _ ?_)
          clear _hK_41
          refine W_region ?_
          refine WL_step rfl rfl (r_move rfl) ?_
          refine WL_step rfl rfl (r_add (by omega) rfl rfl) ?_
          refine WL_step rfl rfl (r_assign rfl) ?_
          refine WL_nil ?_
          have _on_48 : Ol ics 3 1 _w_46 (.slice _Av36 ((usfP aS aA aN k ++ [((k : Nat) : Int)])).length _Cv36) (usfP aS aA aN (k + 1)) := by
            have hx := _q36
            first | exact hx.eq (usf_y _hy25 _hy30 (by assumption) (by assumption)) | exact hx.eq (usf_n1 _hy25 (by assumption) (by omega)) | exact hx.eq (usf_n2 _hy30 (by assumption) (by omega))
          have _f_49 := ((_F0_0.ch0 _cw_45).ch _cw_46 (fun hm => by have _h1 := _lo0_3 _ hm; have _h2 := hisv _ hm; omega))
          have _f_50 := ((_F0_1.ch0 _cw_45).ch _cw_46 (fun i hi => by have _h1 := _lo0_3 _ hi; omega))
          have _f_51 := ((_F0_2.ch0 _cw_45).ch _cw_46 (fun i hi => by have _h1 := _lo0_3 _ hi; omega))
          have _f_52 := ((_F0_3.ch0 _cw_45).ch _cw_46 (fun i hi => by have _h1 := _lo0_3 _ hi; omega))
          have _f_53 := ((_F0_4.ch0 _cw_45).ch _cw_46 (fun g hg hm => by exact _djl0_3_13 _ hm hg))
          have _f_54 := ((_F0_5.ch0 _cw_45).ch _cw_46 (fun g hg hm => by exact _djl0_3_15 _ hm hg))
          exact thn_nrm (Exists.intro ((k + 1), (.slice _Av36 ((usfP aS aA aN k ++ [((k : Nat) : Int)])).length _Cv36)) ⟨⟨E, (by omega), (by omega), _f_49, _f_50, _f_51, _f_52, _f_53, _f_54, _on_48, (Lo.down _lo36 (by omega)), (fun g hm hg => by rcases _ap36 with ea | ea; (rw [ea] at hm; exact _djl0_3_13 _ hm hg); (have z2hm := _hiv36 _ hm; rw [ea] at hm; have _z1 := List.mem_singleton.1 hm; have _h3 := _lo13 _ hg; have _h4 := _hiv13 _ hg; omega)), (fun g hm hg => by rcases _ap36 with ea | ea; (rw [ea] at hm; exact _djl0_3_15 _ hm hg); (have z2hm := _hiv36 _ hm; rw [ea] at hm; have _z1 := List.mem_singleton.1 hm; have _h3 := _lo15 _ hg; have _h4 := _hiv15 _ hg; omega))⟩, Sub.cons rfl (Sub.cons rfl (Sub.cons rfl (Sub.cons rfl (Sub.cons rfl (Sub.cons rfl (Sub.nil _)))))), (by first | omega | (dsimp only; omega))⟩)
        · have _kb_44 := _h32
          refine W_skip ?_
          refine inB_nrm ?_
          refine thn_nrm (_hK_41 _ _ ?_)
          clear _hK_41
          refine W_region ?_
          refine WL_step rfl rfl (r_move rfl) ?_
          refine WL_step rfl rfl (r_add (by omega) rfl rfl) ?_
          refine WL_step rfl rfl (r_assign rfl) ?_
          refine WL_nil ?_
          have _on_55 : Ol ics 3 1 _wr_37 (.slice Asv (usfP aS aA aN k).length Csv) (usfP aS aA aN (k + 1)) := by
            have hx := _o0_3
            first | exact hx.eq (usf_y _hy25 _hy30 (by assumption) (by assumption)) | exact hx.eq (usf_n1 _hy25 (by assumption) (by omega)) | exact hx.eq (usf_n2 _hy30 (by assumption) (by omega))
          exact thn_nrm (Exists.intro ((k + 1), (.slice Asv (usfP aS aA aN k).length Csv)) ⟨⟨E, (by omega), (by omega), _F0_0, _F0_1, _F0_2, _F0_3, _F0_4, _F0_5, _on_55, (Lo.down _lo0_3 (by omega)), (fun g hm hg => by exact _djl0_3_13 _ hm hg), (fun g hm hg => by exact _djl0_3_15 _ hm hg)⟩, Sub.cons rfl (Sub.cons rfl (Sub.cons rfl (Sub.cons rfl (Sub.cons rfl (Sub.cons rfl (Sub.nil _)))))), (by first | omega | (dsimp only; omega))⟩)
      · have _kb_43 := _h27
        refine WL_skip rfl rfl ?_
        refine WL_skip rfl rfl ?_
        refine WL_skip rfl rfl ?_
        refine WL_skip rfl rfl ?_
        refine WL_step rfl rfl (r_pickF rfl rfl) ?_
        refine WL_nil ?_
        refine thn_nrm (_hK_42 _ _ ?_)
        clear _hK_42
        refine W_condF rfl ?_
        refine W_skip ?_
        refine inB_nrm ?_
        refine thn_nrm (_hK_41 _ _ ?_)
        clear _hK_41
        refine W_region ?_
        refine WL_step rfl rfl (r_move rfl) ?_
        refine WL_step rfl rfl (r_add (by omega) rfl rfl) ?_
        refine WL_step rfl rfl (r_assign rfl) ?_
        refine WL_nil ?_
        have _on_56 : Ol ics 3 1 _wr_37 (.slice Asv (usfP aS aA aN k).length Csv) (usfP aS aA aN (k + 1)) := by
          have hx := _o0_3
          first | exact hx.eq (usf_y _hy25 _hy30 (by assumption) (by assumption)) | exact hx.eq (usf_n1 _hy25 (by assumption) (by omega)) | exact hx.eq (usf_n2 _hy30 (by assumption) (by omega))
        exact thn_nrm (Exists.intro ((k + 1), (.slice Asv (usfP aS aA aN k).length Csv)) ⟨⟨E, (by omega), (by omega), _F0_0, _F0_1, _F0_2, _F0_3, _F0_4, _F0_5, _on_56, (Lo.down _lo0_3 (by omega)), (fun g hm hg => by exact _djl0_3_13 _ hm hg), (fun g hm hg => by exact _djl0_3_15 _ hm hg)⟩, Sub.cons rfl (Sub.cons rfl (Sub.cons rfl (Sub.cons rfl (Sub.cons rfl (Sub.cons rfl (Sub.nil _)))))), (by first | omega | (dsimp only; omega))⟩)
    · have _kb_40 := _h20
      have _h20 := bf_d _h20
      refine W_exit (thn_exit (thn_exit (inB_hit ?_)))
      refine thn_nrm (_hK_28 _ _ ?_)
      clear _hK_28
      refine W_seq fun _K_57 _hK_57 => ?_
      refine W_region ?_
      refine WL_step rfl rfl (r_move rfl) ?_
      refine WL_step rfl rfl (r_assign rfl) ?_
      refine WL_nil ?_
      refine thn_nrm (_hK_57 _ _ ?_)
      clear _hK_57
      refine W_ret ?_
      clear _hK_38
      have _o_58 : Ol ics 3 1 _wr_37 (.slice Asv (usfP aS aA aN k).length Csv) (usfR aS aA aN) := by
        have hx := _o0_3
        first | exact hx.eq (usfR_n _h10) | exact hx.eq (usfR_y _h10 (by omega))
      exact ret_intro [_] ⟨rfl, trivial⟩ ⟨_o_58, Lo.down _lo0_3 (by omega), E⟩

/-- spec.l13Onward -/
theorem c_spec_l13Onward {w : World} (aS : Int) {LL_aA _B_aA : Nat} {_v_aA : Value} {aA : List Bool} (_h_aA : Ls bcs 1 w LL_aA _B_aA _v_aA aA) {LL_saN _B_saN : Nat} {_v_saN : Value} {saN : List Sv} (_h_saN : Ls Sv.cs 1 w LL_saN _B_saN _v_saN saN) {LR_aN BB_aN : Nat} {aN : List (List Int)} (_rd_aN : Rd ics 1 w LR_aN BB_aN saN aN) (fr : Int) (hv : ValidA aS aA aN) (hf : 0 ≤ fr ∧ fr ≤ (aA.length : Int) - 1) :
    Ctr Try.prog 62 #[(.agg #[(.int .i64 aS), _v_aA, _v_saN]), (.int .i64 fr)] w (fun v w' => Ol bcs 4 1 w' v (onwL aN fr.toNat aA.length) ∧ Lo w.heap.size v ∧ Ch [] w w') := by
  obtain ⟨_A_aA, _C_aA, _e1_aA⟩ := _h_aA.val
  subst _e1_aA
  have _l_aA := _h_aA.len
  have _h_aA := _h_aA.here (by decide)
  obtain ⟨_A_saN, _C_saN, _e1_saN⟩ := _h_saN.val
  subst _e1_saN
  have _l_saN := _h_saN.len
  have _h_saN := _h_saN.here (by decide)
  have _rd_aN := _rd_aN.here (by decide)
  have _rl_aN := _rd_aN.1
  have E := Ch.refl [] w
  have hv2 := hv.2.2.1; have hv1 := hv.1
  refine Ctr_of_W (N := 81) (vs0 := [(.agg #[(.int .i64 aS), (.slice _A_aA aA.length _C_aA), (.slice _A_saN saN.length _C_saN)]), (.int .i64 fr)]) Try.func62 rfl rfl rfl ?_
  refine W_seq fun _K_1 _hK_1 => ?_
  refine W_region ?_
  refine WL_s rfl rfl ?_
  refine s_box rfl fun _b2 _w_2 _m2 _cw_2 _e2 => ?_
  have _cw_2z := _cw_2.size
  have E := E.trans _cw_2
  have _z2 := _m2.lt
  replace _m2 : Blk _w_2 _b2 42 [(.int .i64 aS), (.slice _A_aA aA.length _C_aA), (.slice _A_saN saN.length _C_saN)] := _m2
  refine WL_step rfl rfl (r_assign rfl) ?_
  refine WL_nil ?_
  refine thn_nrm (_hK_1 _ _ ?_)
  clear _hK_1
  refine W_seq fun _K_3 _hK_3 => ?_
  refine W_region ?_
  refine WL_step rfl rfl (r_fieldAddr fa42_1 rfl) ?_
  refine WL_step rfl rfl (r_loadAt _m2.at_ agg37 rfl rfl) ?_
  refine WL_step rfl rfl (r_len (by rw [el37]; rfl) rfl) ?_
  refine WL_s rfl rfl ?_
  refine s_make (cs := bcs) false el37 sz4 by4 zr4 bcs_len (by decide) rfl rfl (by omega) (by omega) fun _v13 _w_4 _q13 _lo13 _cw_4 => ?_
  have _cw_4z := _cw_4.size
  have E := E.trans _cw_4
  obtain ⟨_Av13, _Cv13, _ev13⟩ := _q13.val
  subst _ev13
  have _lv13 := _q13.len
  have _hiv13 := _q13.lt
  refine WL_step rfl rfl (r_assign rfl) ?_
  refine WL_nil ?_
  refine thn_nrm (_hK_3 _ _ ?_)
  clear _hK_3
  refine W_seq fun _K_5 _hK_5 => ?_
  refine W_seq fun _K_6 _hK_6 => ?_
  refine W_region ?_
  refine WL_step rfl rfl (r_assign rfl) ?_
  refine WL_nil ?_
  refine thn_nrm (_hK_6 _ _ ?_)
  clear _hK_6
  refine W_block ?_
  have _oi_7 : Ol bcs 4 1 _w_4 (.slice _Av13 ((List.replicate aA.length false)).length _Cv13) ((List.replicate aA.length false)) := by
    have hx := _q13
    exact hx
  have _f_8 := (_m2.ch0 _cw_4)
  refine W_loop (σ := Nat × List Bool) (fun ⟨k, _o0⟩ => [(1, (.int .i64 fr)), (2, (.pointer (some ⟨_b2, 0, none⟩))), (4, (.slice none 0 0)), (5, (.slice _Av13 ((List.replicate aA.length false)).length _Cv13)), (6, (.int .i64 ((k : Nat) : Int)))]) (fun ⟨k, _o0⟩ wx => Ch [] w wx ∧ _w_4.heap.size ≤ wx.heap.size ∧ (k ≤ 9) ∧ (_o0.length = aA.length) ∧ (ClBelow (OnB aN fr.toNat) (BackA aN) _o0) ∧ (On1 aN fr.toNat _o0 k) ∧ Blk wx _b2 42 [(.int .i64 aS), (.slice _A_aA aA.length _C_aA), (.slice _A_saN saN.length _C_saN)] ∧ Ol bcs 4 1 wx (.slice _Av13 ((List.replicate aA.length false)).length _Cv13) _o0) (fun ⟨k, _o0⟩ => 9 - k) (0, (List.replicate aA.length false)) (Sub.cons rfl (Sub.cons rfl (Sub.cons rfl (Sub.cons rfl (Sub.cons rfl (Sub.nil _)))))) ⟨E, (Nat.le_refl _), (by omega), (by simp), on_base, on1_zero, _f_8, _oi_7⟩ ?_
  rintro ⟨k, _o0⟩ _wr_9 ⟨E, _zz0, _hk, hl0, hb0, hr0, _F0_0, _o0_5⟩
  have _E0h := E
  have _E0hz := _E0h.size
  have _F0_0z := _F0_0.lt
  refine W_seq fun _K_10 _hK_10 => ?_
  refine W_seq fun _K_11 _hK_11 => ?_
  refine W_region ?_
  refine WL_step rfl rfl (r_move rfl) ?_
  refine WL_step rfl rfl (r_lss rfl rfl) ?_
  refine WL_nil ?_
  refine thn_nrm (_hK_11 _ _ ?_)
  clear _hK_11
  refine W_cond rfl (fun _h15 => ?_) (fun _h15 => ?_)
  · have _kb_12 := _h15
    have _h15 := bt_d _h15
    refine W_skip ?_
    refine thn_nrm (_hK_10 _ _ ?_)
    clear _hK_10
    refine W_seq fun _K_13 _hK_13 => ?_
    refine W_block ?_
    refine W_seq fun _K_14 _hK_14 => ?_
    refine W_region ?_
    refine WL_step rfl rfl (r_fieldAddr fa42_2 rfl) ?_
    refine WL_step rfl rfl (r_loadAt _F0_0.at_ agg26 rfl rfl) ?_
    refine WL_step rfl rfl (r_move rfl) ?_
    refine WL_s rfl rfl ?_
    have _f_15 := (_h_saN.ch0 _E0h)
    refine (s_index (j := fr.toNat) _f_15 Sv.len el26 sz46 rfl rfl (by omega) (by omega) fun _p21 _y21 _hy21 _a21 => ?_)
    have _f_16 := (_rd_aN.ch0 _E0h)
    obtain ⟨_ys21, _hys21, _fs21⟩ := _f_16.get _hy21
    obtain ⟨_A21, _n21, _C21⟩ := _y21
    obtain rfl := _fs21.eqn
    have _l21 := _fs21.len
    replace _fs21 : Ls ics 1 _wr_9 LR_aN w.heap.size (.slice _A21 _ys21.length _C21) _ys21 := _fs21
    replace _a21 : At _wr_9 LL_saN w.heap.size _p21 ([(.slice _A21 _ys21.length _C21)]) := _a21
    have _e21 := (fits_row hv.2 _hys21).1
    refine WL_step rfl rfl (r_loadAt0 _a21 agg46 rfl rfl) ?_
    refine WL_step rfl rfl (r_move rfl) ?_
    refine WL_s rfl rfl ?_
    refine (s_index _fs21 ics_len el46 sz3 rfl rfl rfl (by omega) fun _p24 _y24 _hy24 _a24 => ?_)
    have f24 := fits_el hv.2 _hys21 _hy24
    refine WL_step rfl rfl (r_loadAt0 _a24 agg3 rfl rfl) ?_
    refine WL_step rfl rfl (r_geq rfl rfl) ?_
    refine WL_nil ?_
    refine thn_nrm (_hK_14 _ _ ?_)
    clear _hK_14
    refine W_cond rfl (fun _h26 => ?_) (fun _h26 => ?_)
    · have _kb_17 := _h26
      have _h26 := bt_d _h26
      refine W_region ?_
      refine WL_step rfl rfl (r_move rfl) ?_
      refine WL_step rfl rfl (r_fieldAddr fa42_2 rfl) ?_
      refine WL_step rfl rfl (r_loadAt _F0_0.at_ agg26 rfl rfl) ?_
      refine WL_step rfl rfl (r_move rfl) ?_
      refine WL_s rfl rfl ?_
      refine (s_index (j := fr.toNat) _f_15 Sv.len el26 sz46 rfl rfl (by omega) (by omega) fun _p31 _y31 _hy31 _a31 => ?_)
      obtain ⟨_ys31, _hys31, _fs31⟩ := _f_16.get _hy31
      obtain ⟨_A31, _n31, _C31⟩ := _y31
      obtain rfl := _fs31.eqn
      have _l31 := _fs31.len
      replace _fs31 : Ls ics 1 _wr_9 LR_aN w.heap.size (.slice _A31 _ys31.length _C31) _ys31 := _fs31
      replace _a31 : At _wr_9 LL_saN w.heap.size _p31 ([(.slice _A31 _ys31.length _C31)]) := _a31
      have _e31 := (fits_row hv.2 _hys31).1
      refine WL_step rfl rfl (r_loadAt0 _a31 agg46 rfl rfl) ?_
      refine WL_step rfl rfl (r_move rfl) ?_
      refine WL_s rfl rfl ?_
      refine (s_index _fs31 ics_len el46 sz3 rfl rfl rfl (by omega) fun _p34 _y34 _hy34 _a34 => ?_)
      have _e34 := get_uniq _hy24 ((get_uniq _hys31 _hys21) ▸ _hy34)
      have f34 := fits_el hv.2 _hys31 _hy34
      refine WL_step rfl rfl (r_loadAt0 _a34 agg3 rfl rfl) ?_
      refine WL_s rfl rfl ?_
      refine s_indexO (j := _y34.toNat) _o0_5 el37 sz4 rfl rfl (by omega) (by (first | omega | (simp only [List.length_replicate, List.length_set]; omega))) fun _g36 _o36 _cp36 _q36 => ?_
      refine WL_s rfl rfl ?_
      refine s_storeO (j := _y34.toNat) true _o0_5 _q36 bcs_len sz4 rfl rfl rfl rfl (by (first | omega | (simp only [List.length_replicate, List.length_set]; omega))) fun _w_18 _o_19 _cw_18 => ?_
      have _cw_18z := _cw_18.size
      have E := E.step _cw_18 (fun i hi => .inl (by have _h1 := _lo13 _ hi; omega))
      refine WL_nil ?_
      refine inB_nrm ?_
      refine thn_nrm (_hK_13 _ _ ?_)
      clear _hK_13
      refine W_region ?_
      refine WL_step rfl rfl (r_move rfl) ?_
      refine WL_step rfl rfl (r_add (by omega) rfl rfl) ?_
      refine WL_step rfl rfl (r_assign rfl) ?_
      refine WL_nil ?_
      have _on_20 : Ol bcs 4 1 _w_18 (.slice _Av13 ((List.replicate aA.length false)).length _Cv13) ((_o0.set _y34.toNat true)) := by
        have hx := _o_19
        exact hx
      have _f_21 := (_F0_0.ch _cw_18 (fun hm => by have _h1 := _lo13 _ hm; have _h2 := _hiv13 _ hm; omega))
      exact thn_nrm (Exists.intro ((k + 1), (_o0.set _y34.toNat true)) ⟨⟨E, (by omega), (by omega), (by first | exact hl0 | simpa using hl0), (by first | exact hb0 | exact set_below hb0 (.base (show OnB aN fr.toNat _y34.toNat from ⟨k, _ys31, _hys31, by rw [_hy34, Int.toNat_of_nonneg (by omega)]⟩))), (by first | exact on1_hit hr0 _hys31 _hy34 (by omega) (by omega) | exact on1_miss hr0 _hys21 _hy24 (by omega)), _f_21, _on_20⟩, Sub.cons rfl (Sub.cons rfl (Sub.cons rfl (Sub.cons rfl (Sub.cons rfl (Sub.nil _))))), (by first | omega | (dsimp only; omega))⟩)
    · have _kb_17 := _h26
      have _h26 := bf_d _h26
      refine W_skip ?_
      refine inB_nrm ?_
      refine thn_nrm (_hK_13 _ _ ?_)
      clear _hK_13
      refine W_region ?_
      refine WL_step rfl rfl (r_move rfl) ?_
      refine WL_step rfl rfl (r_add (by omega) rfl rfl) ?_
      refine WL_step rfl rfl (r_assign rfl) ?_
      refine WL_nil ?_
      have _on_22 : Ol bcs 4 1 _wr_9 (.slice _Av13 ((List.replicate aA.length false)).length _Cv13) (_o0) := by
        have hx := _o0_5
        exact hx
      exact thn_nrm (Exists.intro ((k + 1), _o0) ⟨⟨E, (by omega), (by omega), (by first | exact hl0 | simpa using hl0), (by first | exact hb0 | exact set_below hb0 (.base (show OnB aN fr.toNat _y34.toNat from ⟨k, _ys31, _hys31, by rw [_hy34, Int.toNat_of_nonneg (by omega)]⟩))), (by first | exact on1_hit hr0 _hys31 _hy34 (by omega) (by omega) | exact on1_miss hr0 _hys21 _hy24 (by omega)), _F0_0, _on_22⟩, Sub.cons rfl (Sub.cons rfl (Sub.cons rfl (Sub.cons rfl (Sub.cons rfl (Sub.nil _))))), (by first | omega | (dsimp only; omega))⟩)
  · have _kb_12 := _h15
    have _h15 := bf_d _h15
    refine W_exit (thn_exit (thn_exit (inB_hit ?_)))
    refine thn_nrm (_hK_5 _ _ ?_)
    clear _hK_5
    refine W_seq fun _K_23 _hK_23 => ?_
    refine W_seq fun _K_24 _hK_24 => ?_
    refine W_region ?_
    refine WL_step rfl rfl (r_assign rfl) ?_
    refine WL_nil ?_
    refine thn_nrm (_hK_24 _ _ ?_)
    clear _hK_24
    refine W_block ?_
    have _oi_25 : Ol bcs 4 1 _wr_9 (.slice _Av13 ((List.replicate aA.length false)).length _Cv13) (_o0) := by
      have hx := _o0_5
      exact hx
    refine W_loop (σ := Nat × List Bool) (fun ⟨j, _o1⟩ => [(2, (.pointer (some ⟨_b2, 0, none⟩))), (4, (.slice none 0 0)), (5, (.slice _Av13 ((List.replicate aA.length false)).length _Cv13)), (7, (.int .i64 ((j : Nat) : Int)))]) (fun ⟨j, _o1⟩ wx => Ch [] w wx ∧ _wr_9.heap.size ≤ wx.heap.size ∧ (j ≤ aA.length) ∧ (_o1.length = aA.length) ∧ (ClBelow (OnB aN fr.toNat) (BackA aN) _o1) ∧ (ClAbove (OnB aN fr.toNat) (BackA aN) _o1 j) ∧ Blk wx _b2 42 [(.int .i64 aS), (.slice _A_aA aA.length _C_aA), (.slice _A_saN saN.length _C_saN)] ∧ Ol bcs 4 1 wx (.slice _Av13 ((List.replicate aA.length false)).length _Cv13) _o1) (fun ⟨j, _o1⟩ => aA.length - j) (0, _o0) (Sub.cons rfl (Sub.cons rfl (Sub.cons rfl (Sub.cons rfl (Sub.nil _))))) ⟨E, (Nat.le_refl _), (by omega), hl0, hb0, (on1_all hr0 (fun r hr => by have _h1 := (fits_row hv.2 hr).1; omega)), _F0_0, _oi_25⟩ ?_
    rintro ⟨j, _o1⟩ _wr_26 ⟨E, _zz1, hj, hl1, hb1, ha1, _F1_0, _o1_5⟩
    have _E1h := E
    have _E1hz := _E1h.size
    have _F1_0z := _F1_0.lt
    refine W_seq fun _K_27 _hK_27 => ?_
    refine W_seq fun _K_28 _hK_28 => ?_
    refine W_region ?_
    refine WL_step rfl rfl (r_move rfl) ?_
    refine WL_step rfl rfl (r_fieldAddr fa42_1 rfl) ?_
    refine WL_step rfl rfl (r_loadAt _F1_0.at_ agg37 rfl rfl) ?_
    refine WL_step rfl rfl (r_len (by rw [el37]; rfl) rfl) ?_
    refine WL_step rfl rfl (r_lss rfl rfl) ?_
    refine WL_nil ?_
    refine thn_nrm (_hK_28 _ _ ?_)
    clear _hK_28
    refine W_cond rfl (fun _h41 => ?_) (fun _h41 => ?_)
    · have _kb_29 := _h41
      have _h41 := bt_d _h41
      refine W_skip ?_
      refine thn_nrm (_hK_27 _ _ ?_)
      clear _hK_27
      refine W_seq fun _K_30 _hK_30 => ?_
      refine W_block ?_
      refine W_seq fun _K_31 _hK_31 => ?_
      refine W_region ?_
      refine WL_step rfl rfl (r_assign rfl) ?_
      refine WL_nil ?_
      refine thn_nrm (_hK_31 _ _ ?_)
      clear _hK_31
      refine W_block ?_
      have _oi_32 : Ol bcs 4 1 _wr_26 (.slice _Av13 ((List.replicate aA.length false)).length _Cv13) (_o1) := by
        have hx := _o1_5
        exact hx
      refine W_loop (σ := Nat × List Bool) (fun ⟨s, _o2⟩ => [(2, (.pointer (some ⟨_b2, 0, none⟩))), (4, (.slice none 0 0)), (5, (.slice _Av13 ((List.replicate aA.length false)).length _Cv13)), (7, (.int .i64 ((j : Nat) : Int))), (8, (.int .i64 ((s : Nat) : Int))), (37, (.int .i64 ((j : Nat) : Int))), (38, (.pointer (some (Addr.add ⟨_b2, 0, none⟩ 1)))), (39, (.slice _A_aA aA.length _C_aA)), (40, (.int .i64 ((aA.length : Nat) : Int))), (41, (.bool (decide (((j : Nat) : Int) < ((aA.length : Nat) : Int)))))]) (fun ⟨s, _o2⟩ wx => Ch [] w wx ∧ _wr_26.heap.size ≤ wx.heap.size ∧ (s ≤ aA.length) ∧ (_o2.length = aA.length) ∧ (ClBelow (OnB aN fr.toNat) (BackA aN) _o2) ∧ (ClAbove (OnB aN fr.toNat) (BackA aN) _o2 j) ∧ (FUpB (OnB aN fr.toNat) aN j _o2 s) ∧ Blk wx _b2 42 [(.int .i64 aS), (.slice _A_aA aA.length _C_aA), (.slice _A_saN saN.length _C_saN)] ∧ Ol bcs 4 1 wx (.slice _Av13 ((List.replicate aA.length false)).length _Cv13) _o2) (fun ⟨s, _o2⟩ => aA.length - s) (0, _o1) (Sub.cons rfl (Sub.cons rfl (Sub.cons rfl (Sub.cons rfl (Sub.cons rfl (Sub.cons rfl (Sub.cons rfl (Sub.cons rfl (Sub.cons rfl (Sub.cons rfl (Sub.nil _))))))))))) ⟨E, (Nat.le_refl _), (by omega), hl1, hb1, ha1, fupB_zero, _F1_0, _oi_32⟩ ?_
      rintro ⟨s, _o2⟩ _wr_33 ⟨E, _zz2, hs, hl2, hb2, ha2, hu2, _F2_0, _o2_5⟩
      have _E2h := E
      have _E2hz := _E2h.size
      have _F2_0z := _F2_0.lt
      refine W_seq fun _K_34 _hK_34 => ?_
      refine W_seq fun _K_35 _hK_35 => ?_
      refine W_region ?_
      refine WL_step rfl rfl (r_move rfl) ?_
      refine WL_step rfl rfl (r_fieldAddr fa42_1 rfl) ?_
      refine WL_step rfl rfl (r_loadAt _F2_0.at_ agg37 rfl rfl) ?_
      refine WL_step rfl rfl (r_len (by rw [el37]; rfl) rfl) ?_
      refine WL_step rfl rfl (r_lss rfl rfl) ?_
      refine WL_nil ?_
      refine thn_nrm (_hK_35 _ _ ?_)
      clear _hK_35
      refine W_cond rfl (fun _h48 => ?_) (fun _h48 => ?_)
      · have _kb_36 := _h48
        have _h48 := bt_d _h48
        refine W_skip ?_
        refine thn_nrm (_hK_34 _ _ ?_)
        clear _hK_34
        refine W_seq fun _K_37 _hK_37 => ?_
        refine W_block ?_
        refine W_seq fun _K_38 _hK_38 => ?_
        refine W_region ?_
        refine WL_step rfl rfl (r_assign rfl) ?_
        refine WL_nil ?_
        refine thn_nrm (_hK_38 _ _ ?_)
        clear _hK_38
        refine W_block ?_
        have _oi_39 : Ol bcs 4 1 _wr_33 (.slice _Av13 ((List.replicate aA.length false)).length _Cv13) (_o2) := by
          have hx := _o2_5
          exact hx
        refine W_loop (σ := Nat × List Bool) (fun ⟨k, _o3⟩ => [(2, (.pointer (some ⟨_b2, 0, none⟩))), (4, (.slice none 0 0)), (5, (.slice _Av13 ((List.replicate aA.length false)).length _Cv13)), (7, (.int .i64 ((j : Nat) : Int))), (8, (.int .i64 ((s : Nat) : Int))), (9, (.int .i64 ((k : Nat) : Int))), (37, (.int .i64 ((j : Nat) : Int))), (38, (.pointer (some (Addr.add ⟨_b2, 0, none⟩ 1)))), (39, (.slice _A_aA aA.length _C_aA)), (40, (.int .i64 ((aA.length : Nat) : Int))), (41, (.bool (decide (((j : Nat) : Int) < ((aA.length : Nat) : Int))))), (44, (.int .i64 ((s : Nat) : Int))), (45, (.pointer (some (Addr.add ⟨_b2, 0, none⟩ 1)))), (46, (.slice _A_aA aA.length _C_aA)), (47, (.int .i64 ((aA.length : Nat) : Int))), (48, (.bool (decide (((s : Nat) : Int) < ((aA.length : Nat) : Int)))))]) (fun ⟨k, _o3⟩ wx => Ch [] w wx ∧ _wr_33.heap.size ≤ wx.heap.size ∧ (k ≤ 9) ∧ (_o3.length = aA.length) ∧ (ClBelow (OnB aN fr.toNat) (BackA aN) _o3) ∧ (ClAbove (OnB aN fr.toNat) (BackA aN) _o3 j) ∧ (FUpB (OnB aN fr.toNat) aN j _o3 s) ∧ (FRowB (OnB aN fr.toNat) aN j _o3 s k) ∧ Blk wx _b2 42 [(.int .i64 aS), (.slice _A_aA aA.length _C_aA), (.slice _A_saN saN.length _C_saN)] ∧ Ol bcs 4 1 wx (.slice _Av13 ((List.replicate aA.length false)).length _Cv13) _o3) (fun ⟨k, _o3⟩ => 9 - k) (0, _o2) (Sub.cons rfl (Sub.cons rfl (Sub.cons rfl (Sub.cons rfl (Sub.cons rfl (Sub.cons rfl (Sub.cons rfl (Sub.cons rfl (Sub.cons rfl (Sub.cons rfl (Sub.cons rfl (Sub.cons rfl (Sub.cons rfl (Sub.cons rfl (Sub.cons rfl (Sub.cons rfl (Sub.nil _))))))))))))))))) ⟨E, (Nat.le_refl _), (by omega), hl2, hb2, ha2, hu2, frowB_zero, _F2_0, _oi_39⟩ ?_
        rintro ⟨k, _o3⟩ _wr_40 ⟨E, _zz3, _hk, hl3, hb3, ha3, hu3, hr3, _F3_0, _o3_5⟩
        have _E3h := E
        have _E3hz := _E3h.size
        have _F3_0z := _F3_0.lt
        refine W_seq fun _K_41 _hK_41 => ?_
        refine W_seq fun _K_42 _hK_42 => ?_
        refine W_region ?_
        refine WL_step rfl rfl (r_move rfl) ?_
        refine WL_step rfl rfl (r_lss rfl rfl) ?_
        refine WL_nil ?_
        refine thn_nrm (_hK_42 _ _ ?_)
        clear _hK_42
        refine W_cond rfl (fun _h52 => ?_) (fun _h52 => ?_)
        · have _kb_43 := _h52
          have _h52 := bt_d _h52
          refine W_skip ?_
          refine thn_nrm (_hK_41 _ _ ?_)
          clear _hK_41
          refine W_seq fun _K_44 _hK_44 => ?_
          refine W_block ?_
          refine W_seq fun _K_45 _hK_45 => ?_
          refine W_region ?_
          refine WL_step rfl rfl (r_move rfl) ?_
          refine WL_step rfl rfl (r_move rfl) ?_
          refine WL_s rfl rfl ?_
          refine (s_index _o3_5.ls bcs_len el37 sz4 rfl rfl rfl (by omega) fun _p57 _y57 _hy57 _a57 => ?_)
          refine WL_step rfl rfl (r_loadAt0 _a57 agg4 rfl rfl) ?_
          refine WL_step rfl rfl (r_move rfl) ?_
          refine WL_split (d := 59) rfl (fun _h59 => ?_) (fun _h59 => ?_)
          · have _kb_46 := _h59
            refine WL_step rfl rfl (r_fieldAddr fa42_2 rfl) ?_
            refine WL_step rfl rfl (r_loadAt _F3_0.at_ agg26 rfl rfl) ?_
            refine WL_step rfl rfl (r_move rfl) ?_
            refine WL_s rfl rfl ?_
            have _f_47 := (_h_saN.ch0 _E3h)
            refine (s_index _f_47 Sv.len el26 sz46 rfl rfl rfl (by omega) fun _p63 _y63 _hy63 _a63 => ?_)
            have _f_48 := (_rd_aN.ch0 _E3h)
            obtain ⟨_ys63, _hys63, _fs63⟩ := _f_48.get _hy63
            obtain ⟨_A63, _n63, _C63⟩ := _y63
            obtain rfl := _fs63.eqn
            have _l63 := _fs63.len
            replace _fs63 : Ls ics 1 _wr_40 LR_aN w.heap.size (.slice _A63 _ys63.length _C63) _ys63 := _fs63
            replace _a63 : At _wr_40 LL_saN w.heap.size _p63 ([(.slice _A63 _ys63.length _C63)]) := _a63
            have _e63 := (fits_row hv.2 _hys63).1
            refine WL_step rfl rfl (r_loadAt0 _a63 agg46 rfl rfl) ?_
            refine WL_step rfl rfl (r_move rfl) ?_
            refine WL_s rfl rfl ?_
            refine (s_index _fs63 ics_len el46 sz3 rfl rfl rfl (by omega) fun _p66 _y66 _hy66 _a66 => ?_)
            have f66 := fits_el hv.2 _hys63 _hy66
            refine WL_step rfl rfl (r_loadAt0 _a66 agg3 rfl rfl) ?_
            refine WL_step rfl rfl (r_geq rfl rfl) ?_
            refine WL_step rfl rfl (r_pickT rfl rfl) ?_
            refine WL_nil ?_
            refine thn_nrm (_hK_45 _ _ ?_)
            clear _hK_45
            refine W_cond rfl (fun _h69 => ?_) (fun _h69 => ?_)
            · have _kb_49 := _h69
              have _h69 := bt_d _h69
              refine W_region ?_
              refine WL_step rfl rfl (r_move rfl) ?_
              refine WL_step rfl rfl (r_fieldAddr fa42_2 rfl) ?_
              refine WL_step rfl rfl (r_loadAt _F3_0.at_ agg26 rfl rfl) ?_
              refine WL_step rfl rfl (r_move rfl) ?_
              refine WL_s rfl rfl ?_
              refine (s_index _f_47 Sv.len el26 sz46 rfl rfl rfl (by omega) fun _p74 _y74 _hy74 _a74 => ?_)
              obtain ⟨_ys74, _hys74, _fs74⟩ := _f_48.get _hy74
              obtain ⟨_A74, _n74, _C74⟩ := _y74
              obtain rfl := _fs74.eqn
              have _l74 := _fs74.len
              replace _fs74 : Ls ics 1 _wr_40 LR_aN w.heap.size (.slice _A74 _ys74.length _C74) _ys74 := _fs74
              replace _a74 : At _wr_40 LL_saN w.heap.size _p74 ([(.slice _A74 _ys74.length _C74)]) := _a74
              have _e74 := (fits_row hv.2 _hys74).1
              refine WL_step rfl rfl (r_loadAt0 _a74 agg46 rfl rfl) ?_
              refine WL_step rfl rfl (r_move rfl) ?_
              refine WL_s rfl rfl ?_
              refine (s_index _fs74 ics_len el46 sz3 rfl rfl rfl (by omega) fun _p77 _y77 _hy77 _a77 => ?_)
              have _e77 := get_uniq _hy66 ((get_uniq _hys74 _hys63) ▸ _hy77)
              have f77 := fits_el hv.2 _hys74 _hy77
              refine WL_step rfl rfl (r_loadAt0 _a77 agg3 rfl rfl) ?_
              refine WL_s rfl rfl ?_
              refine s_indexO (j := _y77.toNat) _o3_5 el37 sz4 rfl rfl (by omega) (by (first | omega | (simp only [List.length_replicate, List.length_set]; omega))) fun _g79 _o79 _cp79 _q79 => ?_
              refine WL_s rfl rfl ?_
              refine s_storeO (j := _y77.toNat) true _o3_5 _q79 bcs_len sz4 rfl rfl rfl rfl (by (first | omega | (simp only [List.length_replicate, List.length_set]; omega))) fun _w_50 _o_51 _cw_50 => ?_
              have _cw_50z := _cw_50.size
              have E := E.step _cw_50 (fun i hi => .inl (by have _h1 := _lo13 _ hi; omega))
              refine WL_nil ?_
              refine inB_nrm ?_
              refine thn_nrm (_hK_44 _ _ ?_)
              clear _hK_44
              refine W_region ?_
              refine WL_step rfl rfl (r_move rfl) ?_
              refine WL_step rfl rfl (r_add (by omega) rfl rfl) ?_
              refine WL_step rfl rfl (r_assign rfl) ?_
              refine WL_nil ?_
              have _on_52 : Ol bcs 4 1 _w_50 (.slice _Av13 ((List.replicate aA.length false)).length _Cv13) ((_o3.set _y77.toNat true)) := by
                have hx := _o_51
                exact hx
              have _f_53 := (_F3_0.ch _cw_50 (fun hm => by have _h1 := _lo13 _ hm; have _h2 := _hiv13 _ hm; omega))
              exact thn_nrm (Exists.intro ((k + 1), (_o3.set _y77.toNat true)) ⟨⟨E, (by omega), (by omega), (by first | exact hl3 | simpa using hl3), (by first | exact hb3 | exact set_below hb3 (.step (show BackA aN _y77.toNat s from ⟨k, _ys74, _hys74, by rw [_hy77, Int.toNat_of_nonneg (by omega)]⟩) (hb3 _ (by rw [_hy57, show _y57 = true from _h59])))), (by first | exact ha3 | exact set_above ha3), (by first | exact hu3 | exact fupB_set hu3), (by first | exact frowB_hit hr3 _hys74 _hy77 (by omega) (by omega) | exact frowB_miss hr3 _hys63 _hy66 (fun t e _ => by omega) ha3 | exact frowB_any hr3 (fun q => by rw [_hy57, _h59] at q; cases q) ha3), _f_53, _on_52⟩, Sub.cons rfl (Sub.cons rfl (Sub.cons rfl (Sub.cons rfl (Sub.cons rfl (Sub.cons rfl (Sub.cons rfl (Sub.cons rfl (Sub.cons rfl (Sub.cons rfl (Sub.cons rfl (Sub.cons rfl (Sub.cons rfl (Sub.cons rfl (Sub.cons rfl (Sub.cons rfl (Sub.nil _)))))))))))))))), (by first | omega | (dsimp only; omega))⟩)
            · have _kb_49 := _h69
              have _h69 := bf_d _h69
              refine W_skip ?_
              refine inB_nrm ?_
              refine thn_nrm (_hK_44 _ _ ?_)
              clear _hK_44
              refine W_region ?_
              refine WL_step rfl rfl (r_move rfl) ?_
              refine WL_step rfl rfl (r_add (by omega) rfl rfl) ?_
              refine WL_step rfl rfl (r_assign rfl) ?_
              refine WL_nil ?_
              have _on_54 : Ol bcs 4 1 _wr_40 (.slice _Av13 ((List.replicate aA.length false)).length _Cv13) (_o3) := by
                have hx := _o3_5
                exact hx
              exact thn_nrm (Exists.intro ((k + 1), _o3) ⟨⟨E, (by omega), (by omega), (by first | exact hl3 | simpa using hl3), (by first | exact hb3 | exact set_below hb3 (.step (show BackA aN _y77.toNat s from ⟨k, _ys74, _hys74, by rw [_hy77, Int.toNat_of_nonneg (by omega)]⟩) (hb3 _ (by rw [_hy57, show _y57 = true from _h59])))), (by first | exact ha3 | exact set_above ha3), (by first | exact hu3 | exact fupB_set hu3), (by first | exact frowB_hit hr3 _hys74 _hy77 (by omega) (by omega) | exact frowB_miss hr3 _hys63 _hy66 (fun t e _ => by omega) ha3 | exact frowB_any hr3 (fun q => by rw [_hy57, _h59] at q; cases q) ha3), _F3_0, _on_54⟩, Sub.cons rfl (Sub.cons rfl (Sub.cons rfl (Sub.cons rfl (Sub.cons rfl (Sub.cons rfl (Sub.cons rfl (Sub.cons rfl (Sub.cons rfl (Sub.cons rfl (Sub.cons rfl (Sub.cons rfl (Sub.cons rfl (Sub.cons rfl (Sub.cons rfl (Sub.cons rfl (Sub.nil _)))))))))))))))), (by first | omega | (dsimp only; omega))⟩)
          · have _kb_46 := _h59
            refine WL_skip rfl rfl ?_
            refine WL_skip rfl rfl ?_
            refine WL_skip rfl rfl ?_
            refine WL_skip rfl rfl ?_
            refine WL_skip rfl rfl ?_
            refine WL_skip rfl rfl ?_
            refine WL_skip rfl rfl ?_
            refine WL_skip rfl rfl ?_
            refine WL_skip rfl rfl ?_
            refine WL_step rfl rfl (r_pickF rfl rfl) ?_
            refine WL_nil ?_
            refine thn_nrm (_hK_45 _ _ ?_)
            clear _hK_45
            refine W_condF rfl ?_
            refine W_skip ?_
            refine inB_nrm ?_
            refine thn_nrm (_hK_44 _ _ ?_)
            clear _hK_44
            refine W_region ?_
            refine WL_step rfl rfl (r_move rfl) ?_
            refine WL_step rfl rfl (r_add (by omega) rfl rfl) ?_
            refine WL_step rfl rfl (r_assign rfl) ?_
            refine WL_nil ?_
            have _on_55 : Ol bcs 4 1 _wr_40 (.slice _Av13 ((List.replicate aA.length false)).length _Cv13) (_o3) := by
              have hx := _o3_5
              exact hx
            exact thn_nrm (Exists.intro ((k + 1), _o3) ⟨⟨E, (by omega), (by omega), (by first | exact hl3 | simpa using hl3), (by first | exact hb3 | exact set_below hb3 (.step (show BackA aN _y77.toNat s from ⟨k, _ys74, _hys74, by rw [_hy77, Int.toNat_of_nonneg (by omega)]⟩) (hb3 _ (by rw [_hy57, show _y57 = true from _h59])))), (by first | exact ha3 | exact set_above ha3), (by first | exact hu3 | exact fupB_set hu3), (by first | exact frowB_hit hr3 _hys74 _hy77 (by omega) (by omega) | exact frowB_miss hr3 _hys63 _hy66 (fun t e _ => by omega) ha3 | exact frowB_any hr3 (fun q => by rw [_hy57, _h59] at q; cases q) ha3), _F3_0, _on_55⟩, Sub.cons rfl (Sub.cons rfl (Sub.cons rfl (Sub.cons rfl (Sub.cons rfl (Sub.cons rfl (Sub.cons rfl (Sub.cons rfl (Sub.cons rfl (Sub.cons rfl (Sub.cons rfl (Sub.cons rfl (Sub.cons rfl (Sub.cons rfl (Sub.cons rfl (Sub.cons rfl (Sub.nil _)))))))))))))))), (by first | omega | (dsimp only; omega))⟩)
        · have _kb_43 := _h52
          have _h52 := bf_d _h52
          refine W_exit (thn_exit (thn_exit (inB_hit ?_)))
          refine inB_nrm ?_
          refine thn_nrm (_hK_37 _ _ ?_)
          clear _hK_37
          refine W_region ?_
          refine WL_step rfl rfl (r_move rfl) ?_
          refine WL_step rfl rfl (r_add (by omega) rfl rfl) ?_
          refine WL_step rfl rfl (r_assign rfl) ?_
          refine WL_nil ?_
          have _on_56 : Ol bcs 4 1 _wr_40 (.slice _Av13 ((List.replicate aA.length false)).length _Cv13) (_o3) := by
            have hx := _o3_5
            exact hx
          exact thn_nrm (Exists.intro ((s + 1), _o3) ⟨⟨E, (by omega), (by omega), hl3, hb3, ha3, (fupB_row hu3 hr3 (fun r hr => by have _h1 := (fits_row hv.2 hr).1; omega)), _F3_0, _on_56⟩, Sub.cons rfl (Sub.cons rfl (Sub.cons rfl (Sub.cons rfl (Sub.cons rfl (Sub.cons rfl (Sub.cons rfl (Sub.cons rfl (Sub.cons rfl (Sub.cons rfl (Sub.nil _)))))))))), (by first | omega | (dsimp only; omega))⟩)
      · have _kb_36 := _h48
        have _h48 := bf_d _h48
        refine W_exit (thn_exit (thn_exit (inB_hit ?_)))
        refine inB_nrm ?_
        refine thn_nrm (_hK_30 _ _ ?_)
        clear _hK_30
        refine W_region ?_
        refine WL_step rfl rfl (r_move rfl) ?_
        refine WL_step rfl rfl (r_add (by omega) rfl rfl) ?_
        refine WL_step rfl rfl (r_assign rfl) ?_
        refine WL_nil ?_
        have _on_57 : Ol bcs 4 1 _wr_33 (.slice _Av13 ((List.replicate aA.length false)).length _Cv13) (_o2) := by
          have hx := _o2_5
          exact hx
        exact thn_nrm (Exists.intro ((j + 1), _o2) ⟨⟨E, (by omega), (by omega), hl2, hb2, (froundB_up ha2 hu2 (by omega)), _F2_0, _on_57⟩, Sub.cons rfl (Sub.cons rfl (Sub.cons rfl (Sub.cons rfl (Sub.nil _)))), (by first | omega | (dsimp only; omega))⟩)
    · have _kb_29 := _h41
      have _h41 := bf_d _h41
      refine W_exit (thn_exit (thn_exit (inB_hit ?_)))
      refine thn_nrm (_hK_23 _ _ ?_)
      clear _hK_23
      refine W_seq fun _K_58 _hK_58 => ?_
      refine W_region ?_
      refine WL_step rfl rfl (r_move rfl) ?_
      refine WL_step rfl rfl (r_assign rfl) ?_
      refine WL_nil ?_
      refine thn_nrm (_hK_58 _ _ ?_)
      clear _hK_58
      refine W_ret ?_
      clear _hK_10 _hK_27
      have _o_59 : Ol bcs 4 1 _wr_26 (.slice _Av13 ((List.replicate aA.length false)).length _Cv13) (onwL aN fr.toNat aA.length) := by
        have hx := _o1_5
        exact hx.eq (onw_of_rounds hv.2 hl1 hb1 ha1 (by omega))
      exact ret_intro [_] ⟨rfl, trivial⟩ ⟨_o_59, Lo.down _lo13 (by omega), E⟩

/-- spec.IsFiniteLanguage -/
theorem c_spec_IsFiniteLanguage {w : World} (aS : Int) {LL_aA _B_aA : Nat} {_v_aA : Value} {aA : List Bool} (_h_aA : Ls bcs 1 w LL_aA _B_aA _v_aA aA) {LL_saN _B_saN : Nat} {_v_saN : Value} {saN : List Sv} (_h_saN : Ls Sv.cs 1 w LL_saN _B_saN _v_saN saN) {LR_aN BB_aN : Nat} {aN : List (List Int)} (_rd_aN : Rd ics 1 w LR_aN BB_aN saN aN) :
    Ctr Try.prog 17 #[(.agg #[(.int .i64 aS), _v_aA, _v_saN])] w (fun v w' => v = .bool (ifR aS aA aN) ∧ Ch [] w w') := by
  obtain ⟨_A_aA, _C_aA, _e1_aA⟩ := _h_aA.val
  subst _e1_aA
  have _l_aA := _h_aA.len
  have _h_aA := _h_aA.here (by decide)
  obtain ⟨_A_saN, _C_saN, _e1_saN⟩ := _h_saN.val
  subst _e1_saN
  have _l_saN := _h_saN.len
  have _h_saN := _h_saN.here (by decide)
  have _rd_aN := _rd_aN.here (by decide)
  have _rl_aN := _rd_aN.1
  have E := Ch.refl [] w
  have ul9 := usfR_len aS aA aN
  refine Ctr_of_W (N := 28) (vs0 := [(.agg #[(.int .i64 aS), (.slice _A_aA aA.length _C_aA), (.slice _A_saN saN.length _C_saN)])]) Try.func17 rfl rfl rfl ?_
  refine W_seq fun _K_1 _hK_1 => ?_
  refine W_region ?_
  refine WL_s rfl rfl ?_
  refine s_box rfl fun _b1 _w_2 _m1 _cw_2 _e1 => ?_
  have _cw_2z := _cw_2.size
  have E := E.trans _cw_2
  have _z1 := _m1.lt
  replace _m1 : Blk _w_2 _b1 42 [(.int .i64 aS), (.slice _A_aA aA.length _C_aA), (.slice _A_saN saN.length _C_saN)] := _m1
  refine WL_step rfl rfl (r_assign rfl) ?_
  refine WL_nil ?_
  refine thn_nrm (_hK_1 _ _ ?_)
  clear _hK_1
  refine W_seq fun _K_3 _hK_3 => ?_
  refine W_seq fun _K_4 _hK_4 => ?_
  refine W_region ?_
  refine WL_step rfl rfl (r_loadAtA0 _m1.at_ agg42 sz42 rfl) ?_
  refine WL_s rfl rfl ?_
  have _f_5 := (_h_aA.ch0 _cw_2)
  have _f_6 := (_rd_aN.ch0 _cw_2)
  have _f_7 := (_h_saN.ch0 _cw_2)
  refine Step.call (r_call (xs := [.tmp 5]) fk60 rfl) (c_spec_IsValidAutomaton _ _f_5 _f_7 _f_6 ) fun _v6 _w_8 _q6 => ?_
  obtain ⟨rfl, _cw_8⟩ := _q6
  have _cw_8z := _cw_8.size
  have E := E.trans _cw_8
  refine WL_step rfl rfl (r_not rfl) ?_
  refine WL_nil ?_
  refine thn_nrm (_hK_4 _ _ ?_)
  clear _hK_4
  refine W_cond rfl (fun _h7 => ?_) (fun _h7 => ?_)
  · have _kb_9 := _h7
    have _h7 := bf_t (bt_n _h7)
    refine W_seq fun _K_10 _hK_10 => ?_
    refine W_region ?_
    refine WL_step rfl rfl (r_assign rfl) ?_
    refine WL_nil ?_
    refine thn_nrm (_hK_10 _ _ ?_)
    clear _hK_10
    refine W_ret (thn_ret ?_)
    clear _hK_3
    exact ret_intro [_] ⟨rfl, trivial⟩ ⟨congrArg Value.bool (if_no _h7), E⟩
  · have _kb_9 := _h7
    have _h7 := bt_t (bf_n _h7)
    refine W_skip ?_
    refine thn_nrm (_hK_3 _ _ ?_)
    clear _hK_3
    refine W_seq fun _K_11 _hK_11 => ?_
    refine W_region ?_
    have _f_12 := (_m1.ch0 _cw_8)
    refine WL_step rfl rfl (r_loadAtA0 _f_12.at_ agg42 sz42 rfl) ?_
    refine WL_s rfl rfl ?_
    have _f_13 := (_f_5.ch0 _cw_8)
    have _f_14 := (_f_6.ch0 _cw_8)
    have _f_15 := (_f_7.ch0 _cw_8)
    refine Step.call (r_call (xs := [.tmp 8]) fk61 rfl) (c_spec_UsefulStates _ _f_13 _f_15 _f_14 ) fun _v9 _w_16 _q9 => ?_
    obtain ⟨_q9, _lo9, _cw_16⟩ := _q9
    have _cw_16z := _cw_16.size
    have E := E.trans _cw_16
    obtain ⟨_Av9, _Cv9, _ev9⟩ := _q9.val
    subst _ev9
    have _lv9 := _q9.len
    have _hiv9 := _q9.lt
    refine WL_step rfl rfl (r_assign rfl) ?_
    refine WL_nil ?_
    refine thn_nrm (_hK_11 _ _ ?_)
    clear _hK_11
    refine W_seq fun _K_17 _hK_17 => ?_
    refine W_seq fun _K_18 _hK_18 => ?_
    refine W_region ?_
    refine WL_step rfl rfl (r_assign rfl) ?_
    refine WL_nil ?_
    refine thn_nrm (_hK_18 _ _ ?_)
    clear _hK_18
    refine W_block ?_
    have _f_19 := (_f_12.ch0 _cw_16)
    have _f_20 := (_f_13.ch0 _cw_16)
    have _f_21 := (_f_15.ch0 _cw_16)
    have _f_22 := (_f_14.ch0 _cw_16)
    refine W_loop (σ := Nat) (fun (i : Nat) => [(1, (.pointer (some ⟨_b1, 0, none⟩))), (3, (.slice _Av9 (usfR aS aA aN).length _Cv9)), (4, (.int .i64 ((i : Nat) : Int)))]) (fun (i : Nat) wx => Ch [] w wx ∧ _w_16.heap.size ≤ wx.heap.size ∧ (i ≤ (usfR aS aA aN).length) ∧ (NoC aN (usfR aS aA aN) i) ∧ Blk wx _b1 42 [(.int .i64 aS), (.slice _A_aA aA.length _C_aA), (.slice _A_saN saN.length _C_saN)] ∧ Ls bcs 1 wx LL_aA w.heap.size (.slice _A_aA aA.length _C_aA) aA ∧ Ls Sv.cs 1 wx LL_saN w.heap.size (.slice _A_saN saN.length _C_saN) saN ∧ Rd ics 1 wx LR_aN w.heap.size saN aN ∧ Ol ics 3 1 wx (.slice _Av9 (usfR aS aA aN).length _Cv9) (usfR aS aA aN)) (fun (i : Nat) => (usfR aS aA aN).length - i) 0 (Sub.cons rfl (Sub.cons rfl (Sub.cons rfl (Sub.nil _)))) ⟨E, (Nat.le_refl _), (by omega), noc_zero, _f_19, _f_20, _f_21, _f_22, _q9⟩ ?_
    rintro i _wr_23 ⟨E, _zz0, hi, hn, _F0_0, _F0_1, _F0_2, _F0_3, _F0_4⟩
    have _E0h := E
    have _E0hz := _E0h.size
    have _F0_0z := _F0_0.lt
    refine W_seq fun _K_24 _hK_24 => ?_
    refine W_seq fun _K_25 _hK_25 => ?_
    refine W_region ?_
    refine WL_step rfl rfl (r_move rfl) ?_
    refine WL_step rfl rfl (r_move rfl) ?_
    refine WL_step rfl rfl (r_len (by rw [el46]; rfl) rfl) ?_
    refine WL_step rfl rfl (r_lss rfl rfl) ?_
    refine WL_nil ?_
    refine thn_nrm (_hK_25 _ _ ?_)
    clear _hK_25
    refine W_cond rfl (fun _h13 => ?_) (fun _h13 => ?_)
    · have _kb_26 := _h13
      have _h13 := bt_d _h13
      refine W_skip ?_
      refine thn_nrm (_hK_24 _ _ ?_)
      clear _hK_24
      refine W_seq fun _K_27 _hK_27 => ?_
      refine W_block ?_
      refine W_seq fun _K_28 _hK_28 => ?_
      refine W_drawC [] 12 mixed rfl fun _w_29 _cw_29 => ?_
      have _cw_29z := _cw_29.size
      have E := E.trans _cw_29
      have _f_30 := (_F0_0.ch0 _cw_29)
      refine DR_s 0 rfl (by kernel_rfl) rfl rfl (t_loadAtA0 _f_30.at_ (fun i hi => absurd hi List.not_mem_nil) agg42 sz42 rfl ?_)
      refine DR_s 1 rfl (by kernel_rfl) rfl rfl (t_v (fun _ => (r_move rfl)) ?_)
      refine DR_s 2 rfl (by kernel_rfl) rfl rfl (t_v (fun _ => (r_move rfl)) ?_)
      have _f_31 := (_F0_4.ch0 _cw_29)
      refine DR_s 3 rfl (by kernel_rfl) rfl rfl (t_index _f_31.ls ics_len el46 sz3 rfl rfl rfl (by first | omega | (rw [onw_len]; omega)) fun _p19 _y19 _hy19 _a19 => ?_)
      obtain ⟨_, s19, _b19, _e19, _⟩ := usf_mem.1 (mem_of_get _hy19)
      refine DR_s 4 rfl (by kernel_rfl) rfl rfl (t_loadAt0 _a19 (fun i hi => absurd hi List.not_mem_nil) agg3 rfl rfl ?_)
      refine DR_s 6 rfl (by kernel_rfl) rfl rfl (t_v (fun _ => (r_move rfl)) ?_)
      refine DR_s 7 rfl (by kernel_rfl) rfl rfl (t_v (fun _ => (r_move rfl)) ?_)
      refine DR_s 8 rfl (by kernel_rfl) rfl rfl (t_index _f_31.ls ics_len el46 sz3 rfl rfl rfl (by first | omega | (rw [onw_len]; omega)) fun _p24 _y24 _hy24 _a24 => ?_)
      obtain ⟨_, s24, _b24, _e24, _⟩ := usf_mem.1 (mem_of_get _hy24)
      refine DR_s 9 rfl (by kernel_rfl) rfl rfl (t_loadAt0 _a24 (fun i hi => absurd hi List.not_mem_nil) agg3 rfl rfl ?_)
      refine DR_one 5 (by kernel_rfl) ?_
      refine DO_s rfl rfl rfl ?_
      have _f_32 := (_F0_1.ch0 _cw_29)
      have _f_33 := (_F0_3.ch0 _cw_29)
      have _f_34 := (_F0_2.ch0 _cw_29)
      refine Step.call (r_call (xs := [.tmp 16, .tmp 20]) fk62 rfl) (c_spec_l13Onward _ _f_32 _f_34 _f_33 _ _h7 (by omega)) fun _v21 _w_35 _q21 => ?_
      obtain ⟨_q21, _lo21, _cw_35⟩ := _q21
      have _cw_35z := _cw_35.size
      have E := E.trans _cw_35
      obtain ⟨_Av21, _Cv21, _ev21⟩ := _q21.val
      subst _ev21
      have _lv21 := _q21.len
      have _hiv21 := _q21.lt
      have _S_36 : Ch [] _w_29 _w_35 := ((Ch.refl _ _).trans _cw_35)
      refine ⟨_S_36, ?_⟩
      refine DR_one 10 (by kernel_rfl) ?_
      refine DO_s rfl rfl rfl ?_
      refine (s_index (j := _y24.toNat) _q21.ls bcs_len el37 sz4 rfl rfl (by omega) (by first | omega | (rw [onw_len]; omega)) fun _p26 _y26 _hy26 _a26 => ?_)
      refine ⟨_S_36, ?_⟩
      refine DR_one 11 (by kernel_rfl) ?_
      refine DO_s rfl rfl rfl ?_
      refine s_v (r_loadAt0 _a26 agg4 rfl rfl) ?_
      refine ⟨_S_36, ?_⟩
      refine DR_done (by kernel_rfl) ?_
      refine thn_nrm (_hK_28 _ _ ?_)
      clear _hK_28
      refine W_cond rfl (fun _h27 => ?_) (fun _h27 => ?_)
      · have _kb_37 := _h27
        refine W_seq fun _K_38 _hK_38 => ?_
        refine W_region ?_
        refine WL_step rfl rfl (r_assign rfl) ?_
        refine WL_nil ?_
        refine thn_nrm (_hK_38 _ _ ?_)
        clear _hK_38
        refine W_ret (inB_ret (thn_ret (thn_ret (inB_ret (thn_ret ?_)))))
        clear _hK_17 _hK_27
        exact ret_intro [_] ⟨rfl, trivial⟩ ⟨congrArg Value.bool (if_hit _hy19 _e19 (by have _o9 := onw_get _hy26; rw [_h27, get_uniq _hy24 _hy19, _e19, Int.toNat_natCast] at _o9; exact _o9.symm)), E⟩
      · have _kb_37 := _h27
        refine W_skip ?_
        refine inB_nrm ?_
        refine thn_nrm (_hK_27 _ _ ?_)
        clear _hK_27
        refine W_region ?_
        refine WL_step rfl rfl (r_move rfl) ?_
        refine WL_step rfl rfl (r_add (by omega) rfl rfl) ?_
        refine WL_step rfl rfl (r_assign rfl) ?_
        refine WL_nil ?_
        have _f_39 := (_f_30.ch0 _cw_35)
        have _f_40 := (_f_32.ch0 _cw_35)
        have _f_41 := (_f_34.ch0 _cw_35)
        have _f_42 := (_f_33.ch0 _cw_35)
        have _f_43 := (_f_31.ch0 _cw_35)
        exact thn_nrm (Exists.intro (i + 1) ⟨⟨E, (by omega), (by omega), (noc_step hn _hy19 (fun c => by have _o9 := onw_get _hy26; rw [_h27, get_uniq _hy24 _hy19] at _o9; exact absurd (tt_iff.2 c) (by unfold Cyc; rw [← _o9]; simp))), _f_39, _f_40, _f_41, _f_42, _f_43⟩, Sub.cons rfl (Sub.cons rfl (Sub.cons rfl (Sub.nil _))), (by first | omega | (dsimp only; omega))⟩)
    · have _kb_26 := _h13
      have _h13 := bf_d _h13
      refine W_exit (thn_exit (thn_exit (inB_hit ?_)))
      refine thn_nrm (_hK_17 _ _ ?_)
      clear _hK_17
      refine W_seq fun _K_44 _hK_44 => ?_
      refine W_region ?_
      refine WL_step rfl rfl (r_assign rfl) ?_
      refine WL_nil ?_
      refine thn_nrm (_hK_44 _ _ ?_)
      clear _hK_44
      refine W_ret ?_
      clear _hK_24
      exact ret_intro [_] ⟨rfl, trivial⟩ ⟨congrArg Value.bool (if_all _h7 hn (by omega)), E⟩

/-- laws.FnExactIsFiniteLanguage -/
theorem c_laws_FnExactIsFiniteLanguage {w : World} (aS : Int) {LL_aA _B_aA : Nat} {_v_aA : Value} {aA : List Bool} (_h_aA : Ls bcs 1 w LL_aA _B_aA _v_aA aA) {LL_saN _B_saN : Nat} {_v_saN : Value} {saN : List Sv} (_h_saN : Ls Sv.cs 1 w LL_saN _B_saN _v_saN saN) {LR_aN BB_aN : Nat} {aN : List (List Int)} (_rd_aN : Rd ics 1 w LR_aN BB_aN saN aN) :
    Ctr Try.prog 4 #[(.agg #[(.int .i64 aS), _v_aA, _v_saN])] w (fun v w' => v = .bool (true) ∧ Ch [] w w') := by
  obtain ⟨_A_aA, _C_aA, _e1_aA⟩ := _h_aA.val
  subst _e1_aA
  have _l_aA := _h_aA.len
  have _h_aA := _h_aA.here (by decide)
  obtain ⟨_A_saN, _C_saN, _e1_saN⟩ := _h_saN.val
  subst _e1_saN
  have _l_saN := _h_saN.len
  have _h_saN := _h_saN.here (by decide)
  have _rd_aN := _rd_aN.here (by decide)
  have _rl_aN := _rd_aN.1
  have E := Ch.refl [] w
  refine Ctr_of_W (N := 27) (vs0 := [(.agg #[(.int .i64 aS), (.slice _A_aA aA.length _C_aA), (.slice _A_saN saN.length _C_saN)])]) Try.func4 rfl rfl rfl ?_
  refine W_seq fun _K_1 _hK_1 => ?_
  refine W_region ?_
  refine WL_s rfl rfl ?_
  refine s_box rfl fun _b1 _w_2 _m1 _cw_2 _e1 => ?_
  have _cw_2z := _cw_2.size
  have E := E.trans _cw_2
  have _z1 := _m1.lt
  replace _m1 : Blk _w_2 _b1 39 [(.int .i64 aS), (.slice _A_aA aA.length _C_aA), (.slice _A_saN saN.length _C_saN)] := _m1
  refine WL_step rfl rfl (r_assign rfl) ?_
  refine WL_nil ?_
  refine thn_nrm (_hK_1 _ _ ?_)
  clear _hK_1
  refine W_seq fun _K_3 _hK_3 => ?_
  refine W_region ?_
  refine WL_step rfl rfl (r_assign rfl) ?_
  refine WL_nil ?_
  refine thn_nrm (_hK_3 _ _ ?_)
  clear _hK_3
  refine W_seq fun _K_4 _hK_4 => ?_
  refine W_region ?_
  refine WL_step rfl rfl (r_loadAtA0 _m1.at_ agg39 sz39 rfl) ?_
  refine WL_step rfl rfl (r_move rfl) ?_
  refine WL_s rfl rfl ?_
  have _f_5 := (_h_aA.ch0 _cw_2)
  have _f_6 := (_rd_aN.ch0 _cw_2)
  have _f_7 := (_h_saN.ch0 _cw_2)
  refine Step.call (r_call (xs := [.tmp 7, .tmp 8]) fk16 rfl) (c_laws_szAutomaton _ _f_5 _f_7 _f_6 _ (by omega) (by omega)) fun _v9 _w_8 _q9 => ?_
  obtain ⟨rfl, _cw_8⟩ := _q9
  have _cw_8z := _cw_8.size
  have E := E.trans _cw_8
  refine WL_step rfl rfl (r_assign rfl) ?_
  refine WL_nil ?_
  refine thn_nrm (_hK_4 _ _ ?_)
  clear _hK_4
  refine W_seq fun _K_9 _hK_9 => ?_
  refine W_seq fun _K_10 _hK_10 => ?_
  refine W_region ?_
  refine WL_step rfl rfl (r_move rfl) ?_
  refine WL_step rfl rfl (r_lss rfl rfl) ?_
  refine WL_nil ?_
  refine thn_nrm (_hK_10 _ _ ?_)
  clear _hK_10
  refine W_cond rfl (fun _h11 => ?_) (fun _h11 => ?_)
  · have _kb_11 := _h11
    have _h11 := bt_d _h11
    refine W_seq fun _K_12 _hK_12 => ?_
    refine W_region ?_
    refine WL_step rfl rfl (r_assign rfl) ?_
    refine WL_nil ?_
    refine thn_nrm (_hK_12 _ _ ?_)
    clear _hK_12
    refine W_ret (thn_ret ?_)
    clear _hK_9
    exact ret_intro [_] ⟨rfl, trivial⟩ ⟨congrArg Value.bool (by first | rfl | (exfalso; omega) | (exfalso; revert _h11; simp; done) | (exfalso; revert _h11; simp; omega)), E⟩
  · have _kb_11 := _h11
    have _h11 := bf_d _h11
    refine W_skip ?_
    refine thn_nrm (_hK_9 _ _ ?_)
    clear _hK_9
    refine W_seq fun _K_13 _hK_13 => ?_
    refine W_region ?_
    have _f_14 := (_m1.ch0 _cw_8)
    refine WL_step rfl rfl (r_loadAtA0 _f_14.at_ agg39 sz39 rfl) ?_
    refine WL_s rfl rfl ?_
    have _f_15 := (_f_5.ch0 _cw_8)
    have _f_16 := (_f_6.ch0 _cw_8)
    have _f_17 := (_f_7.ch0 _cw_8)
    refine Step.call (r_call (xs := [.tmp 12]) fk18 rfl) (c_laws_toAutomaton _ _f_15 _f_17 _f_16 (by omega)) fun _v13 _w_18 _q13 => ?_
    obtain ⟨u13_0x1, u13_0x2, _vs13_0x2, rfl, _q_u13_0x1, _lo_u13_0x1, _q_u13_0x2, _lo_u13_0x2, _od_vs13_0x2, _sep_vs13_0x2, _dj_u13_0x1_u13_0x2, _sep_u13_0x1_vs13_0x2, _cw_18⟩ := _q13
    have _cw_18z := _cw_18.size
    have E := E.trans _cw_18
    obtain ⟨Au13_0x1, Cu13_0x1, eu13_0x1⟩ := _q_u13_0x1.val
    subst eu13_0x1
    have lu13_0x1 := _q_u13_0x1.len
    have _hiu13_0x1 := _q_u13_0x1.lt
    obtain ⟨Au13_0x2, Cu13_0x2, eu13_0x2⟩ := _q_u13_0x2.val
    subst eu13_0x2
    have lu13_0x2 := _q_u13_0x2.len
    have _hiu13_0x2 := _q_u13_0x2.lt
    refine WL_s rfl rfl ?_
    refine Step.call (r_call (xs := [.tmp 13]) fk17 rfl) (c_spec_IsFiniteLanguage _ _q_u13_0x1.ls _q_u13_0x2.ls _od_vs13_0x2.rd ) fun _v14 _w_19 _q14 => ?_
    obtain ⟨rfl, _cw_19⟩ := _q14
    have _cw_19z := _cw_19.size
    have E := E.trans _cw_19
    refine WL_step rfl rfl (r_assign rfl) ?_
    refine WL_nil ?_
    refine thn_nrm (_hK_13 _ _ ?_)
    clear _hK_13
    refine W_seq fun _K_20 _hK_20 => ?_
    refine W_region ?_
    have _f_21 := ((_f_14.ch0 _cw_18).ch0 _cw_19)
    refine WL_step rfl rfl (r_loadAtA0 _f_21.at_ agg39 sz39 rfl) ?_
    refine WL_s rfl rfl ?_
    have _f_22 := ((_f_15.ch0 _cw_18).ch0 _cw_19)
    have _f_23 := ((_f_16.ch0 _cw_18).ch0 _cw_19)
    have _f_24 := ((_f_17.ch0 _cw_18).ch0 _cw_19)
    refine Step.call (r_call (xs := [.tmp 15]) fk18 rfl) (c_laws_toAutomaton _ _f_22 _f_24 _f_23 (by omega)) fun _v16 _w_25 _q16 => ?_
    obtain ⟨u16_0x1, u16_0x2, _vs16_0x2, rfl, _q_u16_0x1, _lo_u16_0x1, _q_u16_0x2, _lo_u16_0x2, _od_vs16_0x2, _sep_vs16_0x2, _dj_u16_0x1_u16_0x2, _sep_u16_0x1_vs16_0x2, _cw_25⟩ := _q16
    have _cw_25z := _cw_25.size
    have E := E.trans _cw_25
    obtain ⟨Au16_0x1, Cu16_0x1, eu16_0x1⟩ := _q_u16_0x1.val
    subst eu16_0x1
    have lu16_0x1 := _q_u16_0x1.len
    have _hiu16_0x1 := _q_u16_0x1.lt
    obtain ⟨Au16_0x2, Cu16_0x2, eu16_0x2⟩ := _q_u16_0x2.val
    subst eu16_0x2
    have lu16_0x2 := _q_u16_0x2.len
    have _hiu16_0x2 := _q_u16_0x2.lt
    refine WL_s rfl rfl ?_
    refine s_alloc zr42 fun _b5 _w_26 _m5 _cw_26 _e5 => ?_
    have _cw_26z := _cw_26.size
    have E := E.trans _cw_26
    have _z5 := _m5.lt
    replace _m5 : Blk _w_26 _b5 42 [(.int .i64 0), (.slice none 0 0), (.slice none 0 0)] := _m5
    refine WL_s rfl rfl ?_
    refine s_storeA (off := 0) 3 _m5 sz42 rfl (us := [(.int .i64 aS), (.slice Au16_0x1 (aA).length Cu16_0x1), (.slice Au16_0x2 (_vs16_0x2).length Cu16_0x2)]) rfl rfl rfl rfl fun _w_27 _m_28 _cw_27 => ?_
    have _cw_27z := _cw_27.size
    have E := E.step _cw_27 (fun i hi => .inl (by have _h1 := List.mem_singleton.1 hi; omega))
    replace _m_28 : Blk _w_27 _b5 42 [(.int .i64 aS), (.slice Au16_0x1 (aA).length Cu16_0x1), (.slice Au16_0x2 (_vs16_0x2).length Cu16_0x2)] := _m_28
    refine WL_nil ?_
    refine thn_nrm (_hK_20 _ _ ?_)
    clear _hK_20
    refine W_seq fun _K_29 _hK_29 => ?_
    refine W_region ?_
    refine WL_step rfl rfl (r_loadAtA0 _m_28.at_ agg42 sz42 rfl) ?_
    refine WL_s rfl rfl ?_
    have _f_30 := ((_q_u16_0x1.ch0 _cw_26).ch _cw_27 (fun g hg hm => by have _h0 := List.mem_singleton.1 hm; have _h2 := _lo_u16_0x1 _ hg; have _h3 := _hiu16_0x1 _ hg; omega))
    have _f_31 := ((_od_vs16_0x2.ch0 _cw_26).ch _cw_27 (fun i hi => by have _h1 := List.mem_singleton.1 hi; omega))
    have _f_32 := ((_q_u16_0x2.ch0 _cw_26).ch _cw_27 (fun g hg hm => by have _h0 := List.mem_singleton.1 hm; have _h2 := _lo_u16_0x2 _ hg; have _h3 := _hiu16_0x2 _ hg; omega))
    refine Step.call (r_call (xs := [.tmp 17]) fk19 rfl) (c_impl_IsFiniteLanguage _ _f_30.ls _f_32.ls _f_31.rd ) fun _v18 _w_33 _q18 => ?_
    obtain ⟨rfl, _cw_33⟩ := _q18
    have _cw_33z := _cw_33.size
    have E := E.trans _cw_33
    refine WL_step rfl rfl (r_assign rfl) ?_
    refine WL_nil ?_
    refine thn_nrm (_hK_29 _ _ ?_)
    clear _hK_29
    refine W_seq fun _K_34 _hK_34 => ?_
    refine W_seq fun _K_35 _hK_35 => ?_
    refine W_region ?_
    refine WL_step rfl rfl (r_move rfl) ?_
    refine WL_step rfl rfl (r_move rfl) ?_
    refine WL_step rfl rfl (r_neqB un4 rfl rfl) ?_
    refine WL_nil ?_
    refine thn_nrm (_hK_35 _ _ ?_)
    clear _hK_35
    refine W_cond rfl (fun _h21 => ?_) (fun _h21 => ?_)
    · have _kb_36 := _h21
      have _h21 := bf_e (bt_n _h21)
      refine W_seq fun _K_37 _hK_37 => ?_
      refine W_region ?_
      refine WL_step rfl rfl (r_assign rfl) ?_
      refine WL_nil ?_
      refine thn_nrm (_hK_37 _ _ ?_)
      clear _hK_37
      refine W_ret (thn_ret ?_)
      clear _hK_34
      exact ret_intro [_] ⟨rfl, trivial⟩ ⟨congrArg Value.bool (by first | rfl | (exfalso; omega) | (exfalso; revert _h21; simp; done) | (exfalso; revert _h21; simp; omega)), E⟩
    · have _kb_36 := _h21
      have _h21 := bt_e (bf_n _h21)
      refine W_skip ?_
      refine thn_nrm (_hK_34 _ _ ?_)
      clear _hK_34
      refine W_seq fun _K_38 _hK_38 => ?_
      refine W_seq fun _K_39 _hK_39 => ?_
      refine W_drawC [] 5 mixed rfl fun _w_40 _cw_40 => ?_
      have _cw_40z := _cw_40.size
      have E := E.trans _cw_40
      have _f_41 := ((_m_28.ch0 _cw_33).ch0 _cw_40)
      refine DR_s 0 rfl (by kernel_rfl) rfl rfl (t_loadAtA0 _f_41.at_ (fun i hi => absurd hi List.not_mem_nil) agg42 sz42 rfl ?_)
      have _f_42 := (((((_f_21.ch0 _cw_25).ch0 _cw_26).ch _cw_27 (fun hm => by have _h1 := List.mem_singleton.1 hm; omega)).ch0 _cw_33).ch0 _cw_40)
      refine DR_s 1 rfl (by kernel_rfl) rfl rfl (t_loadAtA0 _f_42.at_ (fun i hi => absurd hi List.not_mem_nil) agg39 sz39 rfl ?_)
      refine DR_one 2 (by kernel_rfl) ?_
      refine DO_s rfl rfl rfl ?_
      have _f_43 := (((((_f_22.ch0 _cw_25).ch0 _cw_26).ch _cw_27 (fun i hi => by have _h1 := List.mem_singleton.1 hi; omega)).ch0 _cw_33).ch0 _cw_40)
      have _f_44 := (((((_f_23.ch0 _cw_25).ch0 _cw_26).ch _cw_27 (fun i hi => by have _h1 := List.mem_singleton.1 hi; omega)).ch0 _cw_33).ch0 _cw_40)
      have _f_45 := (((((_f_24.ch0 _cw_25).ch0 _cw_26).ch _cw_27 (fun i hi => by have _h1 := List.mem_singleton.1 hi; omega)).ch0 _cw_33).ch0 _cw_40)
      refine Step.call (r_call (xs := [.tmp 23]) fk18 rfl) (c_laws_toAutomaton _ _f_43 _f_45 _f_44 (by omega)) fun _v24 _w_46 _q24 => ?_
      obtain ⟨u24_0x1, u24_0x2, _vs24_0x2, rfl, _q_u24_0x1, _lo_u24_0x1, _q_u24_0x2, _lo_u24_0x2, _od_vs24_0x2, _sep_vs24_0x2, _dj_u24_0x1_u24_0x2, _sep_u24_0x1_vs24_0x2, _cw_46⟩ := _q24
      have _cw_46z := _cw_46.size
      have E := E.trans _cw_46
      obtain ⟨Au24_0x1, Cu24_0x1, eu24_0x1⟩ := _q_u24_0x1.val
      subst eu24_0x1
      have lu24_0x1 := _q_u24_0x1.len
      have _hiu24_0x1 := _q_u24_0x1.lt
      obtain ⟨Au24_0x2, Cu24_0x2, eu24_0x2⟩ := _q_u24_0x2.val
      subst eu24_0x2
      have lu24_0x2 := _q_u24_0x2.len
      have _hiu24_0x2 := _q_u24_0x2.lt
      have _S_47 : Ch [] _w_40 _w_46 := ((Ch.refl _ _).trans _cw_46)
      refine ⟨_S_47, ?_⟩
      refine DR_one 3 (by kernel_rfl) ?_
      refine DO_s rfl rfl rfl ?_
      have _f_48 := (((_f_30.ch0 _cw_33).ch0 _cw_40).ch0 _cw_46)
      have _f_49 := (((_f_31.ch0 _cw_33).ch0 _cw_40).ch0 _cw_46)
      have _f_50 := (((_f_32.ch0 _cw_33).ch0 _cw_40).ch0 _cw_46)
      refine Step.call (r_call (xs := [.tmp 22, .tmp 24]) fk20 rfl) (c_laws_eqAutomaton _ _f_48.ls _f_50.ls _f_49.rd _ _q_u24_0x1.ls _q_u24_0x2.ls _od_vs24_0x2.rd ) fun _v25 _w_51 _q25 => ?_
      obtain ⟨rfl, _cw_51⟩ := _q25
      have _cw_51z := _cw_51.size
      have E := E.trans _cw_51
      have _S_52 : Ch [] _w_40 _w_51 := (_S_47.trans _cw_51)
      refine ⟨_S_52, ?_⟩
      refine DR_s 4 rfl (by kernel_rfl) rfl rfl (t_v (fun _ => (r_not rfl)) ?_)
      refine DR_done (by kernel_rfl) ?_
      refine thn_nrm (_hK_39 _ _ ?_)
      clear _hK_39
      refine W_cond rfl (fun _h26 => ?_) (fun _h26 => ?_)
      · have _kb_53 := _h26
        have _h26 := bf_d (bt_n _h26)
        refine W_seq fun _K_54 _hK_54 => ?_
        refine W_region ?_
        refine WL_step rfl rfl (r_assign rfl) ?_
        refine WL_nil ?_
        refine thn_nrm (_hK_54 _ _ ?_)
        clear _hK_54
        refine W_ret (thn_ret ?_)
        clear _hK_38
        exact ret_intro [_] ⟨rfl, trivial⟩ ⟨congrArg Value.bool (by first | rfl | (exfalso; omega) | (exfalso; revert _h26; simp; done) | (exfalso; revert _h26; simp; omega)), E⟩
      · have _kb_53 := _h26
        have _h26 := bt_d (bf_n _h26)
        refine W_skip ?_
        refine thn_nrm (_hK_38 _ _ ?_)
        clear _hK_38
        refine W_seq fun _K_55 _hK_55 => ?_
        refine W_region ?_
        refine WL_step rfl rfl (r_assign rfl) ?_
        refine WL_nil ?_
        refine thn_nrm (_hK_55 _ _ ?_)
        clear _hK_55
        refine W_ret ?_
        exact ret_intro [_] ⟨rfl, trivial⟩ ⟨congrArg Value.bool (by first | rfl | (exfalso; omega) | (exfalso; revert _h26; simp; done) | (exfalso; revert _h26; simp; omega)), E⟩

end Go.Proofs.Ytmjldcgddhnmpaa
