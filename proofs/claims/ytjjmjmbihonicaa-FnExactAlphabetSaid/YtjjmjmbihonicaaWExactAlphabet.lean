/- Walks of functions that FnExactAlphabet reaches: what each returns, and that it leaves the memory that was there alone. -/
import Derived.Test.YtjjmjmbihonicaaKF
import Derived.Test.YtjjmjmbihonicaaKG
import Derived.Test.YtjjmjmbihonicaaKH
import Derived.Test.YtjjmjmbihonicaaKI
import Derived.Test.YtjjmjmbihonicaaKJ
import Derived.Test.YtjjmjmbihonicaaKM
import Derived.Test.YtjjmjmbihonicaaKN
import Derived.Test.YtjjmjmbihonicaaKO
import Derived.Test.YtjjmjmbihonicaaKP
import Derived.Test.YtjjmjmbihonicaaKQ
import Derived.Test.YtjjmjmbihonicaaKR
import Derived.Test.YtjjmjmbihonicaaKS
import Derived.Test.YtjjmjmbihonicaaKT
import Derived.Test.YtjjmjmbihonicaaKU
import Derived.Test.YtjjmjmbihonicaaKV
import Derived.Test.YtjjmjmbihonicaaKX
import Derived.Test.YtjjmjmbihonicaaKY
import Derived.Test.YtjjmjmbihonicaaKZ
import Derived.Test.YtjjmjmbihonicaaJA
import Derived.Test.YtjjmjmbihonicaaJB
import Derived.Test.YtjjmjmbihonicaaJC
import Derived.Test.YtjjmjmbihonicaaJD
import Derived.Test.YtjjmjmbihonicaaJE
import Derived.Test.YtjjmjmbihonicaaJF
import Derived.Test.YtjjmjmbihonicaaJG
import Derived.Test.YtjjmjmbihonicaaJH
import Derived.Test.YtjjmjmbihonicaaJI
import Derived.Test.YtjjmjmbihonicaaJK
import Derived.Test.YtjjmjmbihonicaaWExactDerivativeWord
import Derived.Test.YtjjmjmbihonicaaWExactDerivativeWordb
import Derived.Test.YtjjmjmbihonicaaProg
namespace Go.Proofs.Ytjjmjmbihonicaa
open Go.KLib Go.Shelf
set_option maxRecDepth 20000
set_option linter.unusedVariables false
set_option linter.unusedSimpArgs false
namespace TExactAlphabet
theorem agg24 : aggB Try.prog 24 = some true := by kernel_rfl
theorem agg27 : aggB Try.prog 27 = some false := by kernel_rfl
theorem agg29 : aggB Try.prog 29 = some true := by kernel_rfl
theorem agg3 : aggB Try.prog 3 = some false := by kernel_rfl
theorem agg57 : aggB Try.prog 57 = some true := by kernel_rfl
theorem by3 : bytesB Try.prog 3 = some 8 := by kernel_rfl
theorem el27 : elB Try.prog 27 = some 57 := by kernel_rfl
theorem el40 : elB Try.prog 40 = some 3 := by kernel_rfl
theorem fa29_0 : faB Try.prog 29 0 = some 0 := by kernel_rfl
theorem fa57_0 : faB Try.prog 57 0 = some 0 := by kernel_rfl
theorem fa57_1 : faB Try.prog 57 1 = some 1 := by kernel_rfl
theorem fk105 : fnB Try.prog 105 = true := by kernel_rfl
theorem fk106 : fnB Try.prog 106 = true := by kernel_rfl
theorem fk107 : fnB Try.prog 107 = true := by kernel_rfl
theorem fk14 : fnB Try.prog 14 = true := by kernel_rfl
theorem fk15 : fnB Try.prog 15 = true := by kernel_rfl
theorem fk16 : fnB Try.prog 16 = true := by kernel_rfl
theorem fk17 : fnB Try.prog 17 = true := by kernel_rfl
theorem fk18 : fnB Try.prog 18 = true := by kernel_rfl
theorem fk25 : fnB Try.prog 25 = true := by kernel_rfl
theorem fk34 : fnB Try.prog 34 = true := by kernel_rfl
theorem fk35 : fnB Try.prog 35 = true := by kernel_rfl
theorem fk40 : fnB Try.prog 40 = true := by kernel_rfl
theorem fk41 : fnB Try.prog 41 = true := by kernel_rfl
theorem fk42 : fnB Try.prog 42 = true := by kernel_rfl
theorem fk75 : fnB Try.prog 75 = true := by kernel_rfl
theorem fk76 : fnB Try.prog 76 = true := by kernel_rfl
theorem mixed : Try.prog.follows .mixedOrders = true := by kernel_rfl
theorem sz24 : sizeB Try.prog 24 = some 1 := by kernel_rfl
theorem sz29 : sizeB Try.prog 29 = some 1 := by kernel_rfl
theorem sz3 : sizeB Try.prog 3 = some 1 := by kernel_rfl
theorem sz57 : sizeB Try.prog 57 = some 4 := by kernel_rfl
theorem zr29 : zeroB Try.prog 29 = some (.agg #[.slice none 0 0]) := by kernel_rfl
theorem zr3 : zeroB Try.prog 3 = some (.int .i64 0) := by kernel_rfl
theorem zr57 : zeroB Try.prog 57 = some (.agg #[.int .i64 0, .int .i64 0, .int .i64 0, .int .i64 0]) := by kernel_rfl
end TExactAlphabet
open TExactAlphabet

/-- impl.copyInts -/
theorem c_impl_copyInts {w : World} {LL_l _B_l : Nat} {_v_l : Value} {l : List Int} (_h_l : Ls ics 1 w LL_l _B_l _v_l l) (hb : l.length ≤ 4194304) :
    Ctr Try.prog 105 #[_v_l] w (fun v w' => Ol ics 3 1 w' v (l) ∧ Lo w.heap.size v ∧ Ch [] w w') := by
  obtain ⟨_A_l, _C_l, _e1_l⟩ := _h_l.val
  subst _e1_l
  have _l_l := _h_l.len
  have _h_l := _h_l.here (by decide)
  have E := Ch.refl [] w
  refine Ctr_of_W (N := 6) (vs0 := [(.slice _A_l l.length _C_l)]) Try.func105 rfl rfl rfl ?_
  refine W_seq fun _K_1 _hK_1 => ?_
  refine W_region ?_
  refine WL_step rfl rfl (r_assign rfl) ?_
  refine WL_nil ?_
  refine thn_nrm (_hK_1 _ _ ?_)
  clear _hK_1
  refine W_seq fun _K_2 _hK_2 => ?_
  refine W_region ?_
  refine WL_s rfl rfl ?_
  refine s_buildSlice0 (k := 1) ics el40 sz3 fun _v3 _w_3 _q3 _lo3 _cw_3 => ?_
  have _cw_3z := _cw_3.size
  have E := E.trans _cw_3
  obtain ⟨_Av3, _Cv3, _ev3⟩ := _q3.val
  subst _ev3
  have _lv3 := _q3.len
  have _hiv3 := _q3.lt
  refine WL_step rfl rfl (r_move rfl) ?_
  refine WL_s rfl rfl ?_
  have _f_5 := (_h_l.ch0 _cw_3)
  refine s_append (cs := ics) el40 sz3 by3 zr3 rfl (by decide) ics_one _q3 _f_5 rfl rfl (by first | omega | (simp only [List.length_append, List.length_nil, List.length_cons, List.length_replicate, List.length_set, List.length_reverse, List.length_map] at *; omega) | (simp at *; omega)) (by first | omega | (simp only [List.length_append, List.length_nil, List.length_cons, List.length_replicate, List.length_set, List.length_reverse, List.length_map] at *; omega) | (simp at *; omega)) _lo3 (by omega) fun _v5 _w_4 _q5 _lo5 _ap5 _cw_4 => ?_
  have _cw_4z := _cw_4.size
  have E := E.step _cw_4 (fun i hi => .inl (by have _h1 := _lo3 _ hi; omega))
  replace _q5 : Ol ics 3 1 _w_4 _v5 l := _q5
  obtain ⟨_Av5, _Cv5, _ev5⟩ := _q5.val
  subst _ev5
  have _lv5 := _q5.len
  have _hiv5 := _q5.lt
  refine WL_step rfl rfl (r_assign rfl) ?_
  refine WL_nil ?_
  refine thn_nrm (_hK_2 _ _ ?_)
  clear _hK_2
  refine W_ret ?_
  have _o_6 : Ol ics 3 1 _w_4 (.slice _Av5 (l).length _Cv5) (l) := by
    have hx := _q5
    first | exact hx | simpa using hx
  exact ret_intro [_] ⟨rfl, trivial⟩ ⟨_o_6, Lo.down _lo5 (by omega), E⟩

shelf_lay Lays2.n20 Nm2 20 at Try as lay_20_107
/-- slices.Compact[[]int,int] -/
theorem c_slices_Compact_int_int {w : World} {e_a : Nat} {v_a : Value} {a : List Int} (h_a : Ol ics e_a 1 w v_a a) (hb : a.length ≤ 4194304) :
    Ctr Try.prog 107 #[v_a] w (fun v w' => Ol ics e_a 1 w' v (Lib.compact a) ∧ bl v = bl v_a ∧ Ch (bl v_a) w w') := by
  exact compact_ctr lay_20_107 h_a (by omega)

shelf_lay Lays.n189 Nm 189 at Try as lay_189_106
/-- slices.Sort[[]int,int] -/
theorem c_slices_Sort_int_int {w : World} {e_a : Nat} {v_a : Value} {a : List Int} (h_a : Ol ics e_a 1 w v_a a) (hb : a.length ≤ 4194304) :
    Ctr Try.prog 106 #[v_a] w (fun v w' => v = .tuple #[] ∧ Ol ics e_a 1 w' v_a (a.mergeSort fun x y => decide (x ≤ y)) ∧ Ch (bl v_a) w w') := by
  exact sort_ctr lay_189_106 h_a (by omega)

/-- impl.ascending -/
theorem c_impl_ascending {w : World} {LL_l _B_l : Nat} {_v_l : Value} {l : List Int} (_h_l : Ls ics 1 w LL_l _B_l _v_l l) (hb : l.length ≤ 4194304) :
    Ctr Try.prog 76 #[_v_l] w (fun v w' => Ol ics 3 1 w' v (ascL l) ∧ Lo w.heap.size v ∧ Ch [] w w') := by
  obtain ⟨_A_l, _C_l, _e1_l⟩ := _h_l.val
  subst _e1_l
  have _l_l := _h_l.len
  have _h_l := _h_l.here (by decide)
  have E := Ch.refl [] w
  refine Ctr_of_W (N := 10) (vs0 := [(.slice _A_l l.length _C_l)]) Try.func76 rfl rfl rfl ?_
  refine W_seq fun _K_1 _hK_1 => ?_
  refine W_region ?_
  refine WL_step rfl rfl (r_assign rfl) ?_
  refine WL_nil ?_
  refine thn_nrm (_hK_1 _ _ ?_)
  clear _hK_1
  refine W_seq fun _K_2 _hK_2 => ?_
  refine W_region ?_
  refine WL_step rfl rfl (r_move rfl) ?_
  refine WL_s rfl rfl ?_
  refine Step.call (r_call (xs := [.tmp 4]) fk105 rfl) (c_impl_copyInts _h_l (by omega)) fun _v5 _w_3 _q5 => ?_
  obtain ⟨_q5, _lo5, _cw_3⟩ := _q5
  have _cw_3z := _cw_3.size
  have E := E.trans _cw_3
  obtain ⟨_Av5, _Cv5, _ev5⟩ := _q5.val
  subst _ev5
  have _lv5 := _q5.len
  have _hiv5 := _q5.lt
  refine WL_step rfl rfl (r_assign rfl) ?_
  refine WL_nil ?_
  refine thn_nrm (_hK_2 _ _ ?_)
  clear _hK_2
  refine W_seq fun _K_4 _hK_4 => ?_
  refine W_region ?_
  refine WL_step rfl rfl (r_move rfl) ?_
  refine WL_s rfl rfl ?_
  refine Step.call (r_call (xs := [.tmp 6]) fk106 rfl) (c_slices_Sort_int_int _q5 (by first | omega | (simp; omega))) fun _v7 _w_5 _q7 => ?_
  obtain ⟨rfl, _q7, _cw_5⟩ := _q7
  have _cw_5z := _cw_5.size
  have E := E.step _cw_5 (fun i hi => .inl (by have _h1 := _lo5 _ hi; omega))
  refine WL_nil ?_
  refine thn_nrm (_hK_4 _ _ ?_)
  clear _hK_4
  refine W_seq fun _K_6 _hK_6 => ?_
  refine W_region ?_
  refine WL_step rfl rfl (r_move rfl) ?_
  refine WL_s rfl rfl ?_
  refine Step.call (r_call (xs := [.tmp 8]) fk107 rfl) (c_slices_Compact_int_int _q7 (by first | omega | (rw [List.length_mergeSort]; omega))) fun _v9 _w_7 _q9 => ?_
  obtain ⟨_q9, _bb9, _cw_7⟩ := _q9
  have _cw_7z := _cw_7.size
  have E := E.step _cw_7 (fun i hi => .inl (by have _h1 := _lo5 _ hi; omega))
  obtain ⟨_Av9, _Cv9, _ev9⟩ := _q9.val
  subst _ev9
  have _lv9 := _q9.len
  have _hiv9 := _q9.lt
  refine WL_step rfl rfl (r_assign rfl) ?_
  refine WL_nil ?_
  refine thn_nrm (_hK_6 _ _ ?_)
  clear _hK_6
  refine W_ret ?_
  have _o_8 : Ol ics 3 1 _w_7 (.slice _Av9 (Lib.compact (l.mergeSort fun x y => decide (x ≤ y))).length _Cv9) (ascL l) := by
    have hx := _q9
    exact hx
  exact ret_intro [_] ⟨rfl, trivial⟩ ⟨_o_8, Lo.down (fun g hg => _lo5 g (_bb9 ▸ hg)) (by omega), E⟩

/-- impl.Alphabet -/
theorem c_impl_Alphabet {w : World} {LL_e _B_e : Nat} {_v_e : Value} {e : List Token} (_h_e : Ls Token.cs 4 w LL_e _B_e _v_e e) (hb : e.length ≤ 1048576) :
    Ctr Try.prog 41 #[(.agg #[_v_e])] w (fun v w' => Ol ics 3 1 w' v (alphR e) ∧ Lo w.heap.size v ∧ Ch [] w w') := by
  obtain ⟨_A_e, _C_e, _e1_e⟩ := _h_e.val
  subst _e1_e
  have _l_e := _h_e.len
  have _h_e := _h_e.here (by decide)
  have E := Ch.refl [] w
  refine Ctr_of_W (N := 28) (vs0 := [(.agg #[(.slice _A_e e.length _C_e)])]) Try.func41 rfl rfl rfl ?_
  refine W_seq fun _K_1 _hK_1 => ?_
  refine W_region ?_
  refine WL_s rfl rfl ?_
  refine s_box rfl fun _b1 _w_2 _m1 _cw_2 _e1 => ?_
  have _cw_2z := _cw_2.size
  have E := E.trans _cw_2
  have _z1 := _m1.lt
  replace _m1 : Blk _w_2 _b1 29 [(.slice _A_e e.length _C_e)] := _m1
  refine WL_step rfl rfl (r_assign rfl) ?_
  refine WL_nil ?_
  refine thn_nrm (_hK_1 _ _ ?_)
  clear _hK_1
  refine W_seq fun _K_3 _hK_3 => ?_
  refine W_seq fun _K_4 _hK_4 => ?_
  refine W_region ?_
  refine WL_step rfl rfl (r_loadAtA0 _m1.at_ agg29 sz29 rfl) ?_
  refine WL_s rfl rfl ?_
  have _f_5 := (_h_e.ch0 _cw_2)
  refine Step.call (r_call (xs := [.tmp 6]) fk17 rfl) (c_impl_IsExpr _f_5 (by omega)) fun _v7 _w_6 _q7 => ?_
  obtain ⟨rfl, _cw_6⟩ := _q7
  have _cw_6z := _cw_6.size
  have E := E.trans _cw_6
  refine WL_step rfl rfl (r_not rfl) ?_
  refine WL_nil ?_
  refine thn_nrm (_hK_4 _ _ ?_)
  clear _hK_4
  refine W_cond rfl (fun _h8 => ?_) (fun _h8 => ?_)
  · have _kb_7 := _h8
    have _h8 := bt_n _h8
    refine W_seq fun _K_8 _hK_8 => ?_
    refine W_region ?_
    refine WL_step rfl rfl (r_assign rfl) ?_
    refine WL_nil ?_
    refine thn_nrm (_hK_8 _ _ ?_)
    clear _hK_8
    refine W_ret (thn_ret ?_)
    clear _hK_3
    have _o_9 : Ol ics 3 1 _w_6 (.slice none 0 0) (alphR e) := by
      have hx := (Ol.nil (cs := ics) (e := 3) (k := 1) _w_6)
      first | exact hx.eq (alphR_n2 _h8) | exact hx.eq (alphR_y2 _h8 (by omega))
    exact ret_intro [_] ⟨rfl, trivial⟩ ⟨_o_9, Lo.nil _, E⟩
  · have _kb_7 := _h8
    have _h8 := bf_n _h8
    refine W_skip ?_
    refine thn_nrm (_hK_3 _ _ ?_)
    clear _hK_3
    refine W_seq fun _K_10 _hK_10 => ?_
    refine W_region ?_
    refine WL_s rfl rfl ?_
    refine s_buildSlice0 (k := 1) ics el40 sz3 fun _v9 _w_11 _q9 _lo9 _cw_11 => ?_
    have _cw_11z := _cw_11.size
    have E := E.trans _cw_11
    obtain ⟨_Av9, _Cv9, _ev9⟩ := _q9.val
    subst _ev9
    have _lv9 := _q9.len
    have _hiv9 := _q9.lt
    refine WL_step rfl rfl (r_assign rfl) ?_
    refine WL_nil ?_
    refine thn_nrm (_hK_10 _ _ ?_)
    clear _hK_10
    refine W_seq fun _K_12 _hK_12 => ?_
    refine W_seq fun _K_13 _hK_13 => ?_
    refine W_region ?_
    refine WL_step rfl rfl (r_fieldAddr fa29_0 rfl) ?_
    have _f_14 := ((_m1.ch0 _cw_6).ch0 _cw_11)
    refine WL_step rfl rfl (r_loadAt _f_14.at_ agg27 rfl rfl) ?_
    refine WL_step rfl rfl (r_len (by rw [el27]; rfl) rfl) ?_
    refine WL_step rfl rfl (r_move rfl) ?_
    refine WL_nil ?_
    refine thn_nrm (_hK_13 _ _ ?_)
    clear _hK_13
    refine W_block ?_
    have _oi_15 : Ol ics 3 1 _w_11 (.slice _Av9 (([] : List Int)).length _Cv9) (letL e 0) := by
      have hx := _q9
      simpa [letL] using hx
    have _f_16 := ((_f_5.ch0 _cw_6).ch0 _cw_11)
    refine W_loop (σ := Nat × Value) (fun ⟨i, sv⟩ => [(2, (.slice none 0 0)), (3, sv), (11, (.slice _A_e e.length _C_e)), (12, (.int .i64 ((e.length : Nat) : Int))), (13, (.int .i64 ((i : Nat) : Int)))]) (fun ⟨i, sv⟩ wx => Ch [] w wx ∧ _w_11.heap.size ≤ wx.heap.size ∧ (i ≤ e.length) ∧ Ls Token.cs 4 wx LL_e w.heap.size (.slice _A_e e.length _C_e) e ∧ Ol ics 3 1 wx sv (letL e i) ∧ Lo _w_6.heap.size sv) (fun ⟨i, sv⟩ => e.length - i) (0, (.slice _Av9 (([] : List Int)).length _Cv9)) (Sub.cons rfl (Sub.cons rfl (Sub.cons rfl (Sub.cons rfl (Sub.cons rfl (Sub.nil _)))))) ⟨E, (Nat.le_refl _), (by omega), _f_16, _oi_15, _lo9⟩ ?_
    rintro ⟨i, sv⟩ _wr_17 ⟨E, _zz0, hi, _F0_0, _o0_3, _lo0_3⟩
    have _E0h := E
    have _E0hz := _E0h.size
    obtain ⟨Asv, Csv, esv⟩ := _o0_3.val
    subst esv
    have lsv := _o0_3.len
    have hisv := _o0_3.lt
    refine W_seq fun _K_18 _hK_18 => ?_
    refine W_region ?_
    refine WL_step rfl rfl (r_lss rfl rfl) ?_
    refine WL_nil ?_
    refine thn_nrm (_hK_18 _ _ ?_)
    clear _hK_18
    refine W_seq fun _K_19 _hK_19 => ?_
    refine W_cond rfl (fun _h14 => ?_) (fun _h14 => ?_)
    · have _kb_20 := _h14
      have _h14 := bt_d _h14
      refine W_skip ?_
      refine thn_nrm (_hK_19 _ _ ?_)
      clear _hK_19
      refine W_seq fun _K_21 _hK_21 => ?_
      refine W_block ?_
      refine W_seq fun _K_22 _hK_22 => ?_
      refine W_region ?_
      refine WL_s rfl rfl ?_
      refine (s_index _F0_0 Token.len el27 sz57 rfl rfl rfl (by omega) fun _p15 _y15 _hy15 _a15 => ?_)
      refine WL_step rfl rfl (r_loadAtA0 _a15 agg57 sz57 rfl) ?_
      refine WL_s rfl rfl ?_
      refine s_alloc zr57 fun _b5 _w_23 _m5 _cw_23 _e5 => ?_
      have _cw_23z := _cw_23.size
      have E := E.trans _cw_23
      have _z5 := _m5.lt
      replace _m5 : Blk _w_23 _b5 57 [(.int .i64 0), (.int .i64 0), (.int .i64 0), (.int .i64 0)] := _m5
      refine WL_s rfl rfl ?_
      refine s_storeA (off := 0) 4 _m5 sz57 rfl (us := [(.int .i64 _y15.kind), (.int .i64 _y15.letter), (.int .i64 _y15.low), (.int .i64 _y15.high)]) rfl rfl rfl rfl fun _w_24 _m_25 _cw_24 => ?_
      have _cw_24z := _cw_24.size
      have E := E.step _cw_24 (fun i hi => .inl (by have _h1 := List.mem_singleton.1 hi; omega))
      replace _m_25 : Blk _w_24 _b5 57 [(.int .i64 _y15.kind), (.int .i64 _y15.letter), (.int .i64 _y15.low), (.int .i64 _y15.high)] := _m_25
      refine WL_nil ?_
      refine thn_nrm (_hK_22 _ _ ?_)
      clear _hK_22
      refine W_seq fun _K_26 _hK_26 => ?_
      refine W_region ?_
      refine WL_step rfl rfl (r_fieldAddr fa57_0 rfl) ?_
      refine WL_step rfl rfl (r_loadAt _m_25.at_ agg3 rfl rfl) ?_
      refine WL_step rfl rfl (r_eql rfl rfl) ?_
      refine WL_nil ?_
      refine thn_nrm (_hK_26 _ _ ?_)
      clear _hK_26
      refine W_cond rfl (fun _h19 => ?_) (fun _h19 => ?_)
      · have _kb_27 := _h19
        have _h19 := bt_d _h19
        refine W_region ?_
        refine WL_step rfl rfl (r_move rfl) ?_
        refine WL_step rfl rfl (r_fieldAddr fa57_1 rfl) ?_
        refine WL_step rfl rfl (r_loadAt _m_25.at_ agg3 rfl rfl) ?_
        refine WL_s rfl rfl ?_
        refine s_buildSlice (cs := ics) (parts := [(0, .tmp 22)]) (0 : Int) [_y15.letter] el40 sz3 zr3 ics_len (by decide) rfl rfl rfl (by decide) (by decide) rfl fun _v23 _w_28 _q23 _lo23 _cw_28 => ?_
        have _cw_28z := _cw_28.size
        have E := E.trans _cw_28
        obtain ⟨_Av23, _Cv23, _ev23⟩ := _q23.val
        subst _ev23
        have _lv23 := _q23.len
        have _hiv23 := _q23.lt
        refine WL_s rfl rfl ?_
        have _f_30 := (((_o0_3.ch0 _cw_23).ch _cw_24 (fun g hg hm => by have _h0 := List.mem_singleton.1 hm; have _h2 := _lo0_3 _ hg; have _h3 := hisv _ hg; omega)).ch0 _cw_28)
        refine s_append (cs := ics) el40 sz3 by3 zr3 rfl (by decide) ics_one _f_30 _q23.ls rfl rfl (by have _h9 := letl_len e i; simp only [List.length_singleton]; omega) (by have _h9 := letl_len e i; simp only [List.length_singleton]; omega) _lo0_3 (by omega) fun _v24 _w_29 _q24 _lo24 _ap24 _cw_29 => ?_
        have _cw_29z := _cw_29.size
        have E := E.step _cw_29 (fun i hi => .inl (by have _h1 := _lo0_3 _ hi; omega))
        obtain ⟨_Av24, _Cv24, _ev24⟩ := _q24.val
        subst _ev24
        have _lv24 := _q24.len
        have _hiv24 := _q24.lt
        refine WL_step rfl rfl (r_assign rfl) ?_
        refine WL_nil ?_
        refine inB_nrm ?_
        refine thn_nrm (_hK_21 _ _ ?_)
        clear _hK_21
        refine W_region ?_
        refine WL_step rfl rfl (r_add (by omega) rfl rfl) ?_
        refine WL_step rfl rfl (r_move rfl) ?_
        refine WL_nil ?_
        have _on_31 : Ol ics 3 1 _w_29 (.slice _Av24 ((letL e i ++ [_y15.letter])).length _Cv24) (letL e (i + 1)) := by
          have hx := _q24
          first | exact hx.eq (letl_y _hy15 _h19) | exact hx.eq (letl_n _hy15 _h19)
        have _f_32 := ((((_F0_0.ch0 _cw_23).ch _cw_24 (fun i hi => by have _h1 := List.mem_singleton.1 hi; omega)).ch0 _cw_28).ch _cw_29 (fun i hi => by have _h1 := _lo0_3 _ hi; omega))
        exact thn_nrm (Exists.intro ((i + 1), (.slice _Av24 ((letL e i ++ [_y15.letter])).length _Cv24)) ⟨⟨E, (by omega), (by omega), _f_32, _on_31, (Lo.down _lo24 (by omega))⟩, Sub.cons rfl (Sub.cons rfl (Sub.cons rfl (Sub.cons rfl (Sub.cons rfl (Sub.nil _))))), (by first | omega | (dsimp only; omega))⟩)
      · have _kb_27 := _h19
        have _h19 := bf_d _h19
        refine W_skip ?_
        refine inB_nrm ?_
        refine thn_nrm (_hK_21 _ _ ?_)
        clear _hK_21
        refine W_region ?_
        refine WL_step rfl rfl (r_add (by omega) rfl rfl) ?_
        refine WL_step rfl rfl (r_move rfl) ?_
        refine WL_nil ?_
        have _f_34 := ((_o0_3.ch0 _cw_23).ch _cw_24 (fun g hg hm => by have _h0 := List.mem_singleton.1 hm; have _h2 := _lo0_3 _ hg; have _h3 := hisv _ hg; omega))
        have _on_33 : Ol ics 3 1 _w_24 (.slice Asv (letL e i).length Csv) (letL e (i + 1)) := by
          have hx := _f_34
          first | exact hx.eq (letl_y _hy15 _h19) | exact hx.eq (letl_n _hy15 _h19)
        have _f_35 := ((_F0_0.ch0 _cw_23).ch _cw_24 (fun i hi => by have _h1 := List.mem_singleton.1 hi; omega))
        exact thn_nrm (Exists.intro ((i + 1), (.slice Asv (letL e i).length Csv)) ⟨⟨E, (by omega), (by omega), _f_35, _on_33, (Lo.down _lo0_3 (by omega))⟩, Sub.cons rfl (Sub.cons rfl (Sub.cons rfl (Sub.cons rfl (Sub.cons rfl (Sub.nil _))))), (by first | omega | (dsimp only; omega))⟩)
    · have _kb_20 := _h14
      have _h14 := bf_d _h14
      refine W_exit (thn_exit (thn_exit (inB_hit ?_)))
      refine thn_nrm (_hK_12 _ _ ?_)
      clear _hK_12
      refine W_seq fun _K_36 _hK_36 => ?_
      refine W_region ?_
      refine WL_step rfl rfl (r_move rfl) ?_
      refine WL_s rfl rfl ?_
      refine Step.call (r_call (xs := [.tmp 26]) fk76 rfl) (c_impl_ascending _o0_3.ls (by have _h9 := letl_len e i; omega)) fun _v27 _w_37 _q27 => ?_
      obtain ⟨_q27, _lo27, _cw_37⟩ := _q27
      have _cw_37z := _cw_37.size
      have E := E.trans _cw_37
      obtain ⟨_Av27, _Cv27, _ev27⟩ := _q27.val
      subst _ev27
      have _lv27 := _q27.len
      have _hiv27 := _q27.lt
      refine WL_step rfl rfl (r_assign rfl) ?_
      refine WL_nil ?_
      refine thn_nrm (_hK_36 _ _ ?_)
      clear _hK_36
      refine W_ret ?_
      clear _hK_19
      have _o_38 : Ol ics 3 1 _w_37 (.slice _Av27 (ascL (letL e i)).length _Cv27) (alphR e) := by
        have hx := _q27
        first | exact hx.eq (alphR_n2 _h8) | exact hx.eq (alphR_y2 _h8 (by omega))
      exact ret_intro [_] ⟨rfl, trivial⟩ ⟨_o_38, Lo.down _lo27 (by omega), E⟩

/-- laws.heldIntS -/
theorem c_laws_heldIntS {w : World} {LL_a _B_a : Nat} {_v_a : Value} {a : List Int} (_h_a : Ls ics 1 w LL_a _B_a _v_a a) (k : Int) (_hk0 : 0 ≤ k) (hkk : k + a.length ≤ 4611686018427387904) :
    Ctr Try.prog 42 #[_v_a, (.int .i64 k)] w (fun v w' => v = .int .i64 (if a = mkInt k a.length then k + a.length else -1) ∧ Ch [] w w') := by
  obtain ⟨_A_a, _C_a, _e1_a⟩ := _h_a.val
  subst _e1_a
  have _l_a := _h_a.len
  have _h_a := _h_a.here (by decide)
  have E := Ch.refl [] w
  refine Ctr_of_W (N := 21) (vs0 := [(.slice _A_a a.length _C_a), (.int .i64 k)]) Try.func42 rfl rfl rfl ?_
  refine W_seq fun _K_1 _hK_1 => ?_
  refine W_region ?_
  refine WL_step rfl rfl (r_assign rfl) ?_
  refine WL_nil ?_
  refine thn_nrm (_hK_1 _ _ ?_)
  clear _hK_1
  refine W_seq fun _K_2 _hK_2 => ?_
  refine W_seq fun _K_3 _hK_3 => ?_
  refine W_region ?_
  refine WL_step rfl rfl (r_assign rfl) ?_
  refine WL_nil ?_
  refine thn_nrm (_hK_3 _ _ ?_)
  clear _hK_3
  refine W_block ?_
  refine W_loop (σ := Nat × Int) (fun ⟨i, kk⟩ => [(0, (.slice _A_a a.length _C_a)), (1, (.int .i64 kk)), (5, (.int .i64 ((i : Nat) : Int)))]) (fun ⟨i, kk⟩ wx => Ch [] w wx ∧ w.heap.size ≤ wx.heap.size ∧ (i ≤ a.length) ∧ (kk = k + i) ∧ (a.take i = mkInt k i)) (fun ⟨i, kk⟩ => a.length - i) (0, k) (Sub.cons rfl (Sub.cons rfl (Sub.cons rfl (Sub.nil _)))) ⟨E, (Nat.le_refl _), (by omega), (by omega), rfl⟩ ?_
  rintro ⟨i, kk⟩ _wr_4 ⟨E, _zz0, hi, hq, _ht⟩
  have _E0h := E
  have _E0hz := _E0h.size
  refine W_seq fun _K_5 _hK_5 => ?_
  refine W_seq fun _K_6 _hK_6 => ?_
  refine W_region ?_
  refine WL_step rfl rfl (r_move rfl) ?_
  refine WL_step rfl rfl (r_move rfl) ?_
  refine WL_step rfl rfl (r_len (by rw [el40]; rfl) rfl) ?_
  refine WL_step rfl rfl (r_lss rfl rfl) ?_
  refine WL_nil ?_
  refine thn_nrm (_hK_6 _ _ ?_)
  clear _hK_6
  refine W_cond rfl (fun _h9 => ?_) (fun _h9 => ?_)
  · have _kb_7 := _h9
    have _h9 := bt_d _h9
    refine W_skip ?_
    refine thn_nrm (_hK_5 _ _ ?_)
    clear _hK_5
    refine W_seq fun _K_8 _hK_8 => ?_
    refine W_block ?_
    refine W_seq fun _K_9 _hK_9 => ?_
    refine W_seq fun _K_10 _hK_10 => ?_
    refine W_region ?_
    refine WL_step rfl rfl (r_move rfl) ?_
    refine WL_step rfl rfl (r_move rfl) ?_
    refine WL_s rfl rfl ?_
    have _f_11 := (_h_a.ch0 _E0h)
    refine (s_index _f_11 ics_len el40 sz3 rfl rfl rfl (by omega) fun _p14 _y14 _hy14 _a14 => ?_)
    refine WL_step rfl rfl (r_loadAt0 _a14 agg3 rfl rfl) ?_
    refine WL_step rfl rfl (r_move rfl) ?_
    refine WL_step rfl rfl (r_neq rfl rfl) ?_
    refine WL_nil ?_
    refine thn_nrm (_hK_10 _ _ ?_)
    clear _hK_10
    refine W_cond rfl (fun _h17 => ?_) (fun _h17 => ?_)
    · have _kb_12 := _h17
      have _h17 := bf_d (bt_n _h17)
      refine W_seq fun _K_13 _hK_13 => ?_
      refine W_region ?_
      refine WL_step rfl rfl (r_assign rfl) ?_
      refine WL_nil ?_
      refine thn_nrm (_hK_13 _ _ ?_)
      clear _hK_13
      refine W_ret (thn_ret (inB_ret (thn_ret (thn_ret (inB_ret (thn_ret ?_))))))
      clear _hK_2 _hK_8 _hK_9
      exact ret_intro [_] ⟨rfl, trivial⟩ ⟨congrArg (Value.int .i64) (if_neg (fun e => _h17 (by have _e2 := (heldInt_get e _hy14); omega))).symm, E⟩
    · have _kb_12 := _h17
      have _h17 := bt_d (bf_n _h17)
      refine W_skip ?_
      refine thn_nrm (_hK_9 _ _ ?_)
      clear _hK_9
      refine W_region ?_
      refine WL_step rfl rfl (r_move rfl) ?_
      refine WL_step rfl rfl (r_add (by omega) rfl rfl) ?_
      refine WL_step rfl rfl (r_assign rfl) ?_
      refine WL_nil ?_
      refine inB_nrm ?_
      refine thn_nrm (_hK_8 _ _ ?_)
      clear _hK_8
      refine W_region ?_
      refine WL_step rfl rfl (r_move rfl) ?_
      refine WL_step rfl rfl (r_add (by omega) rfl rfl) ?_
      refine WL_step rfl rfl (r_assign rfl) ?_
      refine WL_nil ?_
      exact thn_nrm (Exists.intro ((i + 1), (kk + 1)) ⟨⟨E, (by omega), (by omega), (by omega), (heldInt_step _ht hq _hy14 _h17)⟩, Sub.cons rfl (Sub.cons rfl (Sub.cons rfl (Sub.nil _))), (by first | omega | (dsimp only; omega))⟩)
  · have _kb_7 := _h9
    have _h9 := bf_d _h9
    refine W_exit (thn_exit (thn_exit (inB_hit ?_)))
    refine thn_nrm (_hK_2 _ _ ?_)
    clear _hK_2
    refine W_seq fun _K_14 _hK_14 => ?_
    refine W_region ?_
    refine WL_step rfl rfl (r_move rfl) ?_
    refine WL_step rfl rfl (r_assign rfl) ?_
    refine WL_nil ?_
    refine thn_nrm (_hK_14 _ _ ?_)
    clear _hK_14
    refine W_ret ?_
    clear _hK_5
    exact ret_intro [_] ⟨rfl, trivial⟩ ⟨congrArg (Value.int .i64) (by rw [if_pos (heldInt_all _ht (by omega) (by omega))]; omega), E⟩

/-- spec.l4Set -/
theorem c_spec_l4Set {w : World} (m : Int) (_m0 : 0 ≤ m) (_m1 : m < 1073741824) :
    Ctr Try.prog 75 #[(.int .i64 m)] w (fun v w' => Ol ics 3 1 w' v (bitsL m.toNat 30) ∧ Lo w.heap.size v ∧ Ch [] w w') := by
  have E := Ch.refl [] w
  refine Ctr_of_W (N := 20) (vs0 := [(.int .i64 m)]) Try.func75 rfl rfl rfl ?_
  refine W_seq fun _K_1 _hK_1 => ?_
  refine W_region ?_
  refine WL_step rfl rfl (r_assign rfl) ?_
  refine WL_nil ?_
  refine thn_nrm (_hK_1 _ _ ?_)
  clear _hK_1
  refine W_seq fun _K_2 _hK_2 => ?_
  refine W_region ?_
  refine WL_s rfl rfl ?_
  refine s_buildSlice0 (k := 1) ics el40 sz3 fun _v5 _w_3 _q5 _lo5 _cw_3 => ?_
  have _cw_3z := _cw_3.size
  have E := E.trans _cw_3
  obtain ⟨_Av5, _Cv5, _ev5⟩ := _q5.val
  subst _ev5
  have _lv5 := _q5.len
  have _hiv5 := _q5.lt
  refine WL_step rfl rfl (r_assign rfl) ?_
  refine WL_nil ?_
  refine thn_nrm (_hK_2 _ _ ?_)
  clear _hK_2
  refine W_seq fun _K_4 _hK_4 => ?_
  refine W_seq fun _K_5 _hK_5 => ?_
  refine W_region ?_
  refine WL_step rfl rfl (r_assign rfl) ?_
  refine WL_nil ?_
  refine thn_nrm (_hK_5 _ _ ?_)
  clear _hK_5
  refine W_block ?_
  have _oi_6 : Ol ics 3 1 _w_3 (.slice _Av5 (([] : List Int)).length _Cv5) (bitsL m.toNat 0) := by
    have hx := _q5
    simpa [bitsL] using hx
  refine W_loop (σ := Nat × Value) (fun ⟨i, sv⟩ => [(0, (.int .i64 m)), (2, (.slice none 0 0)), (3, sv), (4, (.int .i64 ((i : Nat) : Int)))]) (fun ⟨i, sv⟩ wx => Ch [] w wx ∧ _w_3.heap.size ≤ wx.heap.size ∧ (i ≤ 30) ∧ Ol ics 3 1 wx sv (bitsL m.toNat i) ∧ Lo w.heap.size sv) (fun ⟨i, sv⟩ => 30 - i) (0, (.slice _Av5 (([] : List Int)).length _Cv5)) (Sub.cons rfl (Sub.cons rfl (Sub.cons rfl (Sub.cons rfl (Sub.nil _))))) ⟨E, (Nat.le_refl _), (by omega), _oi_6, _lo5⟩ ?_
  rintro ⟨i, sv⟩ _wr_7 ⟨E, _zz0, hi, _o0_3, _lo0_3⟩
  have _E0h := E
  have _E0hz := _E0h.size
  obtain ⟨Asv, Csv, esv⟩ := _o0_3.val
  subst esv
  have lsv := _o0_3.len
  have hisv := _o0_3.lt
  refine W_seq fun _K_8 _hK_8 => ?_
  refine W_seq fun _K_9 _hK_9 => ?_
  refine W_region ?_
  refine WL_step rfl rfl (r_move rfl) ?_
  refine WL_step rfl rfl (r_lss rfl rfl) ?_
  refine WL_nil ?_
  refine thn_nrm (_hK_9 _ _ ?_)
  clear _hK_9
  refine W_cond rfl (fun _h7 => ?_) (fun _h7 => ?_)
  · have _kb_10 := _h7
    have _h7 := bt_d _h7
    refine W_skip ?_
    refine thn_nrm (_hK_8 _ _ ?_)
    clear _hK_8
    refine W_seq fun _K_11 _hK_11 => ?_
    refine W_block ?_
    refine W_seq fun _K_12 _hK_12 => ?_
    refine W_region ?_
    refine WL_step rfl rfl (r_move rfl) ?_
    refine WL_step rfl rfl (r_move rfl) ?_
    refine WL_step rfl rfl (r_shr (by omega) rfl rfl) ?_
    refine WL_step rfl rfl (r_and rfl rfl) ?_
    refine WL_step rfl rfl (r_eql rfl rfl) ?_
    refine WL_nil ?_
    refine thn_nrm (_hK_12 _ _ ?_)
    clear _hK_12
    refine W_cond rfl (fun _h14 => ?_) (fun _h14 => ?_)
    · have _kb_13 := _h14
      have _h14 := bt_d _h14
      refine W_region ?_
      refine WL_step rfl rfl (r_move rfl) ?_
      refine WL_step rfl rfl (r_move rfl) ?_
      refine WL_s rfl rfl ?_
      refine s_buildSlice (cs := ics) (parts := [(0, .tmp 16)]) (0 : Int) [((i : Nat) : Int)] el40 sz3 zr3 ics_len (by decide) rfl rfl rfl (by decide) (by decide) rfl fun _v17 _w_14 _q17 _lo17 _cw_14 => ?_
      have _cw_14z := _cw_14.size
      have E := E.trans _cw_14
      obtain ⟨_Av17, _Cv17, _ev17⟩ := _q17.val
      subst _ev17
      have _lv17 := _q17.len
      have _hiv17 := _q17.lt
      refine WL_s rfl rfl ?_
      have _f_16 := (_o0_3.ch0 _cw_14)
      refine s_append (cs := ics) el40 sz3 by3 zr3 rfl (by decide) ics_one _f_16 _q17.ls rfl rfl (by have _h9 := bitsL_len m.toNat i; simp only [List.length_singleton]; omega) (by have _h9 := bitsL_len m.toNat i; simp only [List.length_singleton]; omega) _lo0_3 (by omega) fun _v18 _w_15 _q18 _lo18 _ap18 _cw_15 => ?_
      have _cw_15z := _cw_15.size
      have E := E.step _cw_15 (fun i hi => .inl (by have _h1 := _lo0_3 _ hi; omega))
      obtain ⟨_Av18, _Cv18, _ev18⟩ := _q18.val
      subst _ev18
      have _lv18 := _q18.len
      have _hiv18 := _q18.lt
      refine WL_step rfl rfl (r_assign rfl) ?_
      refine WL_nil ?_
      refine inB_nrm ?_
      refine thn_nrm (_hK_11 _ _ ?_)
      clear _hK_11
      refine W_region ?_
      refine WL_step rfl rfl (r_move rfl) ?_
      refine WL_step rfl rfl (r_add (by omega) rfl rfl) ?_
      refine WL_step rfl rfl (r_assign rfl) ?_
      refine WL_nil ?_
      have _on_17 : Ol ics 3 1 _w_15 (.slice _Av18 ((bitsL m.toNat i ++ [((i : Nat) : Int)])).length _Cv18) (bitsL m.toNat (i + 1)) := by
        have hx := _q18
        first | exact hx.eq (bitsL_y _h14 _m0 (by omega) (by omega)) | exact hx.eq (bitsL_n _h14 _m0 (by omega) (by omega))
      exact thn_nrm (Exists.intro ((i + 1), (.slice _Av18 ((bitsL m.toNat i ++ [((i : Nat) : Int)])).length _Cv18)) ⟨⟨E, (by omega), (by omega), _on_17, (Lo.down _lo18 (by omega))⟩, Sub.cons rfl (Sub.cons rfl (Sub.cons rfl (Sub.cons rfl (Sub.nil _)))), (by first | omega | (dsimp only; omega))⟩)
    · have _kb_13 := _h14
      have _h14 := bf_d _h14
      refine W_skip ?_
      refine inB_nrm ?_
      refine thn_nrm (_hK_11 _ _ ?_)
      clear _hK_11
      refine W_region ?_
      refine WL_step rfl rfl (r_move rfl) ?_
      refine WL_step rfl rfl (r_add (by omega) rfl rfl) ?_
      refine WL_step rfl rfl (r_assign rfl) ?_
      refine WL_nil ?_
      have _on_18 : Ol ics 3 1 _wr_7 (.slice Asv (bitsL m.toNat i).length Csv) (bitsL m.toNat (i + 1)) := by
        have hx := _o0_3
        first | exact hx.eq (bitsL_y _h14 _m0 (by omega) (by omega)) | exact hx.eq (bitsL_n _h14 _m0 (by omega) (by omega))
      exact thn_nrm (Exists.intro ((i + 1), (.slice Asv (bitsL m.toNat i).length Csv)) ⟨⟨E, (by omega), (by omega), _on_18, (Lo.down _lo0_3 (by omega))⟩, Sub.cons rfl (Sub.cons rfl (Sub.cons rfl (Sub.cons rfl (Sub.nil _)))), (by first | omega | (dsimp only; omega))⟩)
  · have _kb_10 := _h7
    have _h7 := bf_d _h7
    refine W_exit (thn_exit (thn_exit (inB_hit ?_)))
    refine thn_nrm (_hK_4 _ _ ?_)
    clear _hK_4
    refine W_seq fun _K_19 _hK_19 => ?_
    refine W_region ?_
    refine WL_step rfl rfl (r_move rfl) ?_
    refine WL_step rfl rfl (r_assign rfl) ?_
    refine WL_nil ?_
    refine thn_nrm (_hK_19 _ _ ?_)
    clear _hK_19
    refine W_ret ?_
    clear _hK_8
    have _o_20 : Ol ics 3 1 _wr_7 (.slice Asv (bitsL m.toNat i).length Csv) (bitsL m.toNat 30) := by
      have hx := _o0_3
      exact hx.eq (by rw [show i = 30 by omega])
    exact ret_intro [_] ⟨rfl, trivial⟩ ⟨_o_20, Lo.down _lo0_3 (by omega), E⟩

/-- spec.Alphabet -/
theorem c_spec_Alphabet {w : World} {LL_e _B_e : Nat} {_v_e : Value} {e : List Token} (_h_e : Ls Token.cs 4 w LL_e _B_e _v_e e) :
    Ctr Try.prog 40 #[(.agg #[_v_e])] w (fun v w' => Ol ics 3 1 w' v (alphR e) ∧ Lo w.heap.size v ∧ Ch [] w w') := by
  obtain ⟨_A_e, _C_e, _e1_e⟩ := _h_e.val
  subst _e1_e
  have _l_e := _h_e.len
  have _h_e := _h_e.here (by decide)
  have E := Ch.refl [] w
  skip
  refine Ctr_of_W (N := 34) (vs0 := [(.agg #[(.slice _A_e e.length _C_e)])]) Try.func40 rfl rfl rfl ?_
  refine W_seq fun _K_1 _hK_1 => ?_
  refine W_region ?_
  refine WL_s rfl rfl ?_
  refine s_box rfl fun _b1 _w_2 _m1 _cw_2 _e1 => ?_
  have _cw_2z := _cw_2.size
  have E := E.trans _cw_2
  have _z1 := _m1.lt
  replace _m1 : Blk _w_2 _b1 29 [(.slice _A_e e.length _C_e)] := _m1
  refine WL_step rfl rfl (r_assign rfl) ?_
  refine WL_nil ?_
  refine thn_nrm (_hK_1 _ _ ?_)
  clear _hK_1
  refine W_seq fun _K_3 _hK_3 => ?_
  refine W_region ?_
  refine WL_step rfl rfl (r_assign rfl) ?_
  refine WL_nil ?_
  refine thn_nrm (_hK_3 _ _ ?_)
  clear _hK_3
  refine W_seq fun _K_4 _hK_4 => ?_
  refine W_seq fun _K_5 _hK_5 => ?_
  refine W_region ?_
  refine WL_step rfl rfl (r_assign rfl) ?_
  refine WL_nil ?_
  refine thn_nrm (_hK_5 _ _ ?_)
  clear _hK_5
  refine W_block ?_
  refine W_loop (σ := Nat × Int) (fun ⟨i, m⟩ => [(1, (.pointer (some ⟨_b1, 0, none⟩))), (2, (.slice none 0 0)), (3, (.int .i64 m)), (4, (.int .i64 ((i : Nat) : Int)))]) (fun ⟨i, m⟩ wx => Ch [] w wx ∧ _w_2.heap.size ≤ wx.heap.size ∧ (i ≤ e.length) ∧ (m = ((letM e i : Nat) : Int)) ∧ (0 < i → isE e = true) ∧ Blk wx _b1 29 [(.slice _A_e e.length _C_e)]) (fun ⟨i, m⟩ => e.length - i) (0, 0) (Sub.cons rfl (Sub.cons rfl (Sub.cons rfl (Sub.cons rfl (Sub.nil _))))) ⟨E, (Nat.le_refl _), (by omega), rfl, (fun h => absurd h (by omega)), _m1⟩ ?_
  rintro ⟨i, m⟩ _wr_6 ⟨E, _zz0, hi, hm, ho, _F0_0⟩
  have _E0h := E
  have _E0hz := _E0h.size
  have _F0_0z := _F0_0.lt
  have ml9 := letm_lt2 ho
  refine W_seq fun _K_7 _hK_7 => ?_
  refine W_seq fun _K_8 _hK_8 => ?_
  refine W_region ?_
  refine WL_step rfl rfl (r_move rfl) ?_
  refine WL_step rfl rfl (r_fieldAddr fa29_0 rfl) ?_
  refine WL_step rfl rfl (r_loadAt _F0_0.at_ agg27 rfl rfl) ?_
  refine WL_step rfl rfl (r_len (by rw [el27]; rfl) rfl) ?_
  refine WL_step rfl rfl (r_lss rfl rfl) ?_
  refine WL_step rfl rfl (r_move rfl) ?_
  refine WL_split (d := 10) rfl (fun _h10 => ?_) (fun _h10 => ?_)
  · have _kb_9 := _h10
    have _h10 := bt_d _h10
    refine WL_step rfl rfl (r_loadAtA0 _F0_0.at_ agg29 sz29 rfl) ?_
    refine WL_s rfl rfl ?_
    have _f_10 := (_h_e.ch0 _E0h)
    refine Step.call (r_call (xs := [.tmp 11]) fk15 rfl) (c_spec_IsExpr _f_10 ) fun _v12 _w_11 _q12 => ?_
    obtain ⟨rfl, _cw_11⟩ := _q12
    have _cw_11z := _cw_11.size
    have E := E.trans _cw_11
    refine WL_step rfl rfl (r_pickT rfl rfl) ?_
    refine WL_nil ?_
    refine thn_nrm (_hK_8 _ _ ?_)
    clear _hK_8
    refine W_cond rfl (fun _h13 => ?_) (fun _h13 => ?_)
    · have _kb_12 := _h13
      refine W_skip ?_
      refine thn_nrm (_hK_7 _ _ ?_)
      clear _hK_7
      refine W_seq fun _K_13 _hK_13 => ?_
      refine W_block ?_
      refine W_seq fun _K_14 _hK_14 => ?_
      refine W_region ?_
      refine WL_step rfl rfl (r_fieldAddr fa29_0 rfl) ?_
      have _f_15 := (_F0_0.ch0 _cw_11)
      refine WL_step rfl rfl (r_loadAt _f_15.at_ agg27 rfl rfl) ?_
      refine WL_step rfl rfl (r_move rfl) ?_
      refine WL_s rfl rfl ?_
      have _f_16 := (_f_10.ch0 _cw_11)
      refine (s_index _f_16 Token.len el27 sz57 rfl rfl rfl (by omega) fun _p19 _y19 _hy19 _a19 => ?_)
      refine WL_step rfl rfl (r_fieldAddr fa57_0 rfl) ?_
      refine WL_step rfl rfl (r_loadAt _a19 agg3 rfl rfl) ?_
      refine WL_step rfl rfl (r_eql rfl rfl) ?_
      refine WL_nil ?_
      refine thn_nrm (_hK_14 _ _ ?_)
      clear _hK_14
      refine W_cond rfl (fun _h22 => ?_) (fun _h22 => ?_)
      · have _kb_17 := _h22
        have _h22 := bt_d _h22
        refine W_region ?_
        refine WL_step rfl rfl (r_move rfl) ?_
        refine WL_step rfl rfl (r_fieldAddr fa29_0 rfl) ?_
        refine WL_step rfl rfl (r_loadAt _f_15.at_ agg27 rfl rfl) ?_
        refine WL_step rfl rfl (r_move rfl) ?_
        refine WL_s rfl rfl ?_
        refine (s_index _f_16 Token.len el27 sz57 rfl rfl rfl (by omega) fun _p27 _y27 _hy27 _a27 => ?_)
        have _u27 := get_uniq _hy19 _hy27
        have k27 := isE_letOk _h13 _y27 (mem_of_get _hy27) (by rw [← _u27]; exact _h22)
        refine WL_step rfl rfl (r_fieldAddr fa57_1 rfl) ?_
        refine WL_step rfl rfl (r_loadAt _a27 agg3 rfl rfl) ?_
        refine WL_step rfl rfl (r_shl (by omega) rfl rfl) ?_
        refine WL_step rfl rfl (r_or rfl rfl) ?_
        refine WL_step rfl rfl (r_assign rfl) ?_
        refine WL_nil ?_
        refine inB_nrm ?_
        refine thn_nrm (_hK_13 _ _ ?_)
        clear _hK_13
        refine W_region ?_
        refine WL_step rfl rfl (r_move rfl) ?_
        refine WL_step rfl rfl (r_add (by omega) rfl rfl) ?_
        refine WL_step rfl rfl (r_assign rfl) ?_
        refine WL_nil ?_
        exact thn_nrm (Exists.intro ((i + 1), (ior m (ishl 1 _y27.letter))) ⟨⟨E, (by omega), (by omega), (by first | exact letm_i _hy19 _hy27 hm _h22 _h13 | (rw [letm_n _hy19 _h22]; exact hm)), (fun _ => _h13), _f_15⟩, Sub.cons rfl (Sub.cons rfl (Sub.cons rfl (Sub.cons rfl (Sub.nil _)))), (by first | omega | (dsimp only; omega))⟩)
      · have _kb_17 := _h22
        have _h22 := bf_d _h22
        refine W_skip ?_
        refine inB_nrm ?_
        refine thn_nrm (_hK_13 _ _ ?_)
        clear _hK_13
        refine W_region ?_
        refine WL_step rfl rfl (r_move rfl) ?_
        refine WL_step rfl rfl (r_add (by omega) rfl rfl) ?_
        refine WL_step rfl rfl (r_assign rfl) ?_
        refine WL_nil ?_
        exact thn_nrm (Exists.intro ((i + 1), m) ⟨⟨E, (by omega), (by omega), (by first | exact letm_i _hy19 _hy27 hm _h22 _h13 | (rw [letm_n _hy19 _h22]; exact hm)), (fun _ => _h13), _f_15⟩, Sub.cons rfl (Sub.cons rfl (Sub.cons rfl (Sub.cons rfl (Sub.nil _)))), (by first | omega | (dsimp only; omega))⟩)
    · have _kb_12 := _h13
      refine W_exit (thn_exit (thn_exit (inB_hit ?_)))
      refine thn_nrm (_hK_4 _ _ ?_)
      clear _hK_4
      refine W_seq fun _K_18 _hK_18 => ?_
      refine W_region ?_
      refine WL_step rfl rfl (r_move rfl) ?_
      refine WL_s rfl rfl ?_
      refine Step.call (r_call (xs := [.tmp 32]) fk75 rfl) (c_spec_l4Set _ (by omega) (by omega)) fun _v33 _w_19 _q33 => ?_
      obtain ⟨_q33, _lo33, _cw_19⟩ := _q33
      have _cw_19z := _cw_19.size
      have E := E.trans _cw_19
      obtain ⟨_Av33, _Cv33, _ev33⟩ := _q33.val
      subst _ev33
      have _lv33 := _q33.len
      have _hiv33 := _q33.lt
      refine WL_step rfl rfl (r_assign rfl) ?_
      refine WL_nil ?_
      refine thn_nrm (_hK_18 _ _ ?_)
      clear _hK_18
      refine W_ret ?_
      clear _hK_7
      have _o_20 : Ol ics 3 1 _w_19 (.slice _Av33 (bitsL m.toNat 30).length _Cv33) (alphR e) := by
        have hx := _q33
        exact hx.eq (by rw [hm, Int.toNat_natCast]; first | exact alphR_end ho (.inl (by omega)) hi | exact alphR_end ho (.inr _h13) hi)
      exact ret_intro [_] ⟨rfl, trivial⟩ ⟨_o_20, Lo.down _lo33 (by omega), E⟩
  · have _kb_9 := _h10
    have _h10 := bf_d _h10
    refine WL_skip rfl rfl ?_
    refine WL_skip rfl rfl ?_
    refine WL_step rfl rfl (r_pickF rfl rfl) ?_
    refine WL_nil ?_
    refine thn_nrm (_hK_8 _ _ ?_)
    clear _hK_8
    refine W_condF rfl ?_
    refine W_exit (thn_exit (thn_exit (inB_hit ?_)))
    refine thn_nrm (_hK_4 _ _ ?_)
    clear _hK_4
    refine W_seq fun _K_21 _hK_21 => ?_
    refine W_region ?_
    refine WL_step rfl rfl (r_move rfl) ?_
    refine WL_s rfl rfl ?_
    refine Step.call (r_call (xs := [.tmp 32]) fk75 rfl) (c_spec_l4Set _ (by omega) (by omega)) fun _v33 _w_22 _q33 => ?_
    obtain ⟨_q33, _lo33, _cw_22⟩ := _q33
    have _cw_22z := _cw_22.size
    have E := E.trans _cw_22
    obtain ⟨_Av33, _Cv33, _ev33⟩ := _q33.val
    subst _ev33
    have _lv33 := _q33.len
    have _hiv33 := _q33.lt
    refine WL_step rfl rfl (r_assign rfl) ?_
    refine WL_nil ?_
    refine thn_nrm (_hK_21 _ _ ?_)
    clear _hK_21
    refine W_ret ?_
    clear _hK_7
    have _o_23 : Ol ics 3 1 _w_22 (.slice _Av33 (bitsL m.toNat 30).length _Cv33) (alphR e) := by
      have hx := _q33
      exact hx.eq (by rw [hm, Int.toNat_natCast]; first | exact alphR_end ho (.inl (by omega)) hi | exact alphR_end ho (.inr _h13) hi)
    exact ret_intro [_] ⟨rfl, trivial⟩ ⟨_o_23, Lo.down _lo33 (by omega), E⟩

/-- laws.FnExactAlphabet -/
theorem c_laws_FnExactAlphabet {w : World} {LL_e _B_e : Nat} {_v_e : Value} {e : List Token} (_h_e : Ls Token.cs 4 w LL_e _B_e _v_e e) :
    Ctr Try.prog 12 #[(.agg #[_v_e])] w (fun v w' => v = .bool (true) ∧ Ch [] w w') := by
  obtain ⟨_A_e, _C_e, _e1_e⟩ := _h_e.val
  subst _e1_e
  have _l_e := _h_e.len
  have _h_e := _h_e.here (by decide)
  have E := Ch.refl [] w
  have sl := alphR_len e
  refine Ctr_of_W (N := 69) (vs0 := [(.agg #[(.slice _A_e e.length _C_e)])]) Try.func12 rfl rfl rfl ?_
  refine W_seq fun _K_1 _hK_1 => ?_
  refine W_region ?_
  refine WL_s rfl rfl ?_
  refine s_box rfl fun _b1 _w_2 _m1 _cw_2 _e1 => ?_
  have _cw_2z := _cw_2.size
  have E := E.trans _cw_2
  have _z1 := _m1.lt
  replace _m1 : Blk _w_2 _b1 24 [(.slice _A_e e.length _C_e)] := _m1
  refine WL_step rfl rfl (r_assign rfl) ?_
  refine WL_nil ?_
  refine thn_nrm (_hK_1 _ _ ?_)
  clear _hK_1
  refine W_seq fun _K_3 _hK_3 => ?_
  refine W_region ?_
  refine WL_step rfl rfl (r_assign rfl) ?_
  refine WL_nil ?_
  refine thn_nrm (_hK_3 _ _ ?_)
  clear _hK_3
  refine W_seq fun _K_4 _hK_4 => ?_
  refine W_region ?_
  refine WL_step rfl rfl (r_loadAtA0 _m1.at_ agg24 sz24 rfl) ?_
  refine WL_step rfl rfl (r_move rfl) ?_
  refine WL_s rfl rfl ?_
  have _f_5 := (_h_e.ch0 _cw_2)
  refine Step.call (r_call (xs := [.tmp 11, .tmp 12]) fk14 rfl) (c_laws_szExpr _f_5 _ (by omega) (by omega)) fun _v13 _w_6 _q13 => ?_
  obtain ⟨rfl, _cw_6⟩ := _q13
  have _cw_6z := _cw_6.size
  have E := E.trans _cw_6
  refine WL_step rfl rfl (r_assign rfl) ?_
  refine WL_nil ?_
  refine thn_nrm (_hK_4 _ _ ?_)
  clear _hK_4
  refine W_seq fun _K_7 _hK_7 => ?_
  refine W_seq fun _K_8 _hK_8 => ?_
  refine W_region ?_
  refine WL_step rfl rfl (r_move rfl) ?_
  refine WL_step rfl rfl (r_lss rfl rfl) ?_
  refine WL_nil ?_
  refine thn_nrm (_hK_8 _ _ ?_)
  clear _hK_8
  refine W_cond rfl (fun _h15 => ?_) (fun _h15 => ?_)
  · have _kb_9 := _h15
    have _h15 := bt_d _h15
    refine W_seq fun _K_10 _hK_10 => ?_
    refine W_region ?_
    refine WL_step rfl rfl (r_assign rfl) ?_
    refine WL_nil ?_
    refine thn_nrm (_hK_10 _ _ ?_)
    clear _hK_10
    refine W_ret (thn_ret ?_)
    clear _hK_7
    exact ret_intro [_] ⟨rfl, trivial⟩ ⟨congrArg Value.bool (by first | rfl | (exfalso; omega) | (exfalso; revert _h15; simp; done) | (exfalso; revert _h15; simp; omega)), E⟩
  · have _kb_9 := _h15
    have _h15 := bf_d _h15
    refine W_skip ?_
    refine thn_nrm (_hK_7 _ _ ?_)
    clear _hK_7
    refine W_seq fun _K_11 _hK_11 => ?_
    refine W_region ?_
    have _f_12 := (_m1.ch0 _cw_6)
    refine WL_step rfl rfl (r_loadAtA0 _f_12.at_ agg24 sz24 rfl) ?_
    refine WL_s rfl rfl ?_
    have _f_13 := (_f_5.ch0 _cw_6)
    refine Step.call (r_call (xs := [.tmp 16]) fk16 rfl) (c_laws_toExpr _f_13 (by omega)) fun _v17 _w_14 _q17 => ?_
    obtain ⟨_u17, rfl, _q17, _lo17, _cw_14⟩ := _q17
    have _cw_14z := _cw_14.size
    have E := E.trans _cw_14
    obtain ⟨_Au17, _Cu17, _eu17⟩ := _q17.val
    subst _eu17
    have _lu17 := _q17.len
    have _hiu17 := _q17.lt
    refine WL_s rfl rfl ?_
    refine Step.call (r_call (xs := [.tmp 17]) fk40 rfl) (c_spec_Alphabet _q17.ls ) fun _v18 _w_15 _q18 => ?_
    obtain ⟨_q18, _lo18, _cw_15⟩ := _q18
    have _cw_15z := _cw_15.size
    have E := E.trans _cw_15
    obtain ⟨_Av18, _Cv18, _ev18⟩ := _q18.val
    subst _ev18
    have _lv18 := _q18.len
    have _hiv18 := _q18.lt
    refine WL_step rfl rfl (r_assign rfl) ?_
    refine WL_nil ?_
    refine thn_nrm (_hK_11 _ _ ?_)
    clear _hK_11
    refine W_seq fun _K_16 _hK_16 => ?_
    refine W_region ?_
    have _f_17 := ((_f_12.ch0 _cw_14).ch0 _cw_15)
    refine WL_step rfl rfl (r_loadAtA0 _f_17.at_ agg24 sz24 rfl) ?_
    refine WL_s rfl rfl ?_
    have _f_18 := ((_f_13.ch0 _cw_14).ch0 _cw_15)
    refine Step.call (r_call (xs := [.tmp 19]) fk16 rfl) (c_laws_toExpr _f_18 (by omega)) fun _v20 _w_19 _q20 => ?_
    obtain ⟨_u20, rfl, _q20, _lo20, _cw_19⟩ := _q20
    have _cw_19z := _cw_19.size
    have E := E.trans _cw_19
    obtain ⟨_Au20, _Cu20, _eu20⟩ := _q20.val
    subst _eu20
    have _lu20 := _q20.len
    have _hiu20 := _q20.lt
    refine WL_s rfl rfl ?_
    refine s_alloc zr29 fun _b5 _w_20 _m5 _cw_20 _e5 => ?_
    have _cw_20z := _cw_20.size
    have E := E.trans _cw_20
    have _z5 := _m5.lt
    replace _m5 : Blk _w_20 _b5 29 [(.slice none 0 0)] := _m5
    refine WL_s rfl rfl ?_
    refine s_storeA (off := 0) 1 _m5 sz29 rfl (us := [(.slice _Au20 (e).length _Cu20)]) rfl rfl rfl rfl fun _w_21 _m_22 _cw_21 => ?_
    have _cw_21z := _cw_21.size
    have E := E.step _cw_21 (fun i hi => .inl (by have _h1 := List.mem_singleton.1 hi; omega))
    replace _m_22 : Blk _w_21 _b5 29 [(.slice _Au20 (e).length _Cu20)] := _m_22
    refine WL_nil ?_
    refine thn_nrm (_hK_16 _ _ ?_)
    clear _hK_16
    refine W_seq fun _K_23 _hK_23 => ?_
    refine W_region ?_
    refine WL_step rfl rfl (r_loadAtA0 _m_22.at_ agg29 sz29 rfl) ?_
    refine WL_s rfl rfl ?_
    have _f_24 := ((_q20.ch0 _cw_20).ch _cw_21 (fun g hg hm => by have _h0 := List.mem_singleton.1 hm; have _h2 := _lo20 _ hg; have _h3 := _hiu20 _ hg; omega))
    refine Step.call (r_call (xs := [.tmp 21]) fk41 rfl) (c_impl_Alphabet _f_24.ls (by omega)) fun _v22 _w_25 _q22 => ?_
    obtain ⟨_q22, _lo22, _cw_25⟩ := _q22
    have _cw_25z := _cw_25.size
    have E := E.trans _cw_25
    obtain ⟨_Av22, _Cv22, _ev22⟩ := _q22.val
    subst _ev22
    have _lv22 := _q22.len
    have _hiv22 := _q22.lt
    refine WL_step rfl rfl (r_assign rfl) ?_
    refine WL_nil ?_
    refine thn_nrm (_hK_23 _ _ ?_)
    clear _hK_23
    refine W_seq fun _K_26 _hK_26 => ?_
    refine W_seq fun _K_27 _hK_27 => ?_
    refine W_region ?_
    refine WL_step rfl rfl (r_move rfl) ?_
    refine WL_step rfl rfl (r_move rfl) ?_
    refine WL_s rfl rfl ?_
    have _f_28 := ((((_q18.ch0 _cw_19).ch0 _cw_20).ch _cw_21 (fun g hg hm => by have _h0 := List.mem_singleton.1 hm; have _h2 := _lo18 _ hg; have _h3 := _hiv18 _ hg; omega)).ch0 _cw_25)
    refine Step.call (r_call (xs := [.tmp 23, .tmp 24]) fk34 rfl) (c_laws_eqIntS _q22.ls _f_28.ls ) fun _v25 _w_29 _q25 => ?_
    obtain ⟨rfl, _cw_29⟩ := _q25
    have _cw_29z := _cw_29.size
    have E := E.trans _cw_29
    refine WL_step rfl rfl (r_not rfl) ?_
    refine WL_nil ?_
    refine thn_nrm (_hK_27 _ _ ?_)
    clear _hK_27
    refine W_cond rfl (fun _h26 => ?_) (fun _h26 => ?_)
    · have _kb_30 := _h26
      have _h26 := bf_d (bt_n _h26)
      refine W_seq fun _K_31 _hK_31 => ?_
      refine W_region ?_
      refine WL_step rfl rfl (r_assign rfl) ?_
      refine WL_nil ?_
      refine thn_nrm (_hK_31 _ _ ?_)
      clear _hK_31
      refine W_ret (thn_ret ?_)
      clear _hK_26
      exact ret_intro [_] ⟨rfl, trivial⟩ ⟨congrArg Value.bool (by first | rfl | (exfalso; omega) | (exfalso; revert _h26; simp; done) | (exfalso; revert _h26; simp; omega)), E⟩
    · have _kb_30 := _h26
      have _h26 := bt_d (bf_n _h26)
      refine W_skip ?_
      refine thn_nrm (_hK_26 _ _ ?_)
      clear _hK_26
      refine W_seq fun _K_32 _hK_32 => ?_
      refine W_seq fun _K_33 _hK_33 => ?_
      refine W_drawC [] 5 mixed rfl fun _w_34 _cw_34 => ?_
      have _cw_34z := _cw_34.size
      have E := E.trans _cw_34
      have _f_35 := (((_m_22.ch0 _cw_25).ch0 _cw_29).ch0 _cw_34)
      refine DR_s 0 rfl (by kernel_rfl) rfl rfl (t_loadAtA0 _f_35.at_ (fun i hi => absurd hi List.not_mem_nil) agg29 sz29 rfl ?_)
      have _f_36 := ((((((_f_17.ch0 _cw_19).ch0 _cw_20).ch _cw_21 (fun hm => by have _h1 := List.mem_singleton.1 hm; omega)).ch0 _cw_25).ch0 _cw_29).ch0 _cw_34)
      refine DR_s 1 rfl (by kernel_rfl) rfl rfl (t_loadAtA0 _f_36.at_ (fun i hi => absurd hi List.not_mem_nil) agg24 sz24 rfl ?_)
      refine DR_one 2 (by kernel_rfl) ?_
      refine DO_s rfl rfl rfl ?_
      have _f_37 := ((((((_f_18.ch0 _cw_19).ch0 _cw_20).ch _cw_21 (fun i hi => by have _h1 := List.mem_singleton.1 hi; omega)).ch0 _cw_25).ch0 _cw_29).ch0 _cw_34)
      refine Step.call (r_call (xs := [.tmp 28]) fk16 rfl) (c_laws_toExpr _f_37 (by omega)) fun _v29 _w_38 _q29 => ?_
      obtain ⟨_u29, rfl, _q29, _lo29, _cw_38⟩ := _q29
      have _cw_38z := _cw_38.size
      have E := E.trans _cw_38
      obtain ⟨_Au29, _Cu29, _eu29⟩ := _q29.val
      subst _eu29
      have _lu29 := _q29.len
      have _hiu29 := _q29.lt
      have _S_39 : Ch [] _w_34 _w_38 := ((Ch.refl _ _).trans _cw_38)
      refine ⟨_S_39, ?_⟩
      refine DR_one 3 (by kernel_rfl) ?_
      refine DO_s rfl rfl rfl ?_
      have _f_40 := ((((_f_24.ch0 _cw_25).ch0 _cw_29).ch0 _cw_34).ch0 _cw_38)
      refine Step.call (r_call (xs := [.tmp 27, .tmp 29]) fk18 rfl) (c_laws_eqExpr _f_40.ls _q29.ls ) fun _v30 _w_41 _q30 => ?_
      obtain ⟨rfl, _cw_41⟩ := _q30
      have _cw_41z := _cw_41.size
      have E := E.trans _cw_41
      have _S_42 : Ch [] _w_34 _w_41 := (_S_39.trans _cw_41)
      refine ⟨_S_42, ?_⟩
      refine DR_s 4 rfl (by kernel_rfl) rfl rfl (t_v (fun _ => (r_not rfl)) ?_)
      refine DR_done (by kernel_rfl) ?_
      refine thn_nrm (_hK_33 _ _ ?_)
      clear _hK_33
      refine W_cond rfl (fun _h31 => ?_) (fun _h31 => ?_)
      · have _kb_43 := _h31
        have _h31 := bf_d (bt_n _h31)
        refine W_seq fun _K_44 _hK_44 => ?_
        refine W_region ?_
        refine WL_step rfl rfl (r_assign rfl) ?_
        refine WL_nil ?_
        refine thn_nrm (_hK_44 _ _ ?_)
        clear _hK_44
        refine W_ret (thn_ret ?_)
        clear _hK_32
        exact ret_intro [_] ⟨rfl, trivial⟩ ⟨congrArg Value.bool (by first | rfl | (exfalso; omega) | (exfalso; revert _h31; simp; done) | (exfalso; revert _h31; simp; omega)), E⟩
      · have _kb_43 := _h31
        have _h31 := bt_d (bf_n _h31)
        refine W_skip ?_
        refine thn_nrm (_hK_32 _ _ ?_)
        clear _hK_32
        refine W_seq fun _K_45 _hK_45 => ?_
        refine W_region ?_
        refine WL_step rfl rfl (r_assign rfl) ?_
        refine WL_nil ?_
        refine thn_nrm (_hK_45 _ _ ?_)
        clear _hK_45
        refine W_seq fun _K_46 _hK_46 => ?_
        refine W_region ?_
        have _f_47 := ((_f_35.ch0 _cw_38).ch0 _cw_41)
        refine WL_step rfl rfl (r_loadAtA0 _f_47.at_ agg29 sz29 rfl) ?_
        refine WL_step rfl rfl (r_move rfl) ?_
        refine WL_s rfl rfl ?_
        have _f_48 := (_f_40.ch0 _cw_41)
        refine Step.call (r_call (xs := [.tmp 32, .tmp 33]) fk25 rfl) (c_laws_markExpr _f_48 _ (by omega) (by first | omega | (simp <;> omega))) fun _v34 _w_49 _q34 => ?_
        obtain ⟨rfl, _q34, _cw_49⟩ := _q34
        have _cw_49z := _cw_49.size
        have E := E.step _cw_49 (fun i hi => .inl (by have _h1 := _lo20 _ hi; omega))
        refine WL_step rfl rfl (r_assign rfl) ?_
        refine WL_nil ?_
        refine thn_nrm (_hK_46 _ _ ?_)
        clear _hK_46
        refine W_seq fun _K_50 _hK_50 => ?_
        refine W_seq fun _K_51 _hK_51 => ?_
        refine W_region ?_
        refine WL_step rfl rfl (r_move rfl) ?_
        refine WL_step rfl rfl (r_lss rfl rfl) ?_
        refine WL_step rfl rfl (r_move rfl) ?_
        refine WL_split (d := 37) rfl (fun _h37 => ?_) (fun _h37 => ?_)
        · have _kb_52 := _h37
          have _h37 := bt_d _h37
          refine WL_skip rfl rfl ?_
          refine WL_skip rfl rfl ?_
          refine WL_skip rfl rfl ?_
          refine WL_skip rfl rfl ?_
          refine WL_step rfl rfl (r_pickT rfl rfl) ?_
          refine WL_nil ?_
          refine thn_nrm (_hK_51 _ _ ?_)
          clear _hK_51
          refine W_condT rfl ?_
          refine W_seq fun _K_53 _hK_53 => ?_
          refine W_region ?_
          refine WL_step rfl rfl (r_assign rfl) ?_
          refine WL_nil ?_
          refine thn_nrm (_hK_53 _ _ ?_)
          clear _hK_53
          refine W_ret (thn_ret ?_)
          clear _hK_50
          exact ret_intro [_] ⟨rfl, trivial⟩ ⟨congrArg Value.bool (by first | rfl | (exfalso; omega) | (exfalso; revert _h37; simp; done) | (exfalso; revert _h37; simp; omega)), E⟩
        · have _kb_52 := _h37
          have _h37 := bf_d _h37
          refine WL_step rfl rfl (r_move rfl) ?_
          refine WL_step rfl rfl (r_move rfl) ?_
          refine WL_s rfl rfl ?_
          have _f_54 := (((((_q22.ch0 _cw_29).ch0 _cw_34).ch0 _cw_38).ch0 _cw_41).ch _cw_49 (fun g hg hm => by have _h1 := _lo20 _ hm; have _h2 := _hiu20 _ hm; have _h3 := _lo22 _ hg; have _h4 := _hiv22 _ hg; omega))
          have _f_55 := (((((_f_28.ch0 _cw_29).ch0 _cw_34).ch0 _cw_38).ch0 _cw_41).ch _cw_49 (fun g hg hm => by have _h1 := _lo20 _ hm; have _h2 := _hiu20 _ hm; have _h3 := _lo18 _ hg; have _h4 := _hiv18 _ hg; omega))
          refine Step.call (r_call (xs := [.tmp 38, .tmp 39]) fk34 rfl) (c_laws_eqIntS _f_54.ls _f_55.ls ) fun _v40 _w_56 _q40 => ?_
          obtain ⟨rfl, _cw_56⟩ := _q40
          have _cw_56z := _cw_56.size
          have E := E.trans _cw_56
          refine WL_step rfl rfl (r_not rfl) ?_
          refine WL_step rfl rfl (r_pickF rfl rfl) ?_
          refine WL_nil ?_
          refine thn_nrm (_hK_51 _ _ ?_)
          clear _hK_51
          refine W_condFk rfl _kb_30 ?_
          refine W_skip ?_
          refine thn_nrm (_hK_50 _ _ ?_)
          clear _hK_50
          refine W_seq fun _K_57 _hK_57 => ?_
          refine W_region ?_
          refine WL_step rfl rfl (r_assign rfl) ?_
          refine WL_nil ?_
          refine thn_nrm (_hK_57 _ _ ?_)
          clear _hK_57
          refine W_seq fun _K_58 _hK_58 => ?_
          refine W_region ?_
          refine WL_step rfl rfl (r_move rfl) ?_
          refine WL_step rfl rfl (r_move rfl) ?_
          refine WL_s rfl rfl ?_
          have _f_59 := (_f_54.ch0 _cw_56)
          refine Step.call (r_call (xs := [.tmp 43, .tmp 44]) fk35 rfl) (c_laws_markIntS _f_59 _ (by omega) (by first | omega | (simp <;> omega))) fun _v45 _w_60 _q45 => ?_
          obtain ⟨rfl, _q45, _cw_60⟩ := _q45
          have _cw_60z := _cw_60.size
          have E := E.step _cw_60 (fun i hi => .inl (by have _h1 := _lo22 _ hi; omega))
          refine WL_step rfl rfl (r_assign rfl) ?_
          refine WL_nil ?_
          refine thn_nrm (_hK_58 _ _ ?_)
          clear _hK_58
          refine W_seq fun _K_61 _hK_61 => ?_
          refine W_region ?_
          refine WL_step rfl rfl (r_assign rfl) ?_
          refine WL_nil ?_
          refine thn_nrm (_hK_61 _ _ ?_)
          clear _hK_61
          refine W_seq fun _K_62 _hK_62 => ?_
          refine W_region ?_
          refine WL_step rfl rfl (r_move rfl) ?_
          refine WL_step rfl rfl (r_move rfl) ?_
          refine WL_s rfl rfl ?_
          refine Step.call (r_call (xs := [.tmp 46, .tmp 47]) fk42 rfl) (c_laws_heldIntS _q45.ls _ (by omega) (by first | omega | (simp <;> omega))) fun _v48 _w_63 _q48 => ?_
          obtain ⟨rfl, _cw_63⟩ := _q48
          have _cw_63z := _cw_63.size
          have E := E.trans _cw_63
          refine WL_step rfl rfl (r_assign rfl) ?_
          refine WL_nil ?_
          refine thn_nrm (_hK_62 _ _ ?_)
          clear _hK_62
          refine W_seq fun _K_64 _hK_64 => ?_
          refine W_seq fun _K_65 _hK_65 => ?_
          refine W_region ?_
          refine WL_step rfl rfl (r_move rfl) ?_
          refine WL_step rfl rfl (r_lss rfl rfl) ?_
          refine WL_nil ?_
          refine thn_nrm (_hK_65 _ _ ?_)
          clear _hK_65
          refine W_cond rfl (fun _h50 => ?_) (fun _h50 => ?_)
          · have _kb_66 := _h50
            have _h50 := bt_d _h50
            refine W_seq fun _K_67 _hK_67 => ?_
            refine W_region ?_
            refine WL_step rfl rfl (r_assign rfl) ?_
            refine WL_nil ?_
            refine thn_nrm (_hK_67 _ _ ?_)
            clear _hK_67
            refine W_ret (thn_ret ?_)
            clear _hK_64
            exact ret_intro [_] ⟨rfl, trivial⟩ ⟨congrArg Value.bool (by first | rfl | (exfalso; omega) | (exfalso; revert _h50; simp; done) | (exfalso; revert _h50; simp; omega)), E⟩
          · have _kb_66 := _h50
            have _h50 := bf_d _h50
            refine W_skip ?_
            refine thn_nrm (_hK_64 _ _ ?_)
            clear _hK_64
            refine W_seq fun _K_68 _hK_68 => ?_
            refine W_seq fun _K_69 _hK_69 => ?_
            refine W_region ?_
            refine WL_step rfl rfl (r_move rfl) ?_
            refine WL_step rfl rfl (r_move rfl) ?_
            refine WL_step rfl rfl (r_neq rfl rfl) ?_
            refine WL_nil ?_
            refine thn_nrm (_hK_69 _ _ ?_)
            clear _hK_69
            refine W_cond rfl (fun _h53 => ?_) (fun _h53 => ?_)
            · have _kb_70 := _h53
              have _h53 := bf_d (bt_n _h53)
              refine W_seq fun _K_71 _hK_71 => ?_
              refine W_region ?_
              refine WL_step rfl rfl (r_assign rfl) ?_
              refine WL_nil ?_
              refine thn_nrm (_hK_71 _ _ ?_)
              clear _hK_71
              refine W_ret (thn_ret ?_)
              clear _hK_68
              exact ret_intro [_] ⟨rfl, trivial⟩ ⟨congrArg Value.bool (by first | rfl | (exfalso; omega) | (exfalso; revert _h53; simp; done) | (exfalso; revert _h53; simp; omega)), E⟩
            · have _kb_70 := _h53
              have _h53 := bt_d (bf_n _h53)
              refine W_skip ?_
              refine thn_nrm (_hK_68 _ _ ?_)
              clear _hK_68
              refine W_seq fun _K_72 _hK_72 => ?_
              refine W_region ?_
              have _f_73 := ((((((_f_36.ch0 _cw_38).ch0 _cw_41).ch _cw_49 (fun hm => by have _h1 := _lo20 _ hm; have _h2 := _hiu20 _ hm; omega)).ch0 _cw_56).ch _cw_60 (fun hm => by have _h1 := _lo22 _ hm; have _h2 := _hiv22 _ hm; omega)).ch0 _cw_63)
              refine WL_step rfl rfl (r_loadAtA0 _f_73.at_ agg24 sz24 rfl) ?_
              refine WL_s rfl rfl ?_
              have _f_74 := ((((((_f_37.ch0 _cw_38).ch0 _cw_41).ch _cw_49 (fun i hi => by have _h1 := _lo20 _ hi; omega)).ch0 _cw_56).ch _cw_60 (fun i hi => by have _h1 := _lo22 _ hi; omega)).ch0 _cw_63)
              refine Step.call (r_call (xs := [.tmp 54]) fk16 rfl) (c_laws_toExpr _f_74 (by omega)) fun _v55 _w_75 _q55 => ?_
              obtain ⟨_u55, rfl, _q55, _lo55, _cw_75⟩ := _q55
              have _cw_75z := _cw_75.size
              have E := E.trans _cw_75
              obtain ⟨_Au55, _Cu55, _eu55⟩ := _q55.val
              subst _eu55
              have _lu55 := _q55.len
              have _hiu55 := _q55.lt
              refine WL_s rfl rfl ?_
              refine Step.call (r_call (xs := [.tmp 55]) fk41 rfl) (c_impl_Alphabet _q55.ls (by omega)) fun _v56 _w_76 _q56 => ?_
              obtain ⟨_q56, _lo56, _cw_76⟩ := _q56
              have _cw_76z := _cw_76.size
              have E := E.trans _cw_76
              obtain ⟨_Av56, _Cv56, _ev56⟩ := _q56.val
              subst _ev56
              have _lv56 := _q56.len
              have _hiv56 := _q56.lt
              refine WL_step rfl rfl (r_assign rfl) ?_
              refine WL_nil ?_
              refine thn_nrm (_hK_72 _ _ ?_)
              clear _hK_72
              refine W_seq fun _K_77 _hK_77 => ?_
              refine W_seq fun _K_78 _hK_78 => ?_
              refine W_region ?_
              refine WL_step rfl rfl (r_move rfl) ?_
              refine WL_step rfl rfl (r_move rfl) ?_
              refine WL_s rfl rfl ?_
              have _f_79 := (((((_f_55.ch0 _cw_56).ch _cw_60 (fun g hg hm => by have _h1 := _lo22 _ hm; have _h2 := _hiv22 _ hm; have _h3 := _lo18 _ hg; have _h4 := _hiv18 _ hg; omega)).ch0 _cw_63).ch0 _cw_75).ch0 _cw_76)
              refine Step.call (r_call (xs := [.tmp 57, .tmp 58]) fk34 rfl) (c_laws_eqIntS _q56.ls _f_79.ls ) fun _v59 _w_80 _q59 => ?_
              obtain ⟨rfl, _cw_80⟩ := _q59
              have _cw_80z := _cw_80.size
              have E := E.trans _cw_80
              refine WL_step rfl rfl (r_not rfl) ?_
              refine WL_nil ?_
              refine thn_nrm (_hK_78 _ _ ?_)
              clear _hK_78
              refine W_condFk rfl _kb_30 ?_
              refine W_skip ?_
              refine thn_nrm (_hK_77 _ _ ?_)
              clear _hK_77
              refine W_seq fun _K_81 _hK_81 => ?_
              refine W_region ?_
              refine WL_step rfl rfl (r_assign rfl) ?_
              refine WL_nil ?_
              refine thn_nrm (_hK_81 _ _ ?_)
              clear _hK_81
              refine W_seq fun _K_82 _hK_82 => ?_
              refine W_region ?_
              refine WL_step rfl rfl (r_move rfl) ?_
              refine WL_step rfl rfl (r_move rfl) ?_
              refine WL_s rfl rfl ?_
              have _f_83 := ((((_q45.ch0 _cw_63).ch0 _cw_75).ch0 _cw_76).ch0 _cw_80)
              refine Step.call (r_call (xs := [.tmp 61, .tmp 62]) fk42 rfl) (c_laws_heldIntS _f_83.ls _ (by omega) (by first | omega | (simp <;> omega))) fun _v63 _w_84 _q63 => ?_
              obtain ⟨rfl, _cw_84⟩ := _q63
              have _cw_84z := _cw_84.size
              have E := E.trans _cw_84
              refine WL_step rfl rfl (r_assign rfl) ?_
              refine WL_nil ?_
              refine thn_nrm (_hK_82 _ _ ?_)
              clear _hK_82
              refine W_seq fun _K_85 _hK_85 => ?_
              refine W_seq fun _K_86 _hK_86 => ?_
              refine W_region ?_
              refine WL_step rfl rfl (r_move rfl) ?_
              refine WL_step rfl rfl (r_lss rfl rfl) ?_
              refine WL_nil ?_
              refine thn_nrm (_hK_86 _ _ ?_)
              clear _hK_86
              refine W_condFk rfl _kb_66 ?_
              refine W_skip ?_
              refine thn_nrm (_hK_85 _ _ ?_)
              clear _hK_85
              refine W_seq fun _K_87 _hK_87 => ?_
              refine W_seq fun _K_88 _hK_88 => ?_
              refine W_region ?_
              refine WL_step rfl rfl (r_move rfl) ?_
              refine WL_step rfl rfl (r_move rfl) ?_
              refine WL_step rfl rfl (r_neq rfl rfl) ?_
              refine WL_nil ?_
              refine thn_nrm (_hK_88 _ _ ?_)
              clear _hK_88
              refine W_condFk rfl _kb_70 ?_
              refine W_skip ?_
              refine thn_nrm (_hK_87 _ _ ?_)
              clear _hK_87
              refine W_seq fun _K_89 _hK_89 => ?_
              refine W_region ?_
              refine WL_step rfl rfl (r_assign rfl) ?_
              refine WL_nil ?_
              refine thn_nrm (_hK_89 _ _ ?_)
              clear _hK_89
              refine W_ret ?_
              exact ret_intro [_] ⟨rfl, trivial⟩ ⟨congrArg Value.bool (by first | rfl | (exfalso; omega) | (exfalso; revert _h53; simp; done) | (exfalso; revert _h53; simp; omega)), E⟩

end Go.Proofs.Ytjjmjmbihonicaa
