/- Walks of functions that FnExactDerivative reaches: what each returns, and that it leaves the memory that was there alone. -/
import Derived.Test.YtjjmjmbihonicaaKF
import Derived.Test.YtjjmjmbihonicaaKG
import Derived.Test.YtjjmjmbihonicaaKH
import Derived.Test.YtjjmjmbihonicaaKI
import Derived.Test.YtjjmjmbihonicaaKJ
import Derived.Test.YtjjmjmbihonicaaKM
import Derived.Test.YtjjmjmbihonicaaKN
import Derived.Test.YtjjmjmbihonicaaKO
import Derived.Test.YtjjmjmbihonicaaKP
import Derived.Test.YtjjmjmbihonicaaKQ
import Derived.Test.YtjjmjmbihonicaaKR
import Derived.Test.YtjjmjmbihonicaaKS
import Derived.Test.YtjjmjmbihonicaaKT
import Derived.Test.YtjjmjmbihonicaaKU
import Derived.Test.YtjjmjmbihonicaaKV
import Derived.Test.YtjjmjmbihonicaaKX
import Derived.Test.YtjjmjmbihonicaaWExactDerivative
import Derived.Test.YtjjmjmbihonicaaWExactDerivativeb
import Derived.Test.YtjjmjmbihonicaaProg
namespace Go.Proofs.Ytjjmjmbihonicaa
open Go.KLib
set_option maxRecDepth 20000
set_option linter.unusedVariables false
set_option linter.unusedSimpArgs false
namespace TExactDerivativec
theorem agg24 : aggB Try.prog 24 = some true := by kernel_rfl
theorem agg27 : aggB Try.prog 27 = some false := by kernel_rfl
theorem agg29 : aggB Try.prog 29 = some true := by kernel_rfl
theorem agg3 : aggB Try.prog 3 = some false := by kernel_rfl
theorem agg57 : aggB Try.prog 57 = some true := by kernel_rfl
theorem el27 : elB Try.prog 27 = some 57 := by kernel_rfl
theorem fa29_0 : faB Try.prog 29 0 = some 0 := by kernel_rfl
theorem fa57_0 : faB Try.prog 57 0 = some 0 := by kernel_rfl
theorem fa57_1 : faB Try.prog 57 1 = some 1 := by kernel_rfl
theorem fa57_2 : faB Try.prog 57 2 = some 2 := by kernel_rfl
theorem fa57_3 : faB Try.prog 57 3 = some 3 := by kernel_rfl
theorem fk14 : fnB Try.prog 14 = true := by kernel_rfl
theorem fk15 : fnB Try.prog 15 = true := by kernel_rfl
theorem fk16 : fnB Try.prog 16 = true := by kernel_rfl
theorem fk18 : fnB Try.prog 18 = true := by kernel_rfl
theorem fk25 : fnB Try.prog 25 = true := by kernel_rfl
theorem fk26 : fnB Try.prog 26 = true := by kernel_rfl
theorem fk29 : fnB Try.prog 29 = true := by kernel_rfl
theorem fk30 : fnB Try.prog 30 = true := by kernel_rfl
theorem fk53 : fnB Try.prog 53 = true := by kernel_rfl
theorem fk56 : fnB Try.prog 56 = true := by kernel_rfl
theorem fk62 : fnB Try.prog 62 = true := by kernel_rfl
theorem fk63 : fnB Try.prog 63 = true := by kernel_rfl
theorem fk88 : fnB Try.prog 88 = true := by kernel_rfl
theorem fk89 : fnB Try.prog 89 = true := by kernel_rfl
theorem fk90 : fnB Try.prog 90 = true := by kernel_rfl
theorem fk91 : fnB Try.prog 91 = true := by kernel_rfl
theorem mixed : Try.prog.follows .mixedOrders = true := by kernel_rfl
theorem pl29 : placesB Try.prog 29 = some [(0, 1)] := by kernel_rfl
theorem sz24 : sizeB Try.prog 24 = some 1 := by kernel_rfl
theorem sz29 : sizeB Try.prog 29 = some 1 := by kernel_rfl
theorem sz57 : sizeB Try.prog 57 = some 4 := by kernel_rfl
theorem un4 : Try.prog.underlying 4 = some (.bool) := by kernel_rfl
theorem zr29 : zeroB Try.prog 29 = some (.agg #[.slice none 0 0]) := by kernel_rfl
theorem zr57 : zeroB Try.prog 57 = some (.agg #[.int .i64 0, .int .i64 0, .int .i64 0, .int .i64 0]) := by kernel_rfl
end TExactDerivativec
open TExactDerivativec

/-- spec.l9Deriv -/
theorem c_spec_l9Deriv_n : ∀ (n : Nat) {w : World} {LL_l _B_l : Nat} {_v_l : Value} {l : List Token} (_h_l : Ls Token.cs 4 w LL_l _B_l _v_l l) (letter : Int) (t : Tr) (hok : Okd t) (hl : l = t.flat) (hb : l.length ≤ 400) (hsz : l.length < n),
    Ctr Try.prog 63 #[_v_l, (.int .i64 letter)] w (fun v w' => ∃ u, v = .agg #[u] ∧ Ol Token.cs 57 4 w' u (derT letter t) ∧ Lo w.heap.size u ∧ Ch [] w w') := by
  intro n
  induction n with
  | zero => intros; omega
  | succ n ih =>
  intro w LL_l _B_l _v_l l _h_l letter t hok hl hb hsz
  obtain ⟨_A_l, _C_l, _e1_l⟩ := _h_l.val
  subst _e1_l
  have _l_l := _h_l.len
  have _h_l := _h_l.here (by decide)
  have E := Ch.refl [] w
  have hn1 := t.flat_pos; rw [← hl] at hn1; have k2 := hok.len
  refine Ctr_of_W (N := 105) (vs0 := [(.slice _A_l l.length _C_l), (.int .i64 letter)]) Try.func63 rfl rfl rfl ?_
  refine W_seq fun _K_1 _hK_1 => ?_
  refine W_region ?_
  refine WL_s rfl rfl ?_
  refine s_alloc zr29 fun _b4 _w_2 _m4 _cw_2 _e4 => ?_
  have _cw_2z := _cw_2.size
  have E := E.trans _cw_2
  have _z4 := _m4.lt
  replace _m4 : Blk _w_2 _b4 29 [(.slice none 0 0)] := _m4
  refine WL_nil ?_
  refine thn_nrm (_hK_1 _ _ ?_)
  clear _hK_1
  refine W_seq fun _K_3 _hK_3 => ?_
  refine W_region ?_
  refine WL_step rfl rfl (r_move rfl) ?_
  refine WL_step rfl rfl (r_len (by rw [el27]; rfl) rfl) ?_
  refine WL_step rfl rfl (r_sub (by omega) rfl rfl) ?_
  refine WL_step rfl rfl (r_assign rfl) ?_
  refine WL_nil ?_
  refine thn_nrm (_hK_3 _ _ ?_)
  clear _hK_3
  refine W_seq fun _K_4 _hK_4 => ?_
  refine W_region ?_
  refine WL_step rfl rfl (r_move rfl) ?_
  refine WL_step rfl rfl (r_move rfl) ?_
  refine WL_s rfl rfl ?_
  have _f_5 := (_h_l.ch0 _cw_2)
  refine (s_index (j := (((l.length : Nat) : Int) - 1).toNat) _f_5 Token.len el27 sz57 rfl rfl (by omega) (by omega) fun _p15 _y15 _hy15 _a15 => ?_)
  have _ht := last_tok hl (by omega) _hy15
  have htk := congrArg Token.kind _ht
  have hte := congrArg Token.letter _ht
  have htl := congrArg Token.low _ht
  have hth := congrArg Token.high _ht
  refine WL_step rfl rfl (r_loadAtA0 _a15 agg57 sz57 rfl) ?_
  refine WL_s rfl rfl ?_
  refine s_alloc zr57 fun _b6 _w_6 _m6 _cw_6 _e6 => ?_
  have _cw_6z := _cw_6.size
  have E := E.trans _cw_6
  have _z6 := _m6.lt
  replace _m6 : Blk _w_6 _b6 57 [(.int .i64 0), (.int .i64 0), (.int .i64 0), (.int .i64 0)] := _m6
  refine WL_s rfl rfl ?_
  refine s_storeA (off := 0) 4 _m6 sz57 rfl (us := [(.int .i64 _y15.kind), (.int .i64 _y15.letter), (.int .i64 _y15.low), (.int .i64 _y15.high)]) rfl rfl rfl rfl fun _w_7 _m_8 _cw_7 => ?_
  have _cw_7z := _cw_7.size
  have E := E.step _cw_7 (fun i hi => .inl (by have _h1 := List.mem_singleton.1 hi; omega))
  replace _m_8 : Blk _w_7 _b6 57 [(.int .i64 _y15.kind), (.int .i64 _y15.letter), (.int .i64 _y15.low), (.int .i64 _y15.high)] := _m_8
  refine WL_nil ?_
  refine thn_nrm (_hK_4 _ _ ?_)
  clear _hK_4
  refine W_seq fun _K_9 _hK_9 => ?_
  refine W_seq fun _K_10 _hK_10 => ?_
  refine W_region ?_
  refine WL_step rfl rfl (r_fieldAddr fa57_0 rfl) ?_
  refine WL_step rfl rfl (r_loadAt _m_8.at_ agg3 rfl rfl) ?_
  refine WL_nil ?_
  refine thn_nrm (_hK_10 _ _ ?_)
  clear _hK_10
  refine W_block ?_
  refine W_seq fun _K_11 _hK_11 => ?_
  refine W_region ?_
  refine WL_step rfl rfl (r_eql rfl rfl) ?_
  refine WL_step rfl rfl (r_assign rfl) ?_
  refine WL_nil ?_
  refine thn_nrm (_hK_11 _ _ ?_)
  clear _hK_11
  refine W_cond rfl (fun _h19 => ?_) (fun _h19 => ?_)
  · have _kb_12 := _h19
    have _h19 := bt_d _h19
    refine W_seq fun _K_13 _hK_13 => ?_
    refine W_region ?_
    refine WL_step rfl rfl (r_fieldAddr fa57_1 rfl) ?_
    refine WL_step rfl rfl (r_loadAt _m_8.at_ agg3 rfl rfl) ?_
    refine WL_step rfl rfl (r_move rfl) ?_
    refine WL_step rfl rfl (r_eql rfl rfl) ?_
    refine WL_nil ?_
    refine thn_nrm (_hK_13 _ _ ?_)
    clear _hK_13
    refine W_cond rfl (fun _h24 => ?_) (fun _h24 => ?_)
    · have _kb_14 := _h24
      have _h24 := bt_d _h24
      refine W_seq fun _K_15 _hK_15 => ?_
      refine W_region ?_
      refine WL_s rfl rfl ?_
      refine Step.call (r_call (xs := [.const (Go.Value.int Go.IntKind.i64 2)]) fk88 rfl) (c_spec_l8Leaf _ ) fun _v25 _w_16 _q25 => ?_
      obtain ⟨_u25, rfl, _q25, _lo25, _cw_16⟩ := _q25
      have _cw_16z := _cw_16.size
      have E := E.trans _cw_16
      obtain ⟨_Au25, _Cu25, _eu25⟩ := _q25.val
      subst _eu25
      have _lu25 := _q25.len
      have _hiu25 := _q25.lt
      refine WL_s rfl rfl ?_
      have _f_17 := (((_m4.ch0 _cw_6).ch _cw_7 (fun hm => by have _h1 := List.mem_singleton.1 hm; omega)).ch0 _cw_16)
      refine s_storeA (off := 0) 1 _f_17 sz29 rfl (us := [(.slice _Au25 ([(⟨2, 0, 0, 0⟩ : Token)]).length _Cu25)]) rfl rfl rfl rfl fun _w_18 _m_19 _cw_18 => ?_
      have _cw_18z := _cw_18.size
      have E := E.step _cw_18 (fun i hi => .inl (by have _h1 := List.mem_singleton.1 hi; omega))
      replace _m_19 : Blk _w_18 _b4 29 [(.slice _Au25 ([(⟨2, 0, 0, 0⟩ : Token)]).length _Cu25)] := _m_19
      refine WL_nil ?_
      refine thn_nrm (_hK_15 _ _ ?_)
      clear _hK_15
      refine W_ret (inB_ret (thn_ret ?_))
      clear _hK_9
      have _f_21 := (_q25.ch _cw_18 (fun g hg hm => by have _h0 := List.mem_singleton.1 hm; have _h2 := _lo25 _ hg; have _h3 := _hiu25 _ hg; omega))
      have _o_20 : Ol Token.cs 57 4 _w_18 (.slice _Au25 ([(⟨2, 0, 0, 0⟩ : Token)]).length _Cu25) (derT letter t) := by
        have hx := _f_21
        exact hx.eq (by first | exact der3 hok (by omega) (by omega) | exact der0 hok (by omega) (by omega) | exact der4t hok (by omega) _hk0 _hk1 _h46 | exact der4f hok (by omega) _hk0 _hk1 _h46 | exact der5 hok (by omega) _hk0 _hk1 | (rw [hl]; exact der6 hok (by omega) _hk0) | (rw [_ht]; exact der7 hok (by omega) _hk0))
      exact ret_intro [_] (resOf_loadA _m_19 rfl agg29 sz29 trivial) ⟨_, rfl, _o_20, Lo.down _lo25 (by omega), E⟩
    · have _kb_14 := _h24
      have _h24 := bf_d _h24
      refine W_skip ?_
      refine inB_nrm ?_
      refine thn_nrm (_hK_9 _ _ ?_)
      clear _hK_9
      refine W_seq fun _K_22 _hK_22 => ?_
      refine W_region ?_
      refine WL_s rfl rfl ?_
      refine Step.call (r_call (xs := [.const (Go.Value.int Go.IntKind.i64 1)]) fk88 rfl) (c_spec_l8Leaf _ ) fun _v104 _w_23 _q104 => ?_
      obtain ⟨_u104, rfl, _q104, _lo104, _cw_23⟩ := _q104
      have _cw_23z := _cw_23.size
      have E := E.trans _cw_23
      obtain ⟨_Au104, _Cu104, _eu104⟩ := _q104.val
      subst _eu104
      have _lu104 := _q104.len
      have _hiu104 := _q104.lt
      refine WL_s rfl rfl ?_
      have _f_24 := (((_m4.ch0 _cw_6).ch _cw_7 (fun hm => by have _h1 := List.mem_singleton.1 hm; omega)).ch0 _cw_23)
      refine s_storeA (off := 0) 1 _f_24 sz29 rfl (us := [(.slice _Au104 ([(⟨1, 0, 0, 0⟩ : Token)]).length _Cu104)]) rfl rfl rfl rfl fun _w_25 _m_26 _cw_25 => ?_
      have _cw_25z := _cw_25.size
      have E := E.step _cw_25 (fun i hi => .inl (by have _h1 := List.mem_singleton.1 hi; omega))
      replace _m_26 : Blk _w_25 _b4 29 [(.slice _Au104 ([(⟨1, 0, 0, 0⟩ : Token)]).length _Cu104)] := _m_26
      refine WL_nil ?_
      refine thn_nrm (_hK_22 _ _ ?_)
      clear _hK_22
      refine W_ret ?_
      have _f_28 := (_q104.ch _cw_25 (fun g hg hm => by have _h0 := List.mem_singleton.1 hm; have _h2 := _lo104 _ hg; have _h3 := _hiu104 _ hg; omega))
      have _o_27 : Ol Token.cs 57 4 _w_25 (.slice _Au104 ([(⟨1, 0, 0, 0⟩ : Token)]).length _Cu104) (derT letter t) := by
        have hx := _f_28
        exact hx.eq (by first | exact der3 hok (by omega) (by omega) | exact der0 hok (by omega) (by omega) | exact der4t hok (by omega) _hk0 _hk1 _h46 | exact der4f hok (by omega) _hk0 _hk1 _h46 | exact der5 hok (by omega) _hk0 _hk1 | (rw [hl]; exact der6 hok (by omega) _hk0) | (rw [_ht]; exact der7 hok (by omega) _hk0))
      exact ret_intro [_] (resOf_loadA _m_26 rfl agg29 sz29 trivial) ⟨_, rfl, _o_27, Lo.down _lo104 (by omega), E⟩
  · have _kb_12 := _h19
    have _h19 := bf_d _h19
    refine W_seq fun _K_29 _hK_29 => ?_
    refine W_region ?_
    refine WL_step rfl rfl (r_eql rfl rfl) ?_
    refine WL_step rfl rfl (r_assign rfl) ?_
    refine WL_nil ?_
    refine thn_nrm (_hK_29 _ _ ?_)
    clear _hK_29
    refine W_cond rfl (fun _h26 => ?_) (fun _h26 => ?_)
    · have _kb_30 := _h26
      have _h26 := bt_d _h26
      obtain ⟨ta, tb, et, oa, ob, hla, hn2⟩ := hok.k2 (by omega) _ht hl
      have _hk0 : t.kids[0]? = some ta := by rw [et]; rfl
      have _hk1 : t.kids[1]? = some tb := by rw [et]; rfl
      have ga := ta.flat_len
      have gb := tb.flat_len
      have da := derT_le letter ta (by omega)
      have db := derT_le letter tb (by omega)
      refine W_seq fun _K_31 _hK_31 => ?_
      refine W_region ?_
      refine WL_step rfl rfl (r_move rfl) ?_
      refine WL_step rfl rfl (r_move rfl) ?_
      refine WL_s rfl rfl ?_
      have _f_32 := ((_f_5.ch0 _cw_6).ch _cw_7 (fun i hi => by have _h1 := List.mem_singleton.1 hi; omega))
      refine (s_cut (ys := (ta.flat ++ tb.flat)) 0 ((((l.length : Nat) : Int) - 1).toNat) _f_32 Token.len el27 sz57 rfl rfl ⟨_, _, rfl, by omega⟩ (by omega) (by omega) (show l.take _ = _ from cut_ab hla (by omega)) fun _v30 _q30 _bb30 _ln30 => ?_)
      obtain ⟨_A30, _C30, _e30⟩ := _q30.val
      subst _e30
      have _l30 := _q30.len
      refine WL_s rfl rfl ?_
      refine Step.call (r_call (xs := [.tmp 30]) fk56 rfl) (c_spec_l8Start _q30 ta.flat tb ob rfl) fun _v31 _w_33 _q31 => ?_
      obtain ⟨rfl, _cw_33⟩ := _q31
      have _cw_33z := _cw_33.size
      have E := E.trans _cw_33
      refine WL_step rfl rfl (r_assign rfl) ?_
      refine WL_nil ?_
      refine thn_nrm (_hK_31 _ _ ?_)
      clear _hK_31
      refine W_seq fun _K_34 _hK_34 => ?_
      have _J_36 : ∀ (lj : KL) (_wj_35 : World) (jb8 : Nat) (ju8_0 : Value), Go.KLib.Sub [(0, (.slice _A_l l.length _C_l)), (1, (.int .i64 letter)), (4, (.pointer (some ⟨_b4, 0, none⟩))), (5, (.int .i64 (((l.length : Nat) : Int) - 1))), (6, (.pointer (some ⟨_b6, 0, none⟩))), (7, (.int .i64 ((ta.flat.length : Nat) : Int))), (8, (.pointer (some ⟨jb8, 0, none⟩))), (18, (.int .i64 _y15.kind))] lj → Ch [] _w_33 _wj_35 → Ol Token.cs 57 4 _wj_35 ju8_0 (catE (derT letter ta) tb.flat) → Lo _w_33.heap.size ju8_0 → Blk _wj_35 jb8 29 [ju8_0] → _w_33.heap.size ≤ jb8 → jb8 ∉ bl ju8_0 → _K_34 lj _wj_35 := by
        intro lj _wj_35 jb8 ju8_0 _jsub _cjK_34 _qju8_0 _loju8_0 _mjb8 _ejb8 _nbjb8ju8_0
        refine _hK_34 _ _ (W_sub _jsub ?_)
        clear _hK_34
        have _cjK_34z := _cjK_34.size
        have E := E.trans _cjK_34
        obtain ⟨_Aju8_0, _Cju8_0, _eju8_0⟩ := _qju8_0.val
        subst _eju8_0
        have _lju8_0 := _qju8_0.len
        have _hiju8_0 := _qju8_0.lt
        have _zjb8 := _mjb8.lt
        refine W_seq fun _K_37 _hK_37 => ?_
        refine W_seq fun _K_38 _hK_38 => ?_
        refine W_region ?_
        refine WL_step rfl rfl (r_move rfl) ?_
        refine WL_step rfl rfl (r_move rfl) ?_
        refine WL_s rfl rfl ?_
        have _f_39 := ((_f_32.ch0 _cw_33).ch0 _cjK_34)
        refine (s_cut (ys := ta.flat) 0 ta.flat.length _f_39 Token.len el27 sz57 rfl rfl ⟨_, _, rfl, by omega⟩ (by omega) (by omega) (show l.take _ = _ from cut_a hla (by omega)) fun _v45 _q45 _bb45 _ln45 => ?_)
        obtain ⟨_A45, _C45, _e45⟩ := _q45.val
        subst _e45
        have _l45 := _q45.len
        refine WL_s rfl rfl ?_
        refine Step.call (r_call (xs := [.tmp 45]) fk53 rfl) (c_spec_l9Null _q45 ta oa rfl) fun _v46 _w_40 _q46 => ?_
        obtain ⟨rfl, _cw_40⟩ := _q46
        have _cw_40z := _cw_40.size
        have E := E.trans _cw_40
        refine WL_nil ?_
        refine thn_nrm (_hK_38 _ _ ?_)
        clear _hK_38
        refine W_cond rfl (fun _h46 => ?_) (fun _h46 => ?_)
        · have _kb_41 := _h46
          refine W_seq fun _K_42 _hK_42 => ?_
          refine W_drawC [_b4] 9 mixed rfl fun _w_43 _cw_43 => ?_
          have _cw_43z := _cw_43.size
          have E := E.trans _cw_43
          have _f_44 := ((_mjb8.ch0 _cw_40).ch0 _cw_43)
          refine DR_s 0 rfl (by kernel_rfl) rfl rfl (t_loadAtA0 _f_44.at_ (fun i hm => by have _h1 := List.mem_singleton.1 hm; omega) agg29 sz29 rfl ?_)
          refine DR_s 1 rfl (by kernel_rfl) rfl rfl (t_v (fun _ => (r_move rfl)) ?_)
          refine DR_s 2 rfl (by kernel_rfl) rfl rfl (t_v (fun _ => (r_move rfl)) ?_)
          refine DR_s 3 rfl (by kernel_rfl) rfl rfl (t_v (fun _ => (r_move rfl)) ?_)
          have _f_45 := ((_f_39.ch0 _cw_40).ch0 _cw_43)
          refine DR_s 4 rfl (by kernel_rfl) rfl rfl (t_cut (ys := tb.flat) ta.flat.length ((((l.length : Nat) : Int) - 1).toNat) _f_45 Token.len el27 sz57 rfl ⟨_, _, rfl, by omega⟩ ⟨_, _, rfl, by omega⟩ (by omega) (by omega) (cut_b hla (by omega) (by omega)) fun _v51 _q51 _bb51 _ln51 => ?_)
          obtain ⟨_A51, _C51, _e51⟩ := _q51.val
          subst _e51
          have _l51 := _q51.len
          refine DR_s 5 rfl (by kernel_rfl) rfl rfl (t_v (fun _ => (r_move rfl)) ?_)
          refine DR_one 6 (by kernel_rfl) ?_
          refine DO_s rfl rfl rfl ?_
          refine Step.call (r_call (xs := [.tmp 51, .tmp 52]) fk63 rfl) (ih _q51 _ tb ob rfl (by omega) (by omega)) fun _v53 _w_46 _q53 => ?_
          obtain ⟨_u53, rfl, _q53, _lo53, _cw_46⟩ := _q53
          have _cw_46z := _cw_46.size
          have E := E.trans _cw_46
          obtain ⟨_Au53, _Cu53, _eu53⟩ := _q53.val
          subst _eu53
          have _lu53 := _q53.len
          have _hiu53 := _q53.lt
          have _S_47 : Ch [_b4] _w_43 _w_46 := ((Ch.refl _ _).trans _cw_46.of_nil)
          refine ⟨_S_47, ?_⟩
          refine DR_one 7 (by kernel_rfl) ?_
          refine DO_s rfl rfl rfl ?_
          have _f_48 := (((_qju8_0.ch0 _cw_40).ch0 _cw_43).ch0 _cw_46)
          refine Step.call (r_call (xs := [.tmp 47, .tmp 53]) fk90 rfl) (c_spec_UnionExpr _f_48.ls _q53.ls (by have _h129 := catE_len (derT letter ta) tb.flat; omega)) fun _v54 _w_49 _q54 => ?_
          obtain ⟨_u54, rfl, _q54, _lo54, _cw_49⟩ := _q54
          have _cw_49z := _cw_49.size
          have E := E.trans _cw_49
          obtain ⟨_Au54, _Cu54, _eu54⟩ := _q54.val
          subst _eu54
          have _lu54 := _q54.len
          have _hiu54 := _q54.lt
          have _S_50 : Ch [_b4] _w_43 _w_49 := (_S_47.trans _cw_49.of_nil)
          refine ⟨_S_50, ?_⟩
          refine DR_one 8 (by kernel_rfl) ?_
          refine DO_s rfl rfl rfl ?_
          have _f_51 := ((((((((_m4.ch0 _cw_6).ch _cw_7 (fun hm => by have _h1 := List.mem_singleton.1 hm; omega)).ch0 _cw_33).ch0 _cjK_34).ch0 _cw_40).ch0 _cw_43).ch0 _cw_46).ch0 _cw_49)
          refine s_storeA (off := 0) 1 _f_51 sz29 rfl (us := [(.slice _Au54 (uniE (catE (derT letter ta) tb.flat) (derT letter tb)).length _Cu54)]) rfl rfl rfl rfl fun _w_52 _m_53 _cw_52 => ?_
          have _cw_52z := _cw_52.size
          have E := E.step _cw_52 (fun i hi => .inl (by have _h1 := List.mem_singleton.1 hi; omega))
          replace _m_53 : Blk _w_52 _b4 29 [(.slice _Au54 (uniE (catE (derT letter ta) tb.flat) (derT letter tb)).length _Cu54)] := _m_53
          have _S_54 : Ch [_b4] _w_43 _w_52 := (_S_50.step _cw_52 (fun i hm => by have _h0 := List.mem_singleton.1 hm; exact .inr (by rw [_h0]; exact (List.mem_singleton.2 rfl))))
          refine ⟨_S_54, ?_⟩
          refine DR_done (by kernel_rfl) ?_
          refine thn_nrm (_hK_42 _ _ ?_)
          clear _hK_42
          refine W_ret (thn_ret (inB_ret (thn_ret ?_)))
          clear _hK_9 _hK_37
          have _f_56 := (_q54.ch _cw_52 (fun g hg hm => by have _h0 := List.mem_singleton.1 hm; have _h2 := _lo54 _ hg; have _h3 := _hiu54 _ hg; omega))
          have _o_55 : Ol Token.cs 57 4 _w_52 (.slice _Au54 (uniE (catE (derT letter ta) tb.flat) (derT letter tb)).length _Cu54) (derT letter t) := by
            have hx := _f_56
            exact hx.eq (by first | exact der3 hok (by omega) (by omega) | exact der0 hok (by omega) (by omega) | exact der4t hok (by omega) _hk0 _hk1 _h46 | exact der4f hok (by omega) _hk0 _hk1 _h46 | exact der5 hok (by omega) _hk0 _hk1 | (rw [hl]; exact der6 hok (by omega) _hk0) | (rw [_ht]; exact der7 hok (by omega) _hk0))
          exact ret_intro [_] (resOf_loadA _m_53 rfl agg29 sz29 trivial) ⟨_, rfl, _o_55, Lo.down _lo54 (by omega), E⟩
        · have _kb_41 := _h46
          refine W_skip ?_
          refine thn_nrm (_hK_37 _ _ ?_)
          clear _hK_37
          refine W_seq fun _K_57 _hK_57 => ?_
          refine W_region ?_
          have _f_58 := (_mjb8.ch0 _cw_40)
          refine WL_step rfl rfl (r_loadAtA0 _f_58.at_ agg29 sz29 rfl) ?_
          refine WL_s rfl rfl ?_
          have _f_59 := (((((_m4.ch0 _cw_6).ch _cw_7 (fun hm => by have _h1 := List.mem_singleton.1 hm; omega)).ch0 _cw_33).ch0 _cjK_34).ch0 _cw_40)
          refine s_storeA (off := 0) 1 _f_59 sz29 rfl (us := [(.slice _Aju8_0 (catE (derT letter ta) tb.flat).length _Cju8_0)]) rfl rfl rfl rfl fun _w_60 _m_61 _cw_60 => ?_
          have _cw_60z := _cw_60.size
          have E := E.step _cw_60 (fun i hi => .inl (by have _h1 := List.mem_singleton.1 hi; omega))
          replace _m_61 : Blk _w_60 _b4 29 [(.slice _Aju8_0 (catE (derT letter ta) tb.flat).length _Cju8_0)] := _m_61
          refine WL_nil ?_
          refine thn_nrm (_hK_57 _ _ ?_)
          clear _hK_57
          refine W_ret (inB_ret (thn_ret ?_))
          clear _hK_9
          have _f_63 := ((_qju8_0.ch0 _cw_40).ch _cw_60 (fun g hg hm => by have _h0 := List.mem_singleton.1 hm; have _h2 := _loju8_0 _ hg; have _h3 := _hiju8_0 _ hg; omega))
          have _o_62 : Ol Token.cs 57 4 _w_60 (.slice _Aju8_0 (catE (derT letter ta) tb.flat).length _Cju8_0) (derT letter t) := by
            have hx := _f_63
            exact hx.eq (by first | exact der3 hok (by omega) (by omega) | exact der0 hok (by omega) (by omega) | exact der4t hok (by omega) _hk0 _hk1 _h46 | exact der4f hok (by omega) _hk0 _hk1 _h46 | exact der5 hok (by omega) _hk0 _hk1 | (rw [hl]; exact der6 hok (by omega) _hk0) | (rw [_ht]; exact der7 hok (by omega) _hk0))
          exact ret_intro [_] (resOf_loadA _m_61 rfl agg29 sz29 trivial) ⟨_, rfl, _o_62, Lo.down _loju8_0 (by omega), E⟩
      clear _hK_34
      refine W_drawC [] 13 mixed rfl fun _w_64 _cw_64 => ?_
      have _cw_64z := _cw_64.size
      have E := E.trans _cw_64
      refine DR_s 0 rfl (by kernel_rfl) rfl rfl (t_v (fun _ => (r_move rfl)) ?_)
      refine DR_s 1 rfl (by kernel_rfl) rfl rfl (t_v (fun _ => (r_move rfl)) ?_)
      have _f_65 := ((_f_32.ch0 _cw_33).ch0 _cw_64)
      refine DR_s 2 rfl (by kernel_rfl) rfl rfl (t_cut (ys := ta.flat) 0 ta.flat.length _f_65 Token.len el27 sz57 rfl rfl ⟨_, _, rfl, by omega⟩ (by omega) (by omega) (show l.take _ = _ from cut_a hla (by omega)) fun _v34 _q34 _bb34 _ln34 => ?_)
      obtain ⟨_A34, _C34, _e34⟩ := _q34.val
      subst _e34
      have _l34 := _q34.len
      refine DR_s 3 rfl (by kernel_rfl) rfl rfl (t_v (fun _ => (r_move rfl)) ?_)
      refine DR_s 5 rfl (by kernel_rfl) rfl rfl (t_v (fun _ => (r_move rfl)) ?_)
      refine DR_s 6 rfl (by kernel_rfl) rfl rfl (t_v (fun _ => (r_move rfl)) ?_)
      refine DR_s 7 rfl (by kernel_rfl) rfl rfl (t_v (fun _ => (r_move rfl)) ?_)
      refine DR_s 8 rfl (by kernel_rfl) rfl rfl (t_cut (ys := tb.flat) ta.flat.length ((((l.length : Nat) : Int) - 1).toNat) _f_65 Token.len el27 sz57 rfl ⟨_, _, rfl, by omega⟩ ⟨_, _, rfl, by omega⟩ (by omega) (by omega) (cut_b hla (by omega) (by omega)) fun _v40 _q40 _bb40 _ln40 => ?_)
      obtain ⟨_A40, _C40, _e40⟩ := _q40.val
      subst _e40
      have _l40 := _q40.len
      refine DR_s 9 rfl (by kernel_rfl) rfl rfl (t_v (fun _ => (r_build (parts := [(0, .tmp 40)]) (cells := [(.slice _A40 (tb.flat).length _C40)]) zr29 pl29 rfl rfl)) ?_)
      refine DR_two 4 11 (by kernel_rfl) ?_ ?_
      · refine DO_s rfl rfl rfl ?_
        refine Step.call (r_call (xs := [.tmp 34, .tmp 35]) fk63 rfl) (ih _q34 _ ta oa rfl (by omega) (by omega)) fun _v36 _w_66 _q36 => ?_
        obtain ⟨_u36, rfl, _q36, _lo36, _cw_66⟩ := _q36
        have _cw_66z := _cw_66.size
        have E := E.trans _cw_66
        obtain ⟨_Au36, _Cu36, _eu36⟩ := _q36.val
        subst _eu36
        have _lu36 := _q36.len
        have _hiu36 := _q36.lt
        have _S_67 : Ch [] _w_64 _w_66 := ((Ch.refl _ _).trans _cw_66)
        refine ⟨_S_67, ?_⟩
        refine DR_two 10 11 (by kernel_rfl) ?_ ?_
        · refine DO_s rfl rfl rfl ?_
          have _f_68 := (_q40.ch0 _cw_66)
          refine Step.call (r_call (xs := [.tmp 36, .tmp 41]) fk89 rfl) (c_spec_ConcatExpr _q36.ls _f_68 (by omega)) fun _v42 _w_69 _q42 => ?_
          obtain ⟨_u42, rfl, _q42, _lo42, _cw_69⟩ := _q42
          have _cw_69z := _cw_69.size
          have E := E.trans _cw_69
          obtain ⟨_Au42, _Cu42, _eu42⟩ := _q42.val
          subst _eu42
          have _lu42 := _q42.len
          have _hiu42 := _q42.lt
          have _S_70 : Ch [] _w_64 _w_69 := (_S_67.trans _cw_69)
          refine ⟨_S_70, ?_⟩
          refine DR_one 11 (by kernel_rfl) ?_
          refine DO_s rfl rfl rfl ?_
          refine s_alloc zr29 fun _b8 _w_71 _m8 _cw_71 _e8 => ?_
          have _cw_71z := _cw_71.size
          have E := E.trans _cw_71
          have _z8 := _m8.lt
          replace _m8 : Blk _w_71 _b8 29 [(.slice none 0 0)] := _m8
          have _S_72 : Ch [] _w_64 _w_71 := (_S_70.trans _cw_71)
          refine ⟨_S_72, ?_⟩
          refine DR_one 12 (by kernel_rfl) ?_
          refine DO_s rfl rfl rfl ?_
          refine s_storeA (off := 0) 1 _m8 sz29 rfl (us := [(.slice _Au42 (catE (derT letter ta) tb.flat).length _Cu42)]) rfl rfl rfl rfl fun _w_73 _m_74 _cw_73 => ?_
          have _cw_73z := _cw_73.size
          have E := E.step _cw_73 (fun i hi => .inl (by have _h1 := List.mem_singleton.1 hi; omega))
          replace _m_74 : Blk _w_73 _b8 29 [(.slice _Au42 (catE (derT letter ta) tb.flat).length _Cu42)] := _m_74
          have _S_75 : Ch [] _w_64 _w_73 := (_S_72.step _cw_73 (fun i hm => by have _h0 := List.mem_singleton.1 hm; left; omega))
          refine ⟨_S_75, ?_⟩
          refine DR_done (by kernel_rfl) ?_
          refine thn_nrm ?_
          have _f_76 := ((_q42.ch0 _cw_71).ch _cw_73 (fun g hg hm => by have _h0 := List.mem_singleton.1 hm; have _h2 := _lo42 _ hg; have _h3 := _hiu42 _ hg; omega))
          exact _J_36 _ _ _b8 (.slice _Au42 (catE (derT letter ta) tb.flat).length _Cu42) (Sub.cons rfl (Sub.cons rfl (Sub.cons rfl (Sub.cons rfl (Sub.cons rfl (Sub.cons rfl (Sub.cons rfl (Sub.cons rfl (Sub.nil _))))))))) ((((((Ch.refl [] _w_33).trans _cw_64).trans _cw_66).trans _cw_69).trans _cw_71).step _cw_73 (fun i hi => .inl (by have _h1 := List.mem_singleton.1 hi; omega))) _f_76 (Lo.down _lo42 (by omega)) _m_74 (by omega) (fun hm => by have _h1 := _lo42 _ hm; have _h2 := _hiu42 _ hm; omega)
        · refine DO_s rfl rfl rfl ?_
          refine s_alloc zr29 fun _b8 _w_77 _m8 _cw_77 _e8 => ?_
          have _cw_77z := _cw_77.size
          have E := E.trans _cw_77
          have _z8 := _m8.lt
          replace _m8 : Blk _w_77 _b8 29 [(.slice none 0 0)] := _m8
          have _S_78 : Ch [] _w_64 _w_77 := (_S_67.trans _cw_77)
          refine ⟨_S_78, ?_⟩
          refine DR_one 10 (by kernel_rfl) ?_
          refine DO_s rfl rfl rfl ?_
          have _f_79 := (_q36.ch0 _cw_77)
          have _f_80 := ((_q40.ch0 _cw_66).ch0 _cw_77)
          refine Step.call (r_call (xs := [.tmp 36, .tmp 41]) fk89 rfl) (c_spec_ConcatExpr _f_79.ls _f_80 (by omega)) fun _v42 _w_81 _q42 => ?_
          obtain ⟨_u42, rfl, _q42, _lo42, _cw_81⟩ := _q42
          have _cw_81z := _cw_81.size
          have E := E.trans _cw_81
          obtain ⟨_Au42, _Cu42, _eu42⟩ := _q42.val
          subst _eu42
          have _lu42 := _q42.len
          have _hiu42 := _q42.lt
          have _S_82 : Ch [] _w_64 _w_81 := (_S_78.trans _cw_81)
          refine ⟨_S_82, ?_⟩
          refine DR_one 12 (by kernel_rfl) ?_
          refine DO_s rfl rfl rfl ?_
          have _f_83 := (_m8.ch0 _cw_81)
          refine s_storeA (off := 0) 1 _f_83 sz29 rfl (us := [(.slice _Au42 (catE (derT letter ta) tb.flat).length _Cu42)]) rfl rfl rfl rfl fun _w_84 _m_85 _cw_84 => ?_
          have _cw_84z := _cw_84.size
          have E := E.step _cw_84 (fun i hi => .inl (by have _h1 := List.mem_singleton.1 hi; omega))
          replace _m_85 : Blk _w_84 _b8 29 [(.slice _Au42 (catE (derT letter ta) tb.flat).length _Cu42)] := _m_85
          have _S_86 : Ch [] _w_64 _w_84 := (_S_82.step _cw_84 (fun i hm => by have _h0 := List.mem_singleton.1 hm; left; omega))
          refine ⟨_S_86, ?_⟩
          refine DR_done (by kernel_rfl) ?_
          refine thn_nrm ?_
          have _f_87 := (_q42.ch _cw_84 (fun g hg hm => by have _h0 := List.mem_singleton.1 hm; have _h2 := _lo42 _ hg; have _h3 := _hiu42 _ hg; omega))
          exact _J_36 _ _ _b8 (.slice _Au42 (catE (derT letter ta) tb.flat).length _Cu42) (Sub.cons rfl (Sub.cons rfl (Sub.cons rfl (Sub.cons rfl (Sub.cons rfl (Sub.cons rfl (Sub.cons rfl (Sub.cons rfl (Sub.nil _))))))))) ((((((Ch.refl [] _w_33).trans _cw_64).trans _cw_66).trans _cw_77).trans _cw_81).step _cw_84 (fun i hi => .inl (by have _h1 := List.mem_singleton.1 hi; omega))) _f_87 (Lo.down _lo42 (by omega)) _m_85 (by omega) (fun hm => by have _h1 := _lo42 _ hm; have _h2 := _hiu42 _ hm; omega)
      · refine DO_s rfl rfl rfl ?_
        refine s_alloc zr29 fun _b8 _w_88 _m8 _cw_88 _e8 => ?_
        have _cw_88z := _cw_88.size
        have E := E.trans _cw_88
        have _z8 := _m8.lt
        replace _m8 : Blk _w_88 _b8 29 [(.slice none 0 0)] := _m8
        have _S_89 : Ch [] _w_64 _w_88 := ((Ch.refl _ _).trans _cw_88)
        refine ⟨_S_89, ?_⟩
        refine DR_one 4 (by kernel_rfl) ?_
        refine DO_s rfl rfl rfl ?_
        have _f_90 := (_q34.ch0 _cw_88)
        refine Step.call (r_call (xs := [.tmp 34, .tmp 35]) fk63 rfl) (ih _f_90 _ ta oa rfl (by omega) (by omega)) fun _v36 _w_91 _q36 => ?_
        obtain ⟨_u36, rfl, _q36, _lo36, _cw_91⟩ := _q36
        have _cw_91z := _cw_91.size
        have E := E.trans _cw_91
        obtain ⟨_Au36, _Cu36, _eu36⟩ := _q36.val
        subst _eu36
        have _lu36 := _q36.len
        have _hiu36 := _q36.lt
        have _S_92 : Ch [] _w_64 _w_91 := (_S_89.trans _cw_91)
        refine ⟨_S_92, ?_⟩
        refine DR_one 10 (by kernel_rfl) ?_
        refine DO_s rfl rfl rfl ?_
        have _f_93 := ((_q40.ch0 _cw_88).ch0 _cw_91)
        refine Step.call (r_call (xs := [.tmp 36, .tmp 41]) fk89 rfl) (c_spec_ConcatExpr _q36.ls _f_93 (by omega)) fun _v42 _w_94 _q42 => ?_
        obtain ⟨_u42, rfl, _q42, _lo42, _cw_94⟩ := _q42
        have _cw_94z := _cw_94.size
        have E := E.trans _cw_94
        obtain ⟨_Au42, _Cu42, _eu42⟩ := _q42.val
        subst _eu42
        have _lu42 := _q42.len
        have _hiu42 := _q42.lt
        have _S_95 : Ch [] _w_64 _w_94 := (_S_92.trans _cw_94)
        refine ⟨_S_95, ?_⟩
        refine DR_one 12 (by kernel_rfl) ?_
        refine DO_s rfl rfl rfl ?_
        have _f_96 := ((_m8.ch0 _cw_91).ch0 _cw_94)
        refine s_storeA (off := 0) 1 _f_96 sz29 rfl (us := [(.slice _Au42 (catE (derT letter ta) tb.flat).length _Cu42)]) rfl rfl rfl rfl fun _w_97 _m_98 _cw_97 => ?_
        have _cw_97z := _cw_97.size
        have E := E.step _cw_97 (fun i hi => .inl (by have _h1 := List.mem_singleton.1 hi; omega))
        replace _m_98 : Blk _w_97 _b8 29 [(.slice _Au42 (catE (derT letter ta) tb.flat).length _Cu42)] := _m_98
        have _S_99 : Ch [] _w_64 _w_97 := (_S_95.step _cw_97 (fun i hm => by have _h0 := List.mem_singleton.1 hm; left; omega))
        refine ⟨_S_99, ?_⟩
        refine DR_done (by kernel_rfl) ?_
        refine thn_nrm ?_
        have _f_100 := (_q42.ch _cw_97 (fun g hg hm => by have _h0 := List.mem_singleton.1 hm; have _h2 := _lo42 _ hg; have _h3 := _hiu42 _ hg; omega))
        exact _J_36 _ _ _b8 (.slice _Au42 (catE (derT letter ta) tb.flat).length _Cu42) (Sub.cons rfl (Sub.cons rfl (Sub.cons rfl (Sub.cons rfl (Sub.cons rfl (Sub.cons rfl (Sub.cons rfl (Sub.cons rfl (Sub.nil _))))))))) ((((((Ch.refl [] _w_33).trans _cw_64).trans _cw_88).trans _cw_91).trans _cw_94).step _cw_97 (fun i hi => .inl (by have _h1 := List.mem_singleton.1 hi; omega))) _f_100 (Lo.down _lo42 (by omega)) _m_98 (by omega) (fun hm => by have _h1 := _lo42 _ hm; have _h2 := _hiu42 _ hm; omega)
    · have _kb_30 := _h26
      have _h26 := bf_d _h26
      refine W_seq fun _K_101 _hK_101 => ?_
      refine W_region ?_
      refine WL_step rfl rfl (r_eql rfl rfl) ?_
      refine WL_step rfl rfl (r_assign rfl) ?_
      refine WL_nil ?_
      refine thn_nrm (_hK_101 _ _ ?_)
      clear _hK_101
      refine W_cond rfl (fun _h56 => ?_) (fun _h56 => ?_)
      · have _kb_102 := _h56
        have _h56 := bt_d _h56
        obtain ⟨ta, tb, et, oa, ob, hla, hn2⟩ := hok.k2 (by omega) _ht hl
        have _hk0 : t.kids[0]? = some ta := by rw [et]; rfl
        have _hk1 : t.kids[1]? = some tb := by rw [et]; rfl
        have ga := ta.flat_len
        have gb := tb.flat_len
        have da := derT_le letter ta (by omega)
        have db := derT_le letter tb (by omega)
        refine W_seq fun _K_103 _hK_103 => ?_
        refine W_region ?_
        refine WL_step rfl rfl (r_move rfl) ?_
        refine WL_step rfl rfl (r_move rfl) ?_
        refine WL_s rfl rfl ?_
        have _f_104 := ((_f_5.ch0 _cw_6).ch _cw_7 (fun i hi => by have _h1 := List.mem_singleton.1 hi; omega))
        refine (s_cut (ys := (ta.flat ++ tb.flat)) 0 ((((l.length : Nat) : Int) - 1).toNat) _f_104 Token.len el27 sz57 rfl rfl ⟨_, _, rfl, by omega⟩ (by omega) (by omega) (show l.take _ = _ from cut_ab hla (by omega)) fun _v60 _q60 _bb60 _ln60 => ?_)
        obtain ⟨_A60, _C60, _e60⟩ := _q60.val
        subst _e60
        have _l60 := _q60.len
        refine WL_s rfl rfl ?_
        refine Step.call (r_call (xs := [.tmp 60]) fk56 rfl) (c_spec_l8Start _q60 ta.flat tb ob rfl) fun _v61 _w_105 _q61 => ?_
        obtain ⟨rfl, _cw_105⟩ := _q61
        have _cw_105z := _cw_105.size
        have E := E.trans _cw_105
        refine WL_step rfl rfl (r_assign rfl) ?_
        refine WL_nil ?_
        refine thn_nrm (_hK_103 _ _ ?_)
        clear _hK_103
        refine W_seq fun _K_106 _hK_106 => ?_
        refine W_drawC [_b4] 13 mixed rfl fun _w_107 _cw_107 => ?_
        have _cw_107z := _cw_107.size
        have E := E.trans _cw_107
        refine DR_s 0 rfl (by kernel_rfl) rfl rfl (t_v (fun _ => (r_move rfl)) ?_)
        refine DR_s 1 rfl (by kernel_rfl) rfl rfl (t_v (fun _ => (r_move rfl)) ?_)
        have _f_108 := ((_f_104.ch0 _cw_105).ch0 _cw_107)
        refine DR_s 2 rfl (by kernel_rfl) rfl rfl (t_cut (ys := ta.flat) 0 ta.flat.length _f_108 Token.len el27 sz57 rfl rfl ⟨_, _, rfl, by omega⟩ (by omega) (by omega) (show l.take _ = _ from cut_a hla (by omega)) fun _v64 _q64 _bb64 _ln64 => ?_)
        obtain ⟨_A64, _C64, _e64⟩ := _q64.val
        subst _e64
        have _l64 := _q64.len
        refine DR_s 3 rfl (by kernel_rfl) rfl rfl (t_v (fun _ => (r_move rfl)) ?_)
        refine DR_s 5 rfl (by kernel_rfl) rfl rfl (t_v (fun _ => (r_move rfl)) ?_)
        refine DR_s 6 rfl (by kernel_rfl) rfl rfl (t_v (fun _ => (r_move rfl)) ?_)
        refine DR_s 7 rfl (by kernel_rfl) rfl rfl (t_v (fun _ => (r_move rfl)) ?_)
        refine DR_s 8 rfl (by kernel_rfl) rfl rfl (t_cut (ys := tb.flat) ta.flat.length ((((l.length : Nat) : Int) - 1).toNat) _f_108 Token.len el27 sz57 rfl ⟨_, _, rfl, by omega⟩ ⟨_, _, rfl, by omega⟩ (by omega) (by omega) (cut_b hla (by omega) (by omega)) fun _v70 _q70 _bb70 _ln70 => ?_)
        obtain ⟨_A70, _C70, _e70⟩ := _q70.val
        subst _e70
        have _l70 := _q70.len
        refine DR_s 9 rfl (by kernel_rfl) rfl rfl (t_v (fun _ => (r_move rfl)) ?_)
        refine DR_one 4 (by kernel_rfl) ?_
        refine DO_s rfl rfl rfl ?_
        refine Step.call (r_call (xs := [.tmp 64, .tmp 65]) fk63 rfl) (ih _q64 _ ta oa rfl (by omega) (by omega)) fun _v66 _w_109 _q66 => ?_
        obtain ⟨_u66, rfl, _q66, _lo66, _cw_109⟩ := _q66
        have _cw_109z := _cw_109.size
        have E := E.trans _cw_109
        obtain ⟨_Au66, _Cu66, _eu66⟩ := _q66.val
        subst _eu66
        have _lu66 := _q66.len
        have _hiu66 := _q66.lt
        have _S_110 : Ch [_b4] _w_107 _w_109 := ((Ch.refl _ _).trans _cw_109.of_nil)
        refine ⟨_S_110, ?_⟩
        refine DR_one 10 (by kernel_rfl) ?_
        refine DO_s rfl rfl rfl ?_
        have _f_111 := (_q70.ch0 _cw_109)
        refine Step.call (r_call (xs := [.tmp 70, .tmp 71]) fk63 rfl) (ih _f_111 _ tb ob rfl (by omega) (by omega)) fun _v72 _w_112 _q72 => ?_
        obtain ⟨_u72, rfl, _q72, _lo72, _cw_112⟩ := _q72
        have _cw_112z := _cw_112.size
        have E := E.trans _cw_112
        obtain ⟨_Au72, _Cu72, _eu72⟩ := _q72.val
        subst _eu72
        have _lu72 := _q72.len
        have _hiu72 := _q72.lt
        have _S_113 : Ch [_b4] _w_107 _w_112 := (_S_110.trans _cw_112.of_nil)
        refine ⟨_S_113, ?_⟩
        refine DR_one 11 (by kernel_rfl) ?_
        refine DO_s rfl rfl rfl ?_
        have _f_114 := (_q66.ch0 _cw_112)
        refine Step.call (r_call (xs := [.tmp 66, .tmp 72]) fk90 rfl) (c_spec_UnionExpr _f_114.ls _q72.ls (by omega)) fun _v73 _w_115 _q73 => ?_
        obtain ⟨_u73, rfl, _q73, _lo73, _cw_115⟩ := _q73
        have _cw_115z := _cw_115.size
        have E := E.trans _cw_115
        obtain ⟨_Au73, _Cu73, _eu73⟩ := _q73.val
        subst _eu73
        have _lu73 := _q73.len
        have _hiu73 := _q73.lt
        have _S_116 : Ch [_b4] _w_107 _w_115 := (_S_113.trans _cw_115.of_nil)
        refine ⟨_S_116, ?_⟩
        refine DR_one 12 (by kernel_rfl) ?_
        refine DO_s rfl rfl rfl ?_
        have _f_117 := (((((((_m4.ch0 _cw_6).ch _cw_7 (fun hm => by have _h1 := List.mem_singleton.1 hm; omega)).ch0 _cw_105).ch0 _cw_107).ch0 _cw_109).ch0 _cw_112).ch0 _cw_115)
        refine s_storeA (off := 0) 1 _f_117 sz29 rfl (us := [(.slice _Au73 (uniE (derT letter ta) (derT letter tb)).length _Cu73)]) rfl rfl rfl rfl fun _w_118 _m_119 _cw_118 => ?_
        have _cw_118z := _cw_118.size
        have E := E.step _cw_118 (fun i hi => .inl (by have _h1 := List.mem_singleton.1 hi; omega))
        replace _m_119 : Blk _w_118 _b4 29 [(.slice _Au73 (uniE (derT letter ta) (derT letter tb)).length _Cu73)] := _m_119
        have _S_120 : Ch [_b4] _w_107 _w_118 := (_S_116.step _cw_118 (fun i hm => by have _h0 := List.mem_singleton.1 hm; exact .inr (by rw [_h0]; exact (List.mem_singleton.2 rfl))))
        refine ⟨_S_120, ?_⟩
        refine DR_done (by kernel_rfl) ?_
        refine thn_nrm (_hK_106 _ _ ?_)
        clear _hK_106
        refine W_ret (inB_ret (thn_ret ?_))
        clear _hK_9
        have _f_122 := (_q73.ch _cw_118 (fun g hg hm => by have _h0 := List.mem_singleton.1 hm; have _h2 := _lo73 _ hg; have _h3 := _hiu73 _ hg; omega))
        have _o_121 : Ol Token.cs 57 4 _w_118 (.slice _Au73 (uniE (derT letter ta) (derT letter tb)).length _Cu73) (derT letter t) := by
          have hx := _f_122
          exact hx.eq (by first | exact der3 hok (by omega) (by omega) | exact der0 hok (by omega) (by omega) | exact der4t hok (by omega) _hk0 _hk1 _h46 | exact der4f hok (by omega) _hk0 _hk1 _h46 | exact der5 hok (by omega) _hk0 _hk1 | (rw [hl]; exact der6 hok (by omega) _hk0) | (rw [_ht]; exact der7 hok (by omega) _hk0))
        exact ret_intro [_] (resOf_loadA _m_119 rfl agg29 sz29 trivial) ⟨_, rfl, _o_121, Lo.down _lo73 (by omega), E⟩
      · have _kb_102 := _h56
        have _h56 := bf_d _h56
        refine W_seq fun _K_123 _hK_123 => ?_
        refine W_region ?_
        refine WL_step rfl rfl (r_eql rfl rfl) ?_
        refine WL_step rfl rfl (r_assign rfl) ?_
        refine WL_nil ?_
        refine thn_nrm (_hK_123 _ _ ?_)
        clear _hK_123
        refine W_cond rfl (fun _h74 => ?_) (fun _h74 => ?_)
        · have _kb_124 := _h74
          have _h74 := bt_d _h74
          obtain ⟨ta, et, oa, hla, hn2⟩ := hok.k1 (by omega) _ht hl
          have _hk0 : t.kids[0]? = some ta := by rw [et]; rfl
          have ga := ta.flat_len
          have da := derT_le letter ta (by omega)
          refine W_seq fun _K_125 _hK_125 => ?_
          refine W_region ?_
          refine WL_step rfl rfl (r_move rfl) ?_
          refine WL_step rfl rfl (r_move rfl) ?_
          refine WL_s rfl rfl ?_
          have _f_126 := ((_f_5.ch0 _cw_6).ch _cw_7 (fun i hi => by have _h1 := List.mem_singleton.1 hi; omega))
          refine (s_cut (ys := ta.flat) 0 ((((l.length : Nat) : Int) - 1).toNat) _f_126 Token.len el27 sz57 rfl rfl ⟨_, _, rfl, by omega⟩ (by omega) (by omega) (show l.take _ = _ from cut_1 hla (by omega)) fun _v78 _q78 _bb78 _ln78 => ?_)
          obtain ⟨_A78, _C78, _e78⟩ := _q78.val
          subst _e78
          have _l78 := _q78.len
          refine WL_step rfl rfl (r_move rfl) ?_
          refine WL_s rfl rfl ?_
          refine Step.call (r_call (xs := [.tmp 78, .tmp 79]) fk63 rfl) (ih _q78 _ ta oa rfl (by omega) (by omega)) fun _v80 _w_127 _q80 => ?_
          obtain ⟨_u80, rfl, _q80, _lo80, _cw_127⟩ := _q80
          have _cw_127z := _cw_127.size
          have E := E.trans _cw_127
          obtain ⟨_Au80, _Cu80, _eu80⟩ := _q80.val
          subst _eu80
          have _lu80 := _q80.len
          have _hiu80 := _q80.lt
          refine WL_step rfl rfl (r_move rfl) ?_
          refine WL_step rfl rfl (r_build (parts := [(0, .tmp 81)]) (cells := [(.slice _A_l l.length _C_l)]) zr29 pl29 rfl rfl) ?_
          refine WL_s rfl rfl ?_
          have _f_128 := (_f_126.ch0 _cw_127)
          refine Step.call (r_call (xs := [.tmp 80, .tmp 82]) fk89 rfl) (c_spec_ConcatExpr _q80.ls _f_128 (by omega)) fun _v83 _w_129 _q83 => ?_
          obtain ⟨_u83, rfl, _q83, _lo83, _cw_129⟩ := _q83
          have _cw_129z := _cw_129.size
          have E := E.trans _cw_129
          obtain ⟨_Au83, _Cu83, _eu83⟩ := _q83.val
          subst _eu83
          have _lu83 := _q83.len
          have _hiu83 := _q83.lt
          refine WL_s rfl rfl ?_
          have _f_130 := ((((_m4.ch0 _cw_6).ch _cw_7 (fun hm => by have _h1 := List.mem_singleton.1 hm; omega)).ch0 _cw_127).ch0 _cw_129)
          refine s_storeA (off := 0) 1 _f_130 sz29 rfl (us := [(.slice _Au83 (catE (derT letter ta) l).length _Cu83)]) rfl rfl rfl rfl fun _w_131 _m_132 _cw_131 => ?_
          have _cw_131z := _cw_131.size
          have E := E.step _cw_131 (fun i hi => .inl (by have _h1 := List.mem_singleton.1 hi; omega))
          replace _m_132 : Blk _w_131 _b4 29 [(.slice _Au83 (catE (derT letter ta) l).length _Cu83)] := _m_132
          refine WL_nil ?_
          refine thn_nrm (_hK_125 _ _ ?_)
          clear _hK_125
          refine W_ret (inB_ret (thn_ret ?_))
          clear _hK_9
          have _f_134 := (_q83.ch _cw_131 (fun g hg hm => by have _h0 := List.mem_singleton.1 hm; have _h2 := _lo83 _ hg; have _h3 := _hiu83 _ hg; omega))
          have _o_133 : Ol Token.cs 57 4 _w_131 (.slice _Au83 (catE (derT letter ta) l).length _Cu83) (derT letter t) := by
            have hx := _f_134
            exact hx.eq (by first | exact der3 hok (by omega) (by omega) | exact der0 hok (by omega) (by omega) | exact der4t hok (by omega) _hk0 _hk1 _h46 | exact der4f hok (by omega) _hk0 _hk1 _h46 | exact der5 hok (by omega) _hk0 _hk1 | (rw [hl]; exact der6 hok (by omega) _hk0) | (rw [_ht]; exact der7 hok (by omega) _hk0))
          exact ret_intro [_] (resOf_loadA _m_132 rfl agg29 sz29 trivial) ⟨_, rfl, _o_133, Lo.down _lo83 (by omega), E⟩
        · have _kb_124 := _h74
          have _h74 := bf_d _h74
          refine W_seq fun _K_135 _hK_135 => ?_
          refine W_region ?_
          refine WL_step rfl rfl (r_eql rfl rfl) ?_
          refine WL_step rfl rfl (r_assign rfl) ?_
          refine WL_nil ?_
          refine thn_nrm (_hK_135 _ _ ?_)
          clear _hK_135
          refine W_cond rfl (fun _h84 => ?_) (fun _h84 => ?_)
          · have _kb_136 := _h84
            have _h84 := bt_d _h84
            obtain ⟨ta, et, oa, hla, hn2⟩ := hok.k1 (by omega) _ht hl
            have _hk0 : t.kids[0]? = some ta := by rw [et]; rfl
            have ga := ta.flat_len
            have da := derT_le letter ta (by omega)
            have r7 := hok.r7 (by omega)
            refine W_seq fun _K_137 _hK_137 => ?_
            refine W_drawC [_b4] 19 mixed rfl fun _w_138 _cw_138 => ?_
            have _cw_138z := _cw_138.size
            have E := E.trans _cw_138
            refine DR_s 0 rfl (by kernel_rfl) rfl rfl (t_v (fun _ => (r_move rfl)) ?_)
            refine DR_s 1 rfl (by kernel_rfl) rfl rfl (t_v (fun _ => (r_move rfl)) ?_)
            have _f_139 := (((_f_5.ch0 _cw_6).ch _cw_7 (fun i hi => by have _h1 := List.mem_singleton.1 hi; omega)).ch0 _cw_138)
            refine DR_s 2 rfl (by kernel_rfl) rfl rfl (t_cut (ys := ta.flat) 0 ((((l.length : Nat) : Int) - 1).toNat) _f_139 Token.len el27 sz57 rfl rfl ⟨_, _, rfl, by omega⟩ (by omega) (by omega) (show l.take _ = _ from cut_1 hla (by omega)) fun _v88 _q88 _bb88 _ln88 => ?_)
            obtain ⟨_A88, _C88, _e88⟩ := _q88.val
            subst _e88
            have _l88 := _q88.len
            refine DR_s 3 rfl (by kernel_rfl) rfl rfl (t_v (fun _ => (r_move rfl)) ?_)
            refine DR_s 5 rfl (by kernel_rfl) rfl rfl (t_v (fun _ => (r_move rfl)) ?_)
            refine DR_s 6 rfl (by kernel_rfl) rfl rfl (t_v (fun _ => (r_move rfl)) ?_)
            refine DR_s 7 rfl (by kernel_rfl) rfl rfl (t_cut (ys := ta.flat) 0 ((((l.length : Nat) : Int) - 1).toNat) _f_139 Token.len el27 sz57 rfl rfl ⟨_, _, rfl, by omega⟩ (by omega) (by omega) (show l.take _ = _ from cut_1 hla (by omega)) fun _v93 _q93 _bb93 _ln93 => ?_)
            obtain ⟨_A93, _C93, _e93⟩ := _q93.val
            subst _e93
            have _l93 := _q93.len
            refine DR_s 8 rfl (by kernel_rfl) rfl rfl (t_v (fun _ => (r_build (parts := [(0, .tmp 93)]) (cells := [(.slice _A93 (ta.flat).length _C93)]) zr29 pl29 rfl rfl)) ?_)
            refine DR_s 9 rfl (by kernel_rfl) rfl rfl (t_v (fun _ => (r_fieldAddr fa57_2 rfl)) ?_)
            have _f_140 := (_m_8.ch0 _cw_138)
            refine DR_s 10 rfl (by kernel_rfl) rfl rfl (t_loadAt _f_140.at_ (fun i hm => by have _h1 := List.mem_singleton.1 hm; omega) agg3 rfl rfl ?_)
            refine DR_s 11 rfl (by kernel_rfl) rfl rfl (t_v (fun _ => (r_sub (by omega) rfl rfl)) ?_)
            refine DR_s 12 rfl (by kernel_rfl) rfl rfl (t_v (fun _ => (r_max rfl rfl)) ?_)
            refine DR_s 13 rfl (by kernel_rfl) rfl rfl (t_v (fun _ => (r_fieldAddr fa57_3 rfl)) ?_)
            refine DR_s 14 rfl (by kernel_rfl) rfl rfl (t_loadAt _f_140.at_ (fun i hm => by have _h1 := List.mem_singleton.1 hm; omega) agg3 rfl rfl ?_)
            refine DR_s 15 rfl (by kernel_rfl) rfl rfl (t_v (fun _ => (r_sub (by omega) rfl rfl)) ?_)
            refine DR_one 4 (by kernel_rfl) ?_
            refine DO_s rfl rfl rfl ?_
            refine Step.call (r_call (xs := [.tmp 88, .tmp 89]) fk63 rfl) (ih _q88 _ ta oa rfl (by omega) (by omega)) fun _v90 _w_141 _q90 => ?_
            obtain ⟨_u90, rfl, _q90, _lo90, _cw_141⟩ := _q90
            have _cw_141z := _cw_141.size
            have E := E.trans _cw_141
            obtain ⟨_Au90, _Cu90, _eu90⟩ := _q90.val
            subst _eu90
            have _lu90 := _q90.len
            have _hiu90 := _q90.lt
            have _S_142 : Ch [_b4] _w_138 _w_141 := ((Ch.refl _ _).trans _cw_141.of_nil)
            refine ⟨_S_142, ?_⟩
            refine DR_one 16 (by kernel_rfl) ?_
            refine DO_s rfl rfl rfl ?_
            have _f_143 := (_q93.ch0 _cw_141)
            refine Step.call (r_call (xs := [.tmp 94, .tmp 98, .tmp 101]) fk91 rfl) (c_spec_RepeatExpr _f_143 _ _ (by omega)) fun _v102 _w_144 _q102 => ?_
            obtain ⟨_u102, rfl, _q102, _lo102, _cw_144⟩ := _q102
            have _cw_144z := _cw_144.size
            have E := E.trans _cw_144
            obtain ⟨_Au102, _Cu102, _eu102⟩ := _q102.val
            subst _eu102
            have _lu102 := _q102.len
            have _hiu102 := _q102.lt
            have _S_145 : Ch [_b4] _w_138 _w_144 := (_S_142.trans _cw_144.of_nil)
            refine ⟨_S_145, ?_⟩
            refine DR_one 17 (by kernel_rfl) ?_
            refine DO_s rfl rfl rfl ?_
            have _f_146 := (_q90.ch0 _cw_144)
            refine Step.call (r_call (xs := [.tmp 90, .tmp 102]) fk89 rfl) (c_spec_ConcatExpr _f_146.ls _q102.ls (by have _h169 := repE_len ta.flat (if (_y15.low - 1) > 0 then (_y15.low - 1) else 0) (_y15.high - 1); omega)) fun _v103 _w_147 _q103 => ?_
            obtain ⟨_u103, rfl, _q103, _lo103, _cw_147⟩ := _q103
            have _cw_147z := _cw_147.size
            have E := E.trans _cw_147
            obtain ⟨_Au103, _Cu103, _eu103⟩ := _q103.val
            subst _eu103
            have _lu103 := _q103.len
            have _hiu103 := _q103.lt
            have _S_148 : Ch [_b4] _w_138 _w_147 := (_S_145.trans _cw_147.of_nil)
            refine ⟨_S_148, ?_⟩
            refine DR_one 18 (by kernel_rfl) ?_
            refine DO_s rfl rfl rfl ?_
            have _f_149 := ((((((_m4.ch0 _cw_6).ch _cw_7 (fun hm => by have _h1 := List.mem_singleton.1 hm; omega)).ch0 _cw_138).ch0 _cw_141).ch0 _cw_144).ch0 _cw_147)
            refine s_storeA (off := 0) 1 _f_149 sz29 rfl (us := [(.slice _Au103 (catE (derT letter ta) (repE ta.flat (if (_y15.low - 1) > 0 then (_y15.low - 1) else 0) (_y15.high - 1))).length _Cu103)]) rfl rfl rfl rfl fun _w_150 _m_151 _cw_150 => ?_
            have _cw_150z := _cw_150.size
            have E := E.step _cw_150 (fun i hi => .inl (by have _h1 := List.mem_singleton.1 hi; omega))
            replace _m_151 : Blk _w_150 _b4 29 [(.slice _Au103 (catE (derT letter ta) (repE ta.flat (if (_y15.low - 1) > 0 then (_y15.low - 1) else 0) (_y15.high - 1))).length _Cu103)] := _m_151
            have _S_152 : Ch [_b4] _w_138 _w_150 := (_S_148.step _cw_150 (fun i hm => by have _h0 := List.mem_singleton.1 hm; exact .inr (by rw [_h0]; exact (List.mem_singleton.2 rfl))))
            refine ⟨_S_152, ?_⟩
            refine DR_done (by kernel_rfl) ?_
            refine thn_nrm (_hK_137 _ _ ?_)
            clear _hK_137
            refine W_ret (inB_ret (thn_ret ?_))
            clear _hK_9
            have _f_154 := (_q103.ch _cw_150 (fun g hg hm => by have _h0 := List.mem_singleton.1 hm; have _h2 := _lo103 _ hg; have _h3 := _hiu103 _ hg; omega))
            have _o_153 : Ol Token.cs 57 4 _w_150 (.slice _Au103 (catE (derT letter ta) (repE ta.flat (if (_y15.low - 1) > 0 then (_y15.low - 1) else 0) (_y15.high - 1))).length _Cu103) (derT letter t) := by
              have hx := _f_154
              exact hx.eq (by first | exact der3 hok (by omega) (by omega) | exact der0 hok (by omega) (by omega) | exact der4t hok (by omega) _hk0 _hk1 _h46 | exact der4f hok (by omega) _hk0 _hk1 _h46 | exact der5 hok (by omega) _hk0 _hk1 | (rw [hl]; exact der6 hok (by omega) _hk0) | (rw [_ht]; exact der7 hok (by omega) _hk0))
            exact ret_intro [_] (resOf_loadA _m_151 rfl agg29 sz29 trivial) ⟨_, rfl, _o_153, Lo.down _lo103 (by omega), E⟩
          · have _kb_136 := _h84
            have _h84 := bf_d _h84
            refine W_skip ?_
            refine inB_nrm ?_
            refine thn_nrm (_hK_9 _ _ ?_)
            clear _hK_9
            refine W_seq fun _K_155 _hK_155 => ?_
            refine W_region ?_
            refine WL_s rfl rfl ?_
            refine Step.call (r_call (xs := [.const (Go.Value.int Go.IntKind.i64 1)]) fk88 rfl) (c_spec_l8Leaf _ ) fun _v104 _w_156 _q104 => ?_
            obtain ⟨_u104, rfl, _q104, _lo104, _cw_156⟩ := _q104
            have _cw_156z := _cw_156.size
            have E := E.trans _cw_156
            obtain ⟨_Au104, _Cu104, _eu104⟩ := _q104.val
            subst _eu104
            have _lu104 := _q104.len
            have _hiu104 := _q104.lt
            refine WL_s rfl rfl ?_
            have _f_157 := (((_m4.ch0 _cw_6).ch _cw_7 (fun hm => by have _h1 := List.mem_singleton.1 hm; omega)).ch0 _cw_156)
            refine s_storeA (off := 0) 1 _f_157 sz29 rfl (us := [(.slice _Au104 ([(⟨1, 0, 0, 0⟩ : Token)]).length _Cu104)]) rfl rfl rfl rfl fun _w_158 _m_159 _cw_158 => ?_
            have _cw_158z := _cw_158.size
            have E := E.step _cw_158 (fun i hi => .inl (by have _h1 := List.mem_singleton.1 hi; omega))
            replace _m_159 : Blk _w_158 _b4 29 [(.slice _Au104 ([(⟨1, 0, 0, 0⟩ : Token)]).length _Cu104)] := _m_159
            refine WL_nil ?_
            refine thn_nrm (_hK_155 _ _ ?_)
            clear _hK_155
            refine W_ret ?_
            have _f_161 := (_q104.ch _cw_158 (fun g hg hm => by have _h0 := List.mem_singleton.1 hm; have _h2 := _lo104 _ hg; have _h3 := _hiu104 _ hg; omega))
            have _o_160 : Ol Token.cs 57 4 _w_158 (.slice _Au104 ([(⟨1, 0, 0, 0⟩ : Token)]).length _Cu104) (derT letter t) := by
              have hx := _f_161
              exact hx.eq (by first | exact der3 hok (by omega) (by omega) | exact der0 hok (by omega) (by omega) | exact der4t hok (by omega) _hk0 _hk1 _h46 | exact der4f hok (by omega) _hk0 _hk1 _h46 | exact der5 hok (by omega) _hk0 _hk1 | (rw [hl]; exact der6 hok (by omega) _hk0) | (rw [_ht]; exact der7 hok (by omega) _hk0))
            exact ret_intro [_] (resOf_loadA _m_159 rfl agg29 sz29 trivial) ⟨_, rfl, _o_160, Lo.down _lo104 (by omega), E⟩
theorem c_spec_l9Deriv {w : World} {LL_l _B_l : Nat} {_v_l : Value} {l : List Token} (_h_l : Ls Token.cs 4 w LL_l _B_l _v_l l) (letter : Int) (t : Tr) (hok : Okd t) (hl : l = t.flat) (hb : l.length ≤ 400) :
    Ctr Try.prog 63 #[_v_l, (.int .i64 letter)] w (fun v w' => ∃ u, v = .agg #[u] ∧ Ol Token.cs 57 4 w' u (derT letter t) ∧ Lo w.heap.size u ∧ Ch [] w w') := c_spec_l9Deriv_n _ _h_l letter t hok hl hb (Nat.lt_succ_self _)

/-- spec.Derivative -/
theorem c_spec_Derivative {w : World} {LL_e _B_e : Nat} {_v_e : Value} {e : List Token} (_h_e : Ls Token.cs 4 w LL_e _B_e _v_e e) (letter : Int) :
    Ctr Try.prog 29 #[(.agg #[_v_e]), (.int .i64 letter)] w (fun v w' => ∃ (u0x0 : Value), v = .tuple #[.agg #[u0x0], .bool ((derE e letter).2)] ∧ Ol Token.cs 57 4 w' u0x0 ((derE e letter).1) ∧ Lo w.heap.size u0x0 ∧ Ch [] w w') := by
  obtain ⟨_A_e, _C_e, _e1_e⟩ := _h_e.val
  subst _e1_e
  have _l_e := _h_e.len
  have _h_e := _h_e.here (by decide)
  have E := Ch.refl [] w
  refine Ctr_of_W (N := 32) (vs0 := [(.agg #[(.slice _A_e e.length _C_e)]), (.int .i64 letter)]) Try.func29 rfl rfl rfl ?_
  refine W_seq fun _K_1 _hK_1 => ?_
  refine W_region ?_
  refine WL_s rfl rfl ?_
  refine s_box rfl fun _b2 _w_2 _m2 _cw_2 _e2 => ?_
  have _cw_2z := _cw_2.size
  have E := E.trans _cw_2
  have _z2 := _m2.lt
  replace _m2 : Blk _w_2 _b2 29 [(.slice _A_e e.length _C_e)] := _m2
  refine WL_s rfl rfl ?_
  refine s_alloc zr29 fun _b4 _w_3 _m4 _cw_3 _e4 => ?_
  have _cw_3z := _cw_3.size
  have E := E.trans _cw_3
  have _z4 := _m4.lt
  replace _m4 : Blk _w_3 _b4 29 [(.slice none 0 0)] := _m4
  refine WL_step rfl rfl (r_assign rfl) ?_
  refine WL_nil ?_
  refine thn_nrm (_hK_1 _ _ ?_)
  clear _hK_1
  refine W_seq fun _K_4 _hK_4 => ?_
  refine W_seq fun _K_5 _hK_5 => ?_
  refine W_region ?_
  have _f_6 := (_m2.ch0 _cw_3)
  refine WL_step rfl rfl (r_loadAtA0 _f_6.at_ agg29 sz29 rfl) ?_
  refine WL_s rfl rfl ?_
  have _f_7 := ((_h_e.ch0 _cw_2).ch0 _cw_3)
  refine Step.call (r_call (xs := [.tmp 7]) fk15 rfl) (c_spec_IsExpr _f_7 ) fun _v8 _w_8 _q8 => ?_
  obtain ⟨rfl, _cw_8⟩ := _q8
  have _cw_8z := _cw_8.size
  have E := E.trans _cw_8
  refine WL_step rfl rfl (r_not rfl) ?_
  refine WL_step rfl rfl (r_move rfl) ?_
  refine WL_split (d := 10) rfl (fun _h10 => ?_) (fun _h10 => ?_)
  · have _kb_9 := _h10
    have _h10 := bt_n _h10
    refine WL_skip rfl rfl ?_
    refine WL_skip rfl rfl ?_
    refine WL_skip rfl rfl ?_
    refine WL_skip rfl rfl ?_
    refine WL_step rfl rfl (r_pickT rfl rfl) ?_
    refine WL_step rfl rfl (r_move rfl) ?_
    refine WL_skip rfl rfl ?_
    refine WL_skip rfl rfl ?_
    refine WL_skip rfl rfl ?_
    refine WL_step rfl rfl (r_pickT rfl rfl) ?_
    refine WL_nil ?_
    refine thn_nrm (_hK_5 _ _ ?_)
    clear _hK_5
    refine W_condT rfl ?_
    refine W_seq fun _K_10 _hK_10 => ?_
    refine W_region ?_
    refine WL_step rfl rfl (r_build (parts := []) (cells := [(.slice none 0 0)]) zr29 pl29 rfl rfl) ?_
    refine WL_s rfl rfl ?_
    have _f_11 := (_m4.ch0 _cw_8)
    refine s_storeA (off := 0) 1 _f_11 sz29 rfl (us := [(.slice none 0 0)]) rfl rfl rfl rfl fun _w_12 _m_13 _cw_12 => ?_
    have _cw_12z := _cw_12.size
    have E := E.step _cw_12 (fun i hi => .inl (by have _h1 := List.mem_singleton.1 hi; omega))
    replace _m_13 : Blk _w_12 _b4 29 [(.slice none 0 0)] := _m_13
    refine WL_step rfl rfl (r_assign rfl) ?_
    refine WL_nil ?_
    refine thn_nrm (_hK_10 _ _ ?_)
    clear _hK_10
    refine W_ret (thn_ret ?_)
    clear _hK_4
    have _o_14 : Ol Token.cs 57 4 _w_12 (.slice none 0 0) ((derE e letter).1) := by
      have hx := (Ol.nil (cs := Token.cs) (e := 57) (k := 4) _w_12)
      first | (rw [derE_n1 (isE_n _h10)]; exact hx) | (rw [derE_n2 (by omega)]; exact hx) | (rw [derE_n3 _e5 (by omega)]; exact hx) | (rw [derE_y _e5 (by omega) (by omega) (by omega)]; exact hx)
    exact ret_intro [_, _] (resOf_loadA _m_13 rfl agg29 sz29 ⟨rfl, trivial⟩) ⟨(.slice none 0 0), (congrArg (fun zq => (Value.tuple #[.agg #[(.slice none 0 0)], .bool zq])) (by first | (rw [derE_n1 (isE_n _h10)]; done) | (rw [derE_n2 (by omega)]; done) | (rw [derE_n3 _e5 (by omega)]; done) | (rw [derE_y _e5 (by omega) (by omega) (by omega)]; done))), _o_14, (Lo.nil _), E⟩
  · have _kb_9 := _h10
    have _h10 := bf_n _h10
    obtain ⟨_t5, _e5, hok, hl⟩ := isE_y _h10
    refine WL_step rfl rfl (r_fieldAddr fa29_0 rfl) ?_
    have _f_15 := (_f_6.ch0 _cw_8)
    refine WL_step rfl rfl (r_loadAt _f_15.at_ agg27 rfl rfl) ?_
    refine WL_step rfl rfl (r_len (by rw [el27]; rfl) rfl) ?_
    refine WL_step rfl rfl (r_gtr rfl rfl) ?_
    refine WL_step rfl rfl (r_pickF rfl rfl) ?_
    refine WL_step rfl rfl (r_move rfl) ?_
    refine WL_split (d := 16) rfl (fun _h16 => ?_) (fun _h16 => ?_)
    · have _kb_16 := _h16
      have _h16 := bt_d _h16
      refine WL_skip rfl rfl ?_
      refine WL_skip rfl rfl ?_
      refine WL_skip rfl rfl ?_
      refine WL_step rfl rfl (r_pickT rfl rfl) ?_
      refine WL_nil ?_
      refine thn_nrm (_hK_5 _ _ ?_)
      clear _hK_5
      refine W_condT rfl ?_
      refine W_seq fun _K_17 _hK_17 => ?_
      refine W_region ?_
      refine WL_step rfl rfl (r_build (parts := []) (cells := [(.slice none 0 0)]) zr29 pl29 rfl rfl) ?_
      refine WL_s rfl rfl ?_
      have _f_18 := (_m4.ch0 _cw_8)
      refine s_storeA (off := 0) 1 _f_18 sz29 rfl (us := [(.slice none 0 0)]) rfl rfl rfl rfl fun _w_19 _m_20 _cw_19 => ?_
      have _cw_19z := _cw_19.size
      have E := E.step _cw_19 (fun i hi => .inl (by have _h1 := List.mem_singleton.1 hi; omega))
      replace _m_20 : Blk _w_19 _b4 29 [(.slice none 0 0)] := _m_20
      refine WL_step rfl rfl (r_assign rfl) ?_
      refine WL_nil ?_
      refine thn_nrm (_hK_17 _ _ ?_)
      clear _hK_17
      refine W_ret (thn_ret ?_)
      clear _hK_4
      have _o_21 : Ol Token.cs 57 4 _w_19 (.slice none 0 0) ((derE e letter).1) := by
        have hx := (Ol.nil (cs := Token.cs) (e := 57) (k := 4) _w_19)
        first | (rw [derE_n1 (isE_n _h10)]; exact hx) | (rw [derE_n2 (by omega)]; exact hx) | (rw [derE_n3 _e5 (by omega)]; exact hx) | (rw [derE_y _e5 (by omega) (by omega) (by omega)]; exact hx)
      exact ret_intro [_, _] (resOf_loadA _m_20 rfl agg29 sz29 ⟨rfl, trivial⟩) ⟨(.slice none 0 0), (congrArg (fun zq => (Value.tuple #[.agg #[(.slice none 0 0)], .bool zq])) (by first | (rw [derE_n1 (isE_n _h10)]; done) | (rw [derE_n2 (by omega)]; done) | (rw [derE_n3 _e5 (by omega)]; done) | (rw [derE_y _e5 (by omega) (by omega) (by omega)]; done))), _o_21, (Lo.nil _), E⟩
    · have _kb_16 := _h16
      have _h16 := bf_d _h16
      refine WL_step rfl rfl (r_move rfl) ?_
      refine WL_s rfl rfl ?_
      refine Step.call (r_call (xs := [.tmp 17]) fk62 rfl) (c_spec_l2Letter _ ) fun _v18 _w_22 _q18 => ?_
      obtain ⟨rfl, _cw_22⟩ := _q18
      have _cw_22z := _cw_22.size
      have E := E.trans _cw_22
      refine WL_step rfl rfl (r_not rfl) ?_
      refine WL_step rfl rfl (r_pickF rfl rfl) ?_
      refine WL_nil ?_
      refine thn_nrm (_hK_5 _ _ ?_)
      clear _hK_5
      refine W_cond rfl (fun _h20 => ?_) (fun _h20 => ?_)
      · have _kb_23 := _h20
        have _h20 := bf_d (bt_n _h20)
        refine W_seq fun _K_24 _hK_24 => ?_
        refine W_region ?_
        refine WL_step rfl rfl (r_build (parts := []) (cells := [(.slice none 0 0)]) zr29 pl29 rfl rfl) ?_
        refine WL_s rfl rfl ?_
        have _f_25 := ((_m4.ch0 _cw_8).ch0 _cw_22)
        refine s_storeA (off := 0) 1 _f_25 sz29 rfl (us := [(.slice none 0 0)]) rfl rfl rfl rfl fun _w_26 _m_27 _cw_26 => ?_
        have _cw_26z := _cw_26.size
        have E := E.step _cw_26 (fun i hi => .inl (by have _h1 := List.mem_singleton.1 hi; omega))
        replace _m_27 : Blk _w_26 _b4 29 [(.slice none 0 0)] := _m_27
        refine WL_step rfl rfl (r_assign rfl) ?_
        refine WL_nil ?_
        refine thn_nrm (_hK_24 _ _ ?_)
        clear _hK_24
        refine W_ret (thn_ret ?_)
        clear _hK_4
        have _o_28 : Ol Token.cs 57 4 _w_26 (.slice none 0 0) ((derE e letter).1) := by
          have hx := (Ol.nil (cs := Token.cs) (e := 57) (k := 4) _w_26)
          first | (rw [derE_n1 (isE_n _h10)]; exact hx) | (rw [derE_n2 (by omega)]; exact hx) | (rw [derE_n3 _e5 (by omega)]; exact hx) | (rw [derE_y _e5 (by omega) (by omega) (by omega)]; exact hx)
        exact ret_intro [_, _] (resOf_loadA _m_27 rfl agg29 sz29 ⟨rfl, trivial⟩) ⟨(.slice none 0 0), (congrArg (fun zq => (Value.tuple #[.agg #[(.slice none 0 0)], .bool zq])) (by first | (rw [derE_n1 (isE_n _h10)]; done) | (rw [derE_n2 (by omega)]; done) | (rw [derE_n3 _e5 (by omega)]; done) | (rw [derE_y _e5 (by omega) (by omega) (by omega)]; done))), _o_28, (Lo.nil _), E⟩
      · have _kb_23 := _h20
        have _h20 := bt_d (bf_n _h20)
        refine W_skip ?_
        refine thn_nrm (_hK_4 _ _ ?_)
        clear _hK_4
        refine W_seq fun _K_29 _hK_29 => ?_
        refine W_region ?_
        refine WL_step rfl rfl (r_fieldAddr fa29_0 rfl) ?_
        have _f_30 := (_f_15.ch0 _cw_22)
        refine WL_step rfl rfl (r_loadAt _f_30.at_ agg27 rfl rfl) ?_
        refine WL_step rfl rfl (r_move rfl) ?_
        refine WL_s rfl rfl ?_
        have _f_31 := ((_f_7.ch0 _cw_8).ch0 _cw_22)
        refine Step.call (r_call (xs := [.tmp 23, .tmp 24]) fk63 rfl) (c_spec_l9Deriv _f_31 _ _t5 hok hl (by omega)) fun _v25 _w_32 _q25 => ?_
        obtain ⟨_u25, rfl, _q25, _lo25, _cw_32⟩ := _q25
        have _cw_32z := _cw_32.size
        have E := E.trans _cw_32
        obtain ⟨_Au25, _Cu25, _eu25⟩ := _q25.val
        subst _eu25
        have _lu25 := _q25.len
        have _hiu25 := _q25.lt
        refine WL_s rfl rfl ?_
        refine s_alloc zr29 fun _b6 _w_33 _m6 _cw_33 _e6 => ?_
        have _cw_33z := _cw_33.size
        have E := E.trans _cw_33
        have _z6 := _m6.lt
        replace _m6 : Blk _w_33 _b6 29 [(.slice none 0 0)] := _m6
        refine WL_s rfl rfl ?_
        refine s_storeA (off := 0) 1 _m6 sz29 rfl (us := [(.slice _Au25 (derT letter _t5).length _Cu25)]) rfl rfl rfl rfl fun _w_34 _m_35 _cw_34 => ?_
        have _cw_34z := _cw_34.size
        have E := E.step _cw_34 (fun i hi => .inl (by have _h1 := List.mem_singleton.1 hi; omega))
        replace _m_35 : Blk _w_34 _b6 29 [(.slice _Au25 (derT letter _t5).length _Cu25)] := _m_35
        refine WL_nil ?_
        refine thn_nrm (_hK_29 _ _ ?_)
        clear _hK_29
        refine W_seq fun _K_36 _hK_36 => ?_
        refine W_seq fun _K_37 _hK_37 => ?_
        refine W_region ?_
        refine WL_step rfl rfl (r_fieldAddr fa29_0 rfl) ?_
        refine WL_step rfl rfl (r_loadAt _m_35.at_ agg27 rfl rfl) ?_
        refine WL_step rfl rfl (r_len (by rw [el27]; rfl) rfl) ?_
        refine WL_step rfl rfl (r_gtr rfl rfl) ?_
        refine WL_nil ?_
        refine thn_nrm (_hK_37 _ _ ?_)
        clear _hK_37
        refine W_cond rfl (fun _h29 => ?_) (fun _h29 => ?_)
        · have _kb_38 := _h29
          have _h29 := bt_d _h29
          refine W_seq fun _K_39 _hK_39 => ?_
          refine W_region ?_
          refine WL_step rfl rfl (r_build (parts := []) (cells := [(.slice none 0 0)]) zr29 pl29 rfl rfl) ?_
          refine WL_s rfl rfl ?_
          have _f_40 := (((((_m4.ch0 _cw_8).ch0 _cw_22).ch0 _cw_32).ch0 _cw_33).ch _cw_34 (fun hm => by have _h1 := List.mem_singleton.1 hm; omega))
          refine s_storeA (off := 0) 1 _f_40 sz29 rfl (us := [(.slice none 0 0)]) rfl rfl rfl rfl fun _w_41 _m_42 _cw_41 => ?_
          have _cw_41z := _cw_41.size
          have E := E.step _cw_41 (fun i hi => .inl (by have _h1 := List.mem_singleton.1 hi; omega))
          replace _m_42 : Blk _w_41 _b4 29 [(.slice none 0 0)] := _m_42
          refine WL_step rfl rfl (r_assign rfl) ?_
          refine WL_nil ?_
          refine thn_nrm (_hK_39 _ _ ?_)
          clear _hK_39
          refine W_ret (thn_ret ?_)
          clear _hK_36
          have _o_43 : Ol Token.cs 57 4 _w_41 (.slice none 0 0) ((derE e letter).1) := by
            have hx := (Ol.nil (cs := Token.cs) (e := 57) (k := 4) _w_41)
            first | (rw [derE_n1 (isE_n _h10)]; exact hx) | (rw [derE_n2 (by omega)]; exact hx) | (rw [derE_n3 _e5 (by omega)]; exact hx) | (rw [derE_y _e5 (by omega) (by omega) (by omega)]; exact hx)
          exact ret_intro [_, _] (resOf_loadA _m_42 rfl agg29 sz29 ⟨rfl, trivial⟩) ⟨(.slice none 0 0), (congrArg (fun zq => (Value.tuple #[.agg #[(.slice none 0 0)], .bool zq])) (by first | (rw [derE_n1 (isE_n _h10)]; done) | (rw [derE_n2 (by omega)]; done) | (rw [derE_n3 _e5 (by omega)]; done) | (rw [derE_y _e5 (by omega) (by omega) (by omega)]; done))), _o_43, (Lo.nil _), E⟩
        · have _kb_38 := _h29
          have _h29 := bf_d _h29
          refine W_skip ?_
          refine thn_nrm (_hK_36 _ _ ?_)
          clear _hK_36
          refine W_seq fun _K_44 _hK_44 => ?_
          refine W_region ?_
          refine WL_step rfl rfl (r_loadAtA0 _m_35.at_ agg29 sz29 rfl) ?_
          refine WL_s rfl rfl ?_
          have _f_45 := (((((_m4.ch0 _cw_8).ch0 _cw_22).ch0 _cw_32).ch0 _cw_33).ch _cw_34 (fun hm => by have _h1 := List.mem_singleton.1 hm; omega))
          refine s_storeA (off := 0) 1 _f_45 sz29 rfl (us := [(.slice _Au25 (derT letter _t5).length _Cu25)]) rfl rfl rfl rfl fun _w_46 _m_47 _cw_46 => ?_
          have _cw_46z := _cw_46.size
          have E := E.step _cw_46 (fun i hi => .inl (by have _h1 := List.mem_singleton.1 hi; omega))
          replace _m_47 : Blk _w_46 _b4 29 [(.slice _Au25 (derT letter _t5).length _Cu25)] := _m_47
          refine WL_step rfl rfl (r_assign rfl) ?_
          refine WL_nil ?_
          refine thn_nrm (_hK_44 _ _ ?_)
          clear _hK_44
          refine W_ret ?_
          have _f_48 := (((_q25.ch0 _cw_33).ch _cw_34 (fun g hg hm => by have _h0 := List.mem_singleton.1 hm; have _h2 := _lo25 _ hg; have _h3 := _hiu25 _ hg; omega)).ch _cw_46 (fun g hg hm => by have _h0 := List.mem_singleton.1 hm; have _h2 := _lo25 _ hg; have _h3 := _hiu25 _ hg; omega))
          have _o_49 : Ol Token.cs 57 4 _w_46 (.slice _Au25 (derT letter _t5).length _Cu25) ((derE e letter).1) := by
            have hx := _f_48
            first | (rw [derE_n1 (isE_n _h10)]; exact hx) | (rw [derE_n2 (by omega)]; exact hx) | (rw [derE_n3 _e5 (by omega)]; exact hx) | (rw [derE_y _e5 (by omega) (by omega) (by omega)]; exact hx)
          exact ret_intro [_, _] (resOf_loadA _m_47 rfl agg29 sz29 ⟨rfl, trivial⟩) ⟨(.slice _Au25 (derT letter _t5).length _Cu25), (congrArg (fun zq => (Value.tuple #[.agg #[(.slice _Au25 (derT letter _t5).length _Cu25)], .bool zq])) (by first | (rw [derE_n1 (isE_n _h10)]; done) | (rw [derE_n2 (by omega)]; done) | (rw [derE_n3 _e5 (by omega)]; done) | (rw [derE_y _e5 (by omega) (by omega) (by omega)]; done))), _o_49, (Lo.down _lo25 (by omega)), E⟩

/-- laws.FnExactDerivative -/
theorem c_laws_FnExactDerivative {w : World} {LL_e _B_e : Nat} {_v_e : Value} {e : List Token} (_h_e : Ls Token.cs 4 w LL_e _B_e _v_e e) (letter : Int) :
    Ctr Try.prog 8 #[(.agg #[_v_e]), (.int .i64 letter)] w (fun v w' => v = .bool (true) ∧ Ch [] w w') := by
  obtain ⟨_A_e, _C_e, _e1_e⟩ := _h_e.val
  subst _e1_e
  have _l_e := _h_e.len
  have _h_e := _h_e.here (by decide)
  have E := Ch.refl [] w
  have sl := derE_len e letter
  refine Ctr_of_W (N := 101) (vs0 := [(.agg #[(.slice _A_e e.length _C_e)]), (.int .i64 letter)]) Try.func8 rfl rfl rfl ?_
  refine W_seq fun _K_1 _hK_1 => ?_
  refine W_region ?_
  refine WL_s rfl rfl ?_
  refine s_box rfl fun _b2 _w_2 _m2 _cw_2 _e2 => ?_
  have _cw_2z := _cw_2.size
  have E := E.trans _cw_2
  have _z2 := _m2.lt
  replace _m2 : Blk _w_2 _b2 24 [(.slice _A_e e.length _C_e)] := _m2
  refine WL_step rfl rfl (r_assign rfl) ?_
  refine WL_nil ?_
  refine thn_nrm (_hK_1 _ _ ?_)
  clear _hK_1
  refine W_seq fun _K_3 _hK_3 => ?_
  refine W_region ?_
  refine WL_step rfl rfl (r_assign rfl) ?_
  refine WL_nil ?_
  refine thn_nrm (_hK_3 _ _ ?_)
  clear _hK_3
  refine W_seq fun _K_4 _hK_4 => ?_
  refine W_region ?_
  refine WL_step rfl rfl (r_loadAtA0 _m2.at_ agg24 sz24 rfl) ?_
  refine WL_step rfl rfl (r_move rfl) ?_
  refine WL_s rfl rfl ?_
  have _f_5 := (_h_e.ch0 _cw_2)
  refine Step.call (r_call (xs := [.tmp 16, .tmp 17]) fk14 rfl) (c_laws_szExpr _f_5 _ (by omega) (by omega)) fun _v18 _w_6 _q18 => ?_
  obtain ⟨rfl, _cw_6⟩ := _q18
  have _cw_6z := _cw_6.size
  have E := E.trans _cw_6
  refine WL_step rfl rfl (r_assign rfl) ?_
  refine WL_nil ?_
  refine thn_nrm (_hK_4 _ _ ?_)
  clear _hK_4
  refine W_seq fun _K_7 _hK_7 => ?_
  refine W_seq fun _K_8 _hK_8 => ?_
  refine W_region ?_
  refine WL_step rfl rfl (r_move rfl) ?_
  refine WL_step rfl rfl (r_lss rfl rfl) ?_
  refine WL_nil ?_
  refine thn_nrm (_hK_8 _ _ ?_)
  clear _hK_8
  refine W_cond rfl (fun _h20 => ?_) (fun _h20 => ?_)
  · have _kb_9 := _h20
    have _h20 := bt_d _h20
    refine W_seq fun _K_10 _hK_10 => ?_
    refine W_region ?_
    refine WL_step rfl rfl (r_assign rfl) ?_
    refine WL_nil ?_
    refine thn_nrm (_hK_10 _ _ ?_)
    clear _hK_10
    refine W_ret (thn_ret ?_)
    clear _hK_7
    exact ret_intro [_] ⟨rfl, trivial⟩ ⟨congrArg Value.bool (by first | rfl | (exfalso; omega) | (exfalso; revert _h20; simp; done) | (exfalso; revert _h20; simp; omega)), E⟩
  · have _kb_9 := _h20
    have _h20 := bf_d _h20
    refine W_skip ?_
    refine thn_nrm (_hK_7 _ _ ?_)
    clear _hK_7
    refine W_seq fun _K_11 _hK_11 => ?_
    refine W_region ?_
    have _f_12 := (_m2.ch0 _cw_6)
    refine WL_step rfl rfl (r_loadAtA0 _f_12.at_ agg24 sz24 rfl) ?_
    refine WL_s rfl rfl ?_
    have _f_13 := (_f_5.ch0 _cw_6)
    refine Step.call (r_call (xs := [.tmp 22]) fk16 rfl) (c_laws_toExpr _f_13 (by omega)) fun _v23 _w_14 _q23 => ?_
    obtain ⟨_u23, rfl, _q23, _lo23, _cw_14⟩ := _q23
    have _cw_14z := _cw_14.size
    have E := E.trans _cw_14
    obtain ⟨_Au23, _Cu23, _eu23⟩ := _q23.val
    subst _eu23
    have _lu23 := _q23.len
    have _hiu23 := _q23.lt
    refine WL_step rfl rfl (r_move rfl) ?_
    refine WL_s rfl rfl ?_
    refine Step.call (r_call (xs := [.tmp 23, .tmp 24]) fk29 rfl) (c_spec_Derivative _q23.ls _ ) fun _v25 _w_15 _q25 => ?_
    obtain ⟨u25_0x0, rfl, _q_u25_0x0, _lo_u25_0x0, _cw_15⟩ := _q25
    have _cw_15z := _cw_15.size
    have E := E.trans _cw_15
    obtain ⟨Au25_0x0, Cu25_0x0, eu25_0x0⟩ := _q_u25_0x0.val
    subst eu25_0x0
    have lu25_0x0 := _q_u25_0x0.len
    have _hiu25_0x0 := _q_u25_0x0.lt
    refine WL_step rfl rfl (r_move rfl) ?_
    refine WL_step rfl rfl (r_extract rfl rfl) ?_
    refine WL_step rfl rfl (r_extract rfl rfl) ?_
    refine WL_s rfl rfl ?_
    refine s_alloc zr29 fun _b6 _w_16 _m6 _cw_16 _e6 => ?_
    have _cw_16z := _cw_16.size
    have E := E.trans _cw_16
    have _z6 := _m6.lt
    replace _m6 : Blk _w_16 _b6 29 [(.slice none 0 0)] := _m6
    refine WL_s rfl rfl ?_
    refine s_storeA (off := 0) 1 _m6 sz29 rfl (us := [(.slice Au25_0x0 ((derE e letter).1).length Cu25_0x0)]) rfl rfl rfl rfl fun _w_17 _m_18 _cw_17 => ?_
    have _cw_17z := _cw_17.size
    have E := E.step _cw_17 (fun i hi => .inl (by have _h1 := List.mem_singleton.1 hi; omega))
    replace _m_18 : Blk _w_17 _b6 29 [(.slice Au25_0x0 ((derE e letter).1).length Cu25_0x0)] := _m_18
    refine WL_step rfl rfl (r_assign rfl) ?_
    refine WL_nil ?_
    refine thn_nrm (_hK_11 _ _ ?_)
    clear _hK_11
    refine W_seq fun _K_19 _hK_19 => ?_
    refine W_region ?_
    have _f_20 := ((((_f_12.ch0 _cw_14).ch0 _cw_15).ch0 _cw_16).ch _cw_17 (fun hm => by have _h1 := List.mem_singleton.1 hm; omega))
    refine WL_step rfl rfl (r_loadAtA0 _f_20.at_ agg24 sz24 rfl) ?_
    refine WL_s rfl rfl ?_
    have _f_21 := ((((_f_13.ch0 _cw_14).ch0 _cw_15).ch0 _cw_16).ch _cw_17 (fun i hi => by have _h1 := List.mem_singleton.1 hi; omega))
    refine Step.call (r_call (xs := [.tmp 28]) fk16 rfl) (c_laws_toExpr _f_21 (by omega)) fun _v29 _w_22 _q29 => ?_
    obtain ⟨_u29, rfl, _q29, _lo29, _cw_22⟩ := _q29
    have _cw_22z := _cw_22.size
    have E := E.trans _cw_22
    obtain ⟨_Au29, _Cu29, _eu29⟩ := _q29.val
    subst _eu29
    have _lu29 := _q29.len
    have _hiu29 := _q29.lt
    refine WL_s rfl rfl ?_
    refine s_alloc zr29 fun _b8 _w_23 _m8 _cw_23 _e8 => ?_
    have _cw_23z := _cw_23.size
    have E := E.trans _cw_23
    have _z8 := _m8.lt
    replace _m8 : Blk _w_23 _b8 29 [(.slice none 0 0)] := _m8
    refine WL_s rfl rfl ?_
    refine s_storeA (off := 0) 1 _m8 sz29 rfl (us := [(.slice _Au29 (e).length _Cu29)]) rfl rfl rfl rfl fun _w_24 _m_25 _cw_24 => ?_
    have _cw_24z := _cw_24.size
    have E := E.step _cw_24 (fun i hi => .inl (by have _h1 := List.mem_singleton.1 hi; omega))
    replace _m_25 : Blk _w_24 _b8 29 [(.slice _Au29 (e).length _Cu29)] := _m_25
    refine WL_nil ?_
    refine thn_nrm (_hK_19 _ _ ?_)
    clear _hK_19
    refine W_seq fun _K_26 _hK_26 => ?_
    refine W_region ?_
    refine WL_step rfl rfl (r_loadAtA0 _m_25.at_ agg29 sz29 rfl) ?_
    refine WL_step rfl rfl (r_move rfl) ?_
    refine WL_s rfl rfl ?_
    have _f_27 := ((_q29.ch0 _cw_23).ch _cw_24 (fun g hg hm => by have _h0 := List.mem_singleton.1 hm; have _h2 := _lo29 _ hg; have _h3 := _hiu29 _ hg; omega))
    refine Step.call (r_call (xs := [.tmp 31, .tmp 32]) fk30 rfl) (c_impl_Derivative _f_27.ls _ ) fun _v33 _w_28 _q33 => ?_
    obtain ⟨u33_0x0, rfl, _q_u33_0x0, _lo_u33_0x0, _cw_28⟩ := _q33
    have _cw_28z := _cw_28.size
    have E := E.trans _cw_28
    obtain ⟨Au33_0x0, Cu33_0x0, eu33_0x0⟩ := _q_u33_0x0.val
    subst eu33_0x0
    have lu33_0x0 := _q_u33_0x0.len
    have _hiu33_0x0 := _q_u33_0x0.lt
    refine WL_step rfl rfl (r_move rfl) ?_
    refine WL_step rfl rfl (r_extract rfl rfl) ?_
    refine WL_step rfl rfl (r_extract rfl rfl) ?_
    refine WL_s rfl rfl ?_
    refine s_alloc zr29 fun _b9 _w_29 _m9 _cw_29 _e9 => ?_
    have _cw_29z := _cw_29.size
    have E := E.trans _cw_29
    have _z9 := _m9.lt
    replace _m9 : Blk _w_29 _b9 29 [(.slice none 0 0)] := _m9
    refine WL_s rfl rfl ?_
    refine s_storeA (off := 0) 1 _m9 sz29 rfl (us := [(.slice Au33_0x0 ((derE e letter).1).length Cu33_0x0)]) rfl rfl rfl rfl fun _w_30 _m_31 _cw_30 => ?_
    have _cw_30z := _cw_30.size
    have E := E.step _cw_30 (fun i hi => .inl (by have _h1 := List.mem_singleton.1 hi; omega))
    replace _m_31 : Blk _w_30 _b9 29 [(.slice Au33_0x0 ((derE e letter).1).length Cu33_0x0)] := _m_31
    refine WL_step rfl rfl (r_assign rfl) ?_
    refine WL_nil ?_
    refine thn_nrm (_hK_26 _ _ ?_)
    clear _hK_26
    refine W_seq fun _K_32 _hK_32 => ?_
    refine W_seq fun _K_33 _hK_33 => ?_
    refine W_region ?_
    refine WL_step rfl rfl (r_loadAtA0 _m_31.at_ agg29 sz29 rfl) ?_
    have _f_34 := ((((((_m_18.ch0 _cw_22).ch0 _cw_23).ch _cw_24 (fun hm => by have _h1 := List.mem_singleton.1 hm; omega)).ch0 _cw_28).ch0 _cw_29).ch _cw_30 (fun hm => by have _h1 := List.mem_singleton.1 hm; omega))
    refine WL_step rfl rfl (r_loadAtA0 _f_34.at_ agg29 sz29 rfl) ?_
    refine WL_s rfl rfl ?_
    have _f_35 := ((_q_u33_0x0.ch0 _cw_29).ch _cw_30 (fun g hg hm => by have _h0 := List.mem_singleton.1 hm; have _h2 := _lo_u33_0x0 _ hg; have _h3 := _hiu33_0x0 _ hg; omega))
    have _f_36 := ((((((((_q_u25_0x0.ch0 _cw_16).ch _cw_17 (fun g hg hm => by have _h0 := List.mem_singleton.1 hm; have _h2 := _lo_u25_0x0 _ hg; have _h3 := _hiu25_0x0 _ hg; omega)).ch0 _cw_22).ch0 _cw_23).ch _cw_24 (fun g hg hm => by have _h0 := List.mem_singleton.1 hm; have _h2 := _lo_u25_0x0 _ hg; have _h3 := _hiu25_0x0 _ hg; omega)).ch0 _cw_28).ch0 _cw_29).ch _cw_30 (fun g hg hm => by have _h0 := List.mem_singleton.1 hm; have _h2 := _lo_u25_0x0 _ hg; have _h3 := _hiu25_0x0 _ hg; omega))
    refine Step.call (r_call (xs := [.tmp 36, .tmp 37]) fk18 rfl) (c_laws_eqExpr _f_35.ls _f_36.ls ) fun _v38 _w_37 _q38 => ?_
    obtain ⟨rfl, _cw_37⟩ := _q38
    have _cw_37z := _cw_37.size
    have E := E.trans _cw_37
    refine WL_step rfl rfl (r_not rfl) ?_
    refine WL_step rfl rfl (r_move rfl) ?_
    refine WL_split (d := 40) rfl (fun _h40 => ?_) (fun _h40 => ?_)
    · have _kb_38 := _h40
      have _h40 := bf_d (bt_n _h40)
      refine WL_skip rfl rfl ?_
      refine WL_skip rfl rfl ?_
      refine WL_skip rfl rfl ?_
      refine WL_step rfl rfl (r_pickT rfl rfl) ?_
      refine WL_nil ?_
      refine thn_nrm (_hK_33 _ _ ?_)
      clear _hK_33
      refine W_condT rfl ?_
      refine W_seq fun _K_39 _hK_39 => ?_
      refine W_region ?_
      refine WL_step rfl rfl (r_assign rfl) ?_
      refine WL_nil ?_
      refine thn_nrm (_hK_39 _ _ ?_)
      clear _hK_39
      refine W_ret (thn_ret ?_)
      clear _hK_32
      exact ret_intro [_] ⟨rfl, trivial⟩ ⟨congrArg Value.bool (by first | rfl | (exfalso; omega) | (exfalso; revert _h40; simp; done) | (exfalso; revert _h40; simp; omega)), E⟩
    · have _kb_38 := _h40
      have _h40 := bt_d (bf_n _h40)
      refine WL_step rfl rfl (r_move rfl) ?_
      refine WL_step rfl rfl (r_move rfl) ?_
      refine WL_step rfl rfl (r_neqB un4 rfl rfl) ?_
      refine WL_step rfl rfl (r_pickF rfl rfl) ?_
      refine WL_nil ?_
      refine thn_nrm (_hK_33 _ _ ?_)
      clear _hK_33
      refine W_cond rfl (fun _h44 => ?_) (fun _h44 => ?_)
      · have _kb_40 := _h44
        have _h44 := bf_e (bt_n _h44)
        refine W_seq fun _K_41 _hK_41 => ?_
        refine W_region ?_
        refine WL_step rfl rfl (r_assign rfl) ?_
        refine WL_nil ?_
        refine thn_nrm (_hK_41 _ _ ?_)
        clear _hK_41
        refine W_ret (thn_ret ?_)
        clear _hK_32
        exact ret_intro [_] ⟨rfl, trivial⟩ ⟨congrArg Value.bool (by first | rfl | (exfalso; omega) | (exfalso; revert _h44; simp; done) | (exfalso; revert _h44; simp; omega)), E⟩
      · have _kb_40 := _h44
        have _h44 := bt_e (bf_n _h44)
        refine W_skip ?_
        refine thn_nrm (_hK_32 _ _ ?_)
        clear _hK_32
        refine W_seq fun _K_42 _hK_42 => ?_
        refine W_seq fun _K_43 _hK_43 => ?_
        refine W_drawC [] 5 mixed rfl fun _w_44 _cw_44 => ?_
        have _cw_44z := _cw_44.size
        have E := E.trans _cw_44
        have _f_45 := (((((_m_25.ch0 _cw_28).ch0 _cw_29).ch _cw_30 (fun hm => by have _h1 := List.mem_singleton.1 hm; omega)).ch0 _cw_37).ch0 _cw_44)
        refine DR_s 0 rfl (by kernel_rfl) rfl rfl (t_loadAtA0 _f_45.at_ (fun i hi => absurd hi List.not_mem_nil) agg29 sz29 rfl ?_)
        have _f_46 := ((((((((_f_20.ch0 _cw_22).ch0 _cw_23).ch _cw_24 (fun hm => by have _h1 := List.mem_singleton.1 hm; omega)).ch0 _cw_28).ch0 _cw_29).ch _cw_30 (fun hm => by have _h1 := List.mem_singleton.1 hm; omega)).ch0 _cw_37).ch0 _cw_44)
        refine DR_s 1 rfl (by kernel_rfl) rfl rfl (t_loadAtA0 _f_46.at_ (fun i hi => absurd hi List.not_mem_nil) agg24 sz24 rfl ?_)
        refine DR_one 2 (by kernel_rfl) ?_
        refine DO_s rfl rfl rfl ?_
        have _f_47 := ((((((((_f_21.ch0 _cw_22).ch0 _cw_23).ch _cw_24 (fun i hi => by have _h1 := List.mem_singleton.1 hi; omega)).ch0 _cw_28).ch0 _cw_29).ch _cw_30 (fun i hi => by have _h1 := List.mem_singleton.1 hi; omega)).ch0 _cw_37).ch0 _cw_44)
        refine Step.call (r_call (xs := [.tmp 46]) fk16 rfl) (c_laws_toExpr _f_47 (by omega)) fun _v47 _w_48 _q47 => ?_
        obtain ⟨_u47, rfl, _q47, _lo47, _cw_48⟩ := _q47
        have _cw_48z := _cw_48.size
        have E := E.trans _cw_48
        obtain ⟨_Au47, _Cu47, _eu47⟩ := _q47.val
        subst _eu47
        have _lu47 := _q47.len
        have _hiu47 := _q47.lt
        have _S_49 : Ch [] _w_44 _w_48 := ((Ch.refl _ _).trans _cw_48)
        refine ⟨_S_49, ?_⟩
        refine DR_one 3 (by kernel_rfl) ?_
        refine DO_s rfl rfl rfl ?_
        have _f_50 := ((((((_f_27.ch0 _cw_28).ch0 _cw_29).ch _cw_30 (fun g hg hm => by have _h0 := List.mem_singleton.1 hm; have _h2 := _lo29 _ hg; have _h3 := _hiu29 _ hg; omega)).ch0 _cw_37).ch0 _cw_44).ch0 _cw_48)
        refine Step.call (r_call (xs := [.tmp 45, .tmp 47]) fk18 rfl) (c_laws_eqExpr _f_50.ls _q47.ls ) fun _v48 _w_51 _q48 => ?_
        obtain ⟨rfl, _cw_51⟩ := _q48
        have _cw_51z := _cw_51.size
        have E := E.trans _cw_51
        have _S_52 : Ch [] _w_44 _w_51 := (_S_49.trans _cw_51)
        refine ⟨_S_52, ?_⟩
        refine DR_s 4 rfl (by kernel_rfl) rfl rfl (t_v (fun _ => (r_not rfl)) ?_)
        refine DR_done (by kernel_rfl) ?_
        refine thn_nrm (_hK_43 _ _ ?_)
        clear _hK_43
        refine W_cond rfl (fun _h49 => ?_) (fun _h49 => ?_)
        · have _kb_53 := _h49
          have _h49 := bf_d (bt_n _h49)
          refine W_seq fun _K_54 _hK_54 => ?_
          refine W_region ?_
          refine WL_step rfl rfl (r_assign rfl) ?_
          refine WL_nil ?_
          refine thn_nrm (_hK_54 _ _ ?_)
          clear _hK_54
          refine W_ret (thn_ret ?_)
          clear _hK_42
          exact ret_intro [_] ⟨rfl, trivial⟩ ⟨congrArg Value.bool (by first | rfl | (exfalso; omega) | (exfalso; revert _h49; simp; done) | (exfalso; revert _h49; simp; omega)), E⟩
        · have _kb_53 := _h49
          have _h49 := bt_d (bf_n _h49)
          refine W_skip ?_
          refine thn_nrm (_hK_42 _ _ ?_)
          clear _hK_42
          refine W_seq fun _K_55 _hK_55 => ?_
          refine W_region ?_
          refine WL_step rfl rfl (r_assign rfl) ?_
          refine WL_nil ?_
          refine thn_nrm (_hK_55 _ _ ?_)
          clear _hK_55
          refine W_seq fun _K_56 _hK_56 => ?_
          refine W_region ?_
          have _f_57 := ((_f_45.ch0 _cw_48).ch0 _cw_51)
          refine WL_step rfl rfl (r_loadAtA0 _f_57.at_ agg29 sz29 rfl) ?_
          refine WL_step rfl rfl (r_move rfl) ?_
          refine WL_s rfl rfl ?_
          have _f_58 := (_f_50.ch0 _cw_51)
          refine Step.call (r_call (xs := [.tmp 50, .tmp 51]) fk25 rfl) (c_laws_markExpr _f_58 _ (by omega) (by first | omega | (simp <;> omega))) fun _v52 _w_59 _q52 => ?_
          obtain ⟨rfl, _q52, _cw_59⟩ := _q52
          have _cw_59z := _cw_59.size
          have E := E.step _cw_59 (fun i hi => .inl (by have _h1 := _lo29 _ hi; omega))
          refine WL_step rfl rfl (r_assign rfl) ?_
          refine WL_nil ?_
          refine thn_nrm (_hK_56 _ _ ?_)
          clear _hK_56
          refine W_seq fun _K_60 _hK_60 => ?_
          refine W_seq fun _K_61 _hK_61 => ?_
          refine W_region ?_
          refine WL_step rfl rfl (r_move rfl) ?_
          refine WL_step rfl rfl (r_lss rfl rfl) ?_
          refine WL_step rfl rfl (r_move rfl) ?_
          refine WL_split (d := 55) rfl (fun _h55 => ?_) (fun _h55 => ?_)
          · have _kb_62 := _h55
            have _h55 := bt_d _h55
            refine WL_skip rfl rfl ?_
            refine WL_skip rfl rfl ?_
            refine WL_skip rfl rfl ?_
            refine WL_skip rfl rfl ?_
            refine WL_step rfl rfl (r_pickT rfl rfl) ?_
            refine WL_step rfl rfl (r_move rfl) ?_
            refine WL_skip rfl rfl ?_
            refine WL_skip rfl rfl ?_
            refine WL_skip rfl rfl ?_
            refine WL_step rfl rfl (r_pickT rfl rfl) ?_
            refine WL_nil ?_
            refine thn_nrm (_hK_61 _ _ ?_)
            clear _hK_61
            refine W_condT rfl ?_
            refine W_seq fun _K_63 _hK_63 => ?_
            refine W_region ?_
            refine WL_step rfl rfl (r_assign rfl) ?_
            refine WL_nil ?_
            refine thn_nrm (_hK_63 _ _ ?_)
            clear _hK_63
            refine W_ret (thn_ret ?_)
            clear _hK_60
            exact ret_intro [_] ⟨rfl, trivial⟩ ⟨congrArg Value.bool (by first | rfl | (exfalso; omega) | (exfalso; revert _h55; simp; done) | (exfalso; revert _h55; simp; omega)), E⟩
          · have _kb_62 := _h55
            have _h55 := bf_d _h55
            have _f_64 := (((((_m_31.ch0 _cw_37).ch0 _cw_44).ch0 _cw_48).ch0 _cw_51).ch _cw_59 (fun hm => by have _h1 := _lo29 _ hm; have _h2 := _hiu29 _ hm; omega))
            refine WL_step rfl rfl (r_loadAtA0 _f_64.at_ agg29 sz29 rfl) ?_
            have _f_65 := (((((_f_34.ch0 _cw_37).ch0 _cw_44).ch0 _cw_48).ch0 _cw_51).ch _cw_59 (fun hm => by have _h1 := _lo29 _ hm; have _h2 := _hiu29 _ hm; omega))
            refine WL_step rfl rfl (r_loadAtA0 _f_65.at_ agg29 sz29 rfl) ?_
            refine WL_s rfl rfl ?_
            have _f_66 := (((((_f_35.ch0 _cw_37).ch0 _cw_44).ch0 _cw_48).ch0 _cw_51).ch _cw_59 (fun g hg hm => by have _h1 := _lo29 _ hm; have _h2 := _hiu29 _ hm; have _h3 := _lo_u33_0x0 _ hg; have _h4 := _hiu33_0x0 _ hg; omega))
            have _f_67 := (((((_f_36.ch0 _cw_37).ch0 _cw_44).ch0 _cw_48).ch0 _cw_51).ch _cw_59 (fun g hg hm => by have _h1 := _lo29 _ hm; have _h2 := _hiu29 _ hm; have _h3 := _lo_u25_0x0 _ hg; have _h4 := _hiu25_0x0 _ hg; omega))
            refine Step.call (r_call (xs := [.tmp 56, .tmp 57]) fk18 rfl) (c_laws_eqExpr _f_66.ls _f_67.ls ) fun _v58 _w_68 _q58 => ?_
            obtain ⟨rfl, _cw_68⟩ := _q58
            have _cw_68z := _cw_68.size
            have E := E.trans _cw_68
            refine WL_step rfl rfl (r_not rfl) ?_
            refine WL_step rfl rfl (r_pickF rfl rfl) ?_
            refine WL_step rfl rfl (r_move rfl) ?_
            refine WL_splitF (d := 61) rfl _kb_38 ?_
            refine WL_step rfl rfl (r_move rfl) ?_
            refine WL_step rfl rfl (r_move rfl) ?_
            refine WL_step rfl rfl (r_neqB un4 rfl rfl) ?_
            refine WL_step rfl rfl (r_pickF rfl rfl) ?_
            refine WL_nil ?_
            refine thn_nrm (_hK_61 _ _ ?_)
            clear _hK_61
            refine W_condFk rfl _kb_40 ?_
            refine W_skip ?_
            refine thn_nrm (_hK_60 _ _ ?_)
            clear _hK_60
            refine W_seq fun _K_69 _hK_69 => ?_
            refine W_region ?_
            refine WL_step rfl rfl (r_assign rfl) ?_
            refine WL_nil ?_
            refine thn_nrm (_hK_69 _ _ ?_)
            clear _hK_69
            refine W_seq fun _K_70 _hK_70 => ?_
            refine W_region ?_
            have _f_71 := (_f_64.ch0 _cw_68)
            refine WL_step rfl rfl (r_loadAtA0 _f_71.at_ agg29 sz29 rfl) ?_
            refine WL_step rfl rfl (r_move rfl) ?_
            refine WL_s rfl rfl ?_
            have _f_72 := (_f_66.ch0 _cw_68)
            refine Step.call (r_call (xs := [.tmp 66, .tmp 67]) fk25 rfl) (c_laws_markExpr _f_72 _ (by omega) (by first | omega | (simp <;> omega))) fun _v68 _w_73 _q68 => ?_
            obtain ⟨rfl, _q68, _cw_73⟩ := _q68
            have _cw_73z := _cw_73.size
            have E := E.step _cw_73 (fun i hi => .inl (by have _h1 := _lo_u33_0x0 _ hi; omega))
            refine WL_step rfl rfl (r_assign rfl) ?_
            refine WL_nil ?_
            refine thn_nrm (_hK_70 _ _ ?_)
            clear _hK_70
            refine W_seq fun _K_74 _hK_74 => ?_
            refine W_region ?_
            refine WL_step rfl rfl (r_assign rfl) ?_
            refine WL_nil ?_
            refine thn_nrm (_hK_74 _ _ ?_)
            clear _hK_74
            refine W_seq fun _K_75 _hK_75 => ?_
            refine W_region ?_
            have _f_76 := (_f_71.ch _cw_73 (fun hm => by have _h1 := _lo_u33_0x0 _ hm; have _h2 := _hiu33_0x0 _ hm; omega))
            refine WL_step rfl rfl (r_loadAtA0 _f_76.at_ agg29 sz29 rfl) ?_
            refine WL_step rfl rfl (r_move rfl) ?_
            refine WL_s rfl rfl ?_
            refine Step.call (r_call (xs := [.tmp 69, .tmp 70]) fk26 rfl) (c_laws_heldExpr _q68.ls _ (by omega) (by first | omega | (simp <;> omega))) fun _v71 _w_77 _q71 => ?_
            obtain ⟨rfl, _cw_77⟩ := _q71
            have _cw_77z := _cw_77.size
            have E := E.trans _cw_77
            refine WL_step rfl rfl (r_assign rfl) ?_
            refine WL_nil ?_
            refine thn_nrm (_hK_75 _ _ ?_)
            clear _hK_75
            refine W_seq fun _K_78 _hK_78 => ?_
            refine W_seq fun _K_79 _hK_79 => ?_
            refine W_region ?_
            refine WL_step rfl rfl (r_move rfl) ?_
            refine WL_step rfl rfl (r_lss rfl rfl) ?_
            refine WL_nil ?_
            refine thn_nrm (_hK_79 _ _ ?_)
            clear _hK_79
            refine W_cond rfl (fun _h73 => ?_) (fun _h73 => ?_)
            · have _kb_80 := _h73
              have _h73 := bt_d _h73
              refine W_seq fun _K_81 _hK_81 => ?_
              refine W_region ?_
              refine WL_step rfl rfl (r_assign rfl) ?_
              refine WL_nil ?_
              refine thn_nrm (_hK_81 _ _ ?_)
              clear _hK_81
              refine W_ret (thn_ret ?_)
              clear _hK_78
              exact ret_intro [_] ⟨rfl, trivial⟩ ⟨congrArg Value.bool (by first | rfl | (exfalso; omega) | (exfalso; revert _h73; simp; done) | (exfalso; revert _h73; simp; omega)), E⟩
            · have _kb_80 := _h73
              have _h73 := bf_d _h73
              refine W_skip ?_
              refine thn_nrm (_hK_78 _ _ ?_)
              clear _hK_78
              refine W_seq fun _K_82 _hK_82 => ?_
              refine W_seq fun _K_83 _hK_83 => ?_
              refine W_region ?_
              refine WL_step rfl rfl (r_move rfl) ?_
              refine WL_step rfl rfl (r_move rfl) ?_
              refine WL_step rfl rfl (r_neq rfl rfl) ?_
              refine WL_nil ?_
              refine thn_nrm (_hK_83 _ _ ?_)
              clear _hK_83
              refine W_cond rfl (fun _h76 => ?_) (fun _h76 => ?_)
              · have _kb_84 := _h76
                have _h76 := bf_d (bt_n _h76)
                refine W_seq fun _K_85 _hK_85 => ?_
                refine W_region ?_
                refine WL_step rfl rfl (r_assign rfl) ?_
                refine WL_nil ?_
                refine thn_nrm (_hK_85 _ _ ?_)
                clear _hK_85
                refine W_ret (thn_ret ?_)
                clear _hK_82
                exact ret_intro [_] ⟨rfl, trivial⟩ ⟨congrArg Value.bool (by first | rfl | (exfalso; omega) | (exfalso; revert _h76; simp; done) | (exfalso; revert _h76; simp; omega)), E⟩
              · have _kb_84 := _h76
                have _h76 := bt_d (bf_n _h76)
                refine W_skip ?_
                refine thn_nrm (_hK_82 _ _ ?_)
                clear _hK_82
                refine W_seq fun _K_86 _hK_86 => ?_
                refine W_region ?_
                have _f_87 := ((((((_f_46.ch0 _cw_48).ch0 _cw_51).ch _cw_59 (fun hm => by have _h1 := _lo29 _ hm; have _h2 := _hiu29 _ hm; omega)).ch0 _cw_68).ch _cw_73 (fun hm => by have _h1 := _lo_u33_0x0 _ hm; have _h2 := _hiu33_0x0 _ hm; omega)).ch0 _cw_77)
                refine WL_step rfl rfl (r_loadAtA0 _f_87.at_ agg24 sz24 rfl) ?_
                refine WL_s rfl rfl ?_
                have _f_88 := ((((((_f_47.ch0 _cw_48).ch0 _cw_51).ch _cw_59 (fun i hi => by have _h1 := _lo29 _ hi; omega)).ch0 _cw_68).ch _cw_73 (fun i hi => by have _h1 := _lo_u33_0x0 _ hi; omega)).ch0 _cw_77)
                refine Step.call (r_call (xs := [.tmp 78]) fk16 rfl) (c_laws_toExpr _f_88 (by omega)) fun _v79 _w_89 _q79 => ?_
                obtain ⟨_u79, rfl, _q79, _lo79, _cw_89⟩ := _q79
                have _cw_89z := _cw_89.size
                have E := E.trans _cw_89
                obtain ⟨_Au79, _Cu79, _eu79⟩ := _q79.val
                subst _eu79
                have _lu79 := _q79.len
                have _hiu79 := _q79.lt
                refine WL_step rfl rfl (r_move rfl) ?_
                refine WL_s rfl rfl ?_
                refine Step.call (r_call (xs := [.tmp 79, .tmp 80]) fk30 rfl) (c_impl_Derivative _q79.ls _ ) fun _v81 _w_90 _q81 => ?_
                obtain ⟨u81_0x0, rfl, _q_u81_0x0, _lo_u81_0x0, _cw_90⟩ := _q81
                have _cw_90z := _cw_90.size
                have E := E.trans _cw_90
                obtain ⟨Au81_0x0, Cu81_0x0, eu81_0x0⟩ := _q_u81_0x0.val
                subst eu81_0x0
                have lu81_0x0 := _q_u81_0x0.len
                have _hiu81_0x0 := _q_u81_0x0.lt
                refine WL_step rfl rfl (r_move rfl) ?_
                refine WL_step rfl rfl (r_extract rfl rfl) ?_
                refine WL_step rfl rfl (r_extract rfl rfl) ?_
                refine WL_s rfl rfl ?_
                refine s_alloc zr29 fun _b14 _w_91 _m14 _cw_91 _e14 => ?_
                have _cw_91z := _cw_91.size
                have E := E.trans _cw_91
                have _z14 := _m14.lt
                replace _m14 : Blk _w_91 _b14 29 [(.slice none 0 0)] := _m14
                refine WL_s rfl rfl ?_
                refine s_storeA (off := 0) 1 _m14 sz29 rfl (us := [(.slice Au81_0x0 ((derE e letter).1).length Cu81_0x0)]) rfl rfl rfl rfl fun _w_92 _m_93 _cw_92 => ?_
                have _cw_92z := _cw_92.size
                have E := E.step _cw_92 (fun i hi => .inl (by have _h1 := List.mem_singleton.1 hi; omega))
                replace _m_93 : Blk _w_92 _b14 29 [(.slice Au81_0x0 ((derE e letter).1).length Cu81_0x0)] := _m_93
                refine WL_step rfl rfl (r_assign rfl) ?_
                refine WL_nil ?_
                refine thn_nrm (_hK_86 _ _ ?_)
                clear _hK_86
                refine W_seq fun _K_94 _hK_94 => ?_
                refine W_seq fun _K_95 _hK_95 => ?_
                refine W_region ?_
                refine WL_step rfl rfl (r_loadAtA0 _m_93.at_ agg29 sz29 rfl) ?_
                have _f_96 := (((((((_f_65.ch0 _cw_68).ch _cw_73 (fun hm => by have _h1 := _lo_u33_0x0 _ hm; have _h2 := _hiu33_0x0 _ hm; omega)).ch0 _cw_77).ch0 _cw_89).ch0 _cw_90).ch0 _cw_91).ch _cw_92 (fun hm => by have _h1 := List.mem_singleton.1 hm; omega))
                refine WL_step rfl rfl (r_loadAtA0 _f_96.at_ agg29 sz29 rfl) ?_
                refine WL_s rfl rfl ?_
                have _f_97 := ((_q_u81_0x0.ch0 _cw_91).ch _cw_92 (fun g hg hm => by have _h0 := List.mem_singleton.1 hm; have _h2 := _lo_u81_0x0 _ hg; have _h3 := _hiu81_0x0 _ hg; omega))
                have _f_98 := (((((((_f_67.ch0 _cw_68).ch _cw_73 (fun g hg hm => by have _h1 := _lo_u33_0x0 _ hm; have _h2 := _hiu33_0x0 _ hm; have _h3 := _lo_u25_0x0 _ hg; have _h4 := _hiu25_0x0 _ hg; omega)).ch0 _cw_77).ch0 _cw_89).ch0 _cw_90).ch0 _cw_91).ch _cw_92 (fun g hg hm => by have _h0 := List.mem_singleton.1 hm; have _h2 := _lo_u25_0x0 _ hg; have _h3 := _hiu25_0x0 _ hg; omega))
                refine Step.call (r_call (xs := [.tmp 84, .tmp 85]) fk18 rfl) (c_laws_eqExpr _f_97.ls _f_98.ls ) fun _v86 _w_99 _q86 => ?_
                obtain ⟨rfl, _cw_99⟩ := _q86
                have _cw_99z := _cw_99.size
                have E := E.trans _cw_99
                refine WL_step rfl rfl (r_not rfl) ?_
                refine WL_step rfl rfl (r_move rfl) ?_
                refine WL_splitF (d := 88) rfl _kb_38 ?_
                refine WL_step rfl rfl (r_move rfl) ?_
                refine WL_step rfl rfl (r_move rfl) ?_
                refine WL_step rfl rfl (r_neqB un4 rfl rfl) ?_
                refine WL_step rfl rfl (r_pickF rfl rfl) ?_
                refine WL_nil ?_
                refine thn_nrm (_hK_95 _ _ ?_)
                clear _hK_95
                refine W_condFk rfl _kb_40 ?_
                refine W_skip ?_
                refine thn_nrm (_hK_94 _ _ ?_)
                clear _hK_94
                refine W_seq fun _K_100 _hK_100 => ?_
                refine W_region ?_
                refine WL_step rfl rfl (r_assign rfl) ?_
                refine WL_nil ?_
                refine thn_nrm (_hK_100 _ _ ?_)
                clear _hK_100
                refine W_seq fun _K_101 _hK_101 => ?_
                refine W_region ?_
                have _f_102 := ((((((_f_76.ch0 _cw_77).ch0 _cw_89).ch0 _cw_90).ch0 _cw_91).ch _cw_92 (fun hm => by have _h1 := List.mem_singleton.1 hm; omega)).ch0 _cw_99)
                refine WL_step rfl rfl (r_loadAtA0 _f_102.at_ agg29 sz29 rfl) ?_
                refine WL_step rfl rfl (r_move rfl) ?_
                refine WL_s rfl rfl ?_
                have _f_103 := ((((((_q68.ch0 _cw_77).ch0 _cw_89).ch0 _cw_90).ch0 _cw_91).ch _cw_92 (fun g hg hm => by have _h0 := List.mem_singleton.1 hm; have _h2 := _lo_u33_0x0 _ hg; have _h3 := _hiu33_0x0 _ hg; omega)).ch0 _cw_99)
                refine Step.call (r_call (xs := [.tmp 93, .tmp 94]) fk26 rfl) (c_laws_heldExpr _f_103.ls _ (by omega) (by first | omega | (simp <;> omega))) fun _v95 _w_104 _q95 => ?_
                obtain ⟨rfl, _cw_104⟩ := _q95
                have _cw_104z := _cw_104.size
                have E := E.trans _cw_104
                refine WL_step rfl rfl (r_assign rfl) ?_
                refine WL_nil ?_
                refine thn_nrm (_hK_101 _ _ ?_)
                clear _hK_101
                refine W_seq fun _K_105 _hK_105 => ?_
                refine W_seq fun _K_106 _hK_106 => ?_
                refine W_region ?_
                refine WL_step rfl rfl (r_move rfl) ?_
                refine WL_step rfl rfl (r_lss rfl rfl) ?_
                refine WL_nil ?_
                refine thn_nrm (_hK_106 _ _ ?_)
                clear _hK_106
                refine W_condFk rfl _kb_80 ?_
                refine W_skip ?_
                refine thn_nrm (_hK_105 _ _ ?_)
                clear _hK_105
                refine W_seq fun _K_107 _hK_107 => ?_
                refine W_seq fun _K_108 _hK_108 => ?_
                refine W_region ?_
                refine WL_step rfl rfl (r_move rfl) ?_
                refine WL_step rfl rfl (r_move rfl) ?_
                refine WL_step rfl rfl (r_neq rfl rfl) ?_
                refine WL_nil ?_
                refine thn_nrm (_hK_108 _ _ ?_)
                clear _hK_108
                refine W_condFk rfl _kb_84 ?_
                refine W_skip ?_
                refine thn_nrm (_hK_107 _ _ ?_)
                clear _hK_107
                refine W_seq fun _K_109 _hK_109 => ?_
                refine W_region ?_
                refine WL_step rfl rfl (r_assign rfl) ?_
                refine WL_nil ?_
                refine thn_nrm (_hK_109 _ _ ?_)
                clear _hK_109
                refine W_ret ?_
                exact ret_intro [_] ⟨rfl, trivial⟩ ⟨congrArg Value.bool (by first | rfl | (exfalso; omega) | (exfalso; revert _h76; simp; done) | (exfalso; revert _h76; simp; omega)), E⟩

end Go.Proofs.Ytjjmjmbihonicaa
