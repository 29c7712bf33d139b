/- Walks of functions that FnExactBuildPositions reaches: what each returns, and that it leaves the memory that was there alone. -/
import Derived.Test.YthcoliemlekojaaKF
import Derived.Test.YthcoliemlekojaaKG
import Derived.Test.YthcoliemlekojaaKH
import Derived.Test.YthcoliemlekojaaKI
import Derived.Test.YthcoliemlekojaaKJ
import Derived.Test.YthcoliemlekojaaKM
import Derived.Test.YthcoliemlekojaaKN
import Derived.Test.YthcoliemlekojaaKO
import Derived.Test.YthcoliemlekojaaKP
import Derived.Test.YthcoliemlekojaaKQ
import Derived.Test.YthcoliemlekojaaKR
import Derived.Test.YthcoliemlekojaaKS
import Derived.Test.YthcoliemlekojaaKT
import Derived.Test.YthcoliemlekojaaKU
import Derived.Test.YthcoliemlekojaaKV
import Derived.Test.YthcoliemlekojaaKX
import Derived.Test.YthcoliemlekojaaKY
import Derived.Test.YthcoliemlekojaaKZ
import Derived.Test.YthcoliemlekojaaJA
import Derived.Test.YthcoliemlekojaaJB
import Derived.Test.YthcoliemlekojaaJC
import Derived.Test.YthcoliemlekojaaJD
import Derived.Test.YthcoliemlekojaaJE
import Derived.Test.YthcoliemlekojaaJF
import Derived.Test.YthcoliemlekojaaJG
import Derived.Test.YthcoliemlekojaaJH
import Derived.Test.YthcoliemlekojaaJI
import Derived.Test.YthcoliemlekojaaJK
import Derived.Test.YthcoliemlekojaaJM
import Derived.Test.YthcoliemlekojaaJN
import Derived.Test.YthcoliemlekojaaJO
import Derived.Test.YthcoliemlekojaaJP
import Derived.Test.YthcoliemlekojaaJQ
import Derived.Test.YthcoliemlekojaaJR
import Derived.Test.YthcoliemlekojaaJS
import Derived.Test.YthcoliemlekojaaJT
import Derived.Test.YthcoliemlekojaaJU
import Derived.Test.YthcoliemlekojaaJV
import Derived.Test.YthcoliemlekojaaWExactBuildPositions
import Derived.Test.YthcoliemlekojaaWExactBuildPositionsb
import Derived.Test.YthcoliemlekojaaWExactBuildPositionsc
import Derived.Test.YthcoliemlekojaaProg
namespace Go.Proofs.Ythcoliemlekojaa
open Go.KLib Go.Shelf
set_option maxHeartbeats 1000000
set_option maxRecDepth 20000
set_option linter.unusedVariables false
set_option linter.unusedSimpArgs false
namespace TExactBuildPositionsd
theorem agg25 : aggB Try.prog 25 = some false := by kernel_rfl
theorem agg28 : aggB Try.prog 28 = some false := by kernel_rfl
theorem agg3 : aggB Try.prog 3 = some false := by kernel_rfl
theorem agg30 : aggB Try.prog 30 = some true := by kernel_rfl
theorem agg37 : aggB Try.prog 37 = some true := by kernel_rfl
theorem agg4 : aggB Try.prog 4 = some false := by kernel_rfl
theorem agg55 : aggB Try.prog 55 = some true := by kernel_rfl
theorem agg57 : aggB Try.prog 57 = some true := by kernel_rfl
theorem by3 : bytesB Try.prog 3 = some 8 := by kernel_rfl
theorem el25 : elB Try.prog 25 = some 3 := by kernel_rfl
theorem el28 : elB Try.prog 28 = some 55 := by kernel_rfl
theorem fa30_0 : faB Try.prog 30 0 = some 0 := by kernel_rfl
theorem fa37_0 : faB Try.prog 37 0 = some 0 := by kernel_rfl
theorem fa37_1 : faB Try.prog 37 1 = some 1 := by kernel_rfl
theorem fa37_2 : faB Try.prog 37 2 = some 2 := by kernel_rfl
theorem fa37_3 : faB Try.prog 37 3 = some 3 := by kernel_rfl
theorem fa37_4 : faB Try.prog 37 4 = some 4 := by kernel_rfl
theorem fa55_0 : faB Try.prog 55 0 = some 0 := by kernel_rfl
theorem fa55_1 : faB Try.prog 55 1 = some 1 := by kernel_rfl
theorem fa55_2 : faB Try.prog 55 2 = some 2 := by kernel_rfl
theorem fa55_3 : faB Try.prog 55 3 = some 3 := by kernel_rfl
theorem fa57_0 : faB Try.prog 57 0 = some 0 := by kernel_rfl
theorem fa57_1 : faB Try.prog 57 1 = some 1 := by kernel_rfl
theorem fa57_2 : faB Try.prog 57 2 = some 2 := by kernel_rfl
theorem fk19 : fnB Try.prog 19 = true := by kernel_rfl
theorem fk28 : fnB Try.prog 28 = true := by kernel_rfl
theorem fk29 : fnB Try.prog 29 = true := by kernel_rfl
theorem fk48 : fnB Try.prog 48 = true := by kernel_rfl
theorem fk49 : fnB Try.prog 49 = true := by kernel_rfl
theorem fk50 : fnB Try.prog 50 = true := by kernel_rfl
theorem fk51 : fnB Try.prog 51 = true := by kernel_rfl
theorem fk62 : fnB Try.prog 62 = true := by kernel_rfl
theorem fk63 : fnB Try.prog 63 = true := by kernel_rfl
theorem mixed : Try.prog.follows .mixedOrders = true := by kernel_rfl
theorem pl30 : placesB Try.prog 30 = some [(0, 1)] := by kernel_rfl
theorem pl37 : placesB Try.prog 37 = some [(0, 1), (1, 1), (2, 1), (3, 1), (4, 1)] := by kernel_rfl
theorem pl57 : placesB Try.prog 57 = some [(0, 1), (1, 1), (2, 1)] := by kernel_rfl
theorem sz25 : sizeB Try.prog 25 = some 1 := by kernel_rfl
theorem sz3 : sizeB Try.prog 3 = some 1 := by kernel_rfl
theorem sz30 : sizeB Try.prog 30 = some 1 := by kernel_rfl
theorem sz37 : sizeB Try.prog 37 = some 5 := by kernel_rfl
theorem sz4 : sizeB Try.prog 4 = some 1 := by kernel_rfl
theorem sz55 : sizeB Try.prog 55 = some 4 := by kernel_rfl
theorem sz57 : sizeB Try.prog 57 = some 3 := by kernel_rfl
theorem zr3 : zeroB Try.prog 3 = some (.int .i64 0) := by kernel_rfl
theorem zr30 : zeroB Try.prog 30 = some (.agg #[.slice none 0 0]) := by kernel_rfl
theorem zr37 : zeroB Try.prog 37 = some (.agg #[.slice none 0 0, .int .i64 0, .int .i64 0, .slice none 0 0, .bool false]) := by kernel_rfl
theorem zr55 : zeroB Try.prog 55 = some (.agg #[.int .i64 0, .int .i64 0, .int .i64 0, .int .i64 0]) := by kernel_rfl
theorem zr57 : zeroB Try.prog 57 = some (.agg #[.bool false, .int .i64 0, .int .i64 0]) := by kernel_rfl
end TExactBuildPositionsd
open TExactBuildPositionsd

/-- spec.l10Expand -/
theorem c_spec_l10Expand_n : ∀ (n : Nat) {w : World} {LL_l _B_l : Nat} {_v_l : Value} {l : List Token} (_h_l : Ls Token.cs 4 w LL_l _B_l _v_l l) (t : Tr) (hok : Okd t) (hl : l = t.flat) (hb : bndT t ≤ 5000) (hsz : l.length < n),
    Ctr Try.prog 49 #[_v_l] w (fun v w' => ∃ u, v = .agg #[u] ∧ Ol Token.cs 55 4 w' u ((expT t).flat) ∧ Lo w.heap.size u ∧ Ch [] w w') := by
  intro n
  induction n with
  | zero => intros; omega
  | succ n ih =>
  intro w LL_l _B_l _v_l l _h_l t hok hl hb hsz
  obtain ⟨_A_l, _C_l, _e1_l⟩ := _h_l.val
  subst _e1_l
  have _l_l := _h_l.len
  have _h_l := _h_l.here (by decide)
  have E := Ch.refl [] w
  have hn1 := t.flat_pos; rw [← hl] at hn1; have k2 := hok.len
  refine Ctr_of_W (N := 56) (vs0 := [(.slice _A_l l.length _C_l)]) Try.func49 rfl rfl rfl ?_
  refine W_seq fun _K_1 _hK_1 => ?_
  refine W_region ?_
  refine WL_s rfl rfl ?_
  refine s_alloc zr30 fun _b2 _w_2 _m2 _cw_2 _e2 => ?_
  have _cw_2z := _cw_2.size
  have E := E.trans _cw_2
  have _z2 := _m2.lt
  replace _m2 : Blk _w_2 _b2 30 [(.slice none 0 0)] := _m2
  refine WL_nil ?_
  refine thn_nrm (_hK_1 _ _ ?_)
  clear _hK_1
  refine W_seq fun _K_3 _hK_3 => ?_
  refine W_region ?_
  refine WL_step rfl rfl (r_move rfl) ?_
  refine WL_step rfl rfl (r_len (by rw [el28]; rfl) rfl) ?_
  refine WL_step rfl rfl (r_sub (by omega) rfl rfl) ?_
  refine WL_step rfl rfl (r_assign rfl) ?_
  refine WL_nil ?_
  refine thn_nrm (_hK_3 _ _ ?_)
  clear _hK_3
  refine W_seq fun _K_4 _hK_4 => ?_
  refine W_region ?_
  refine WL_step rfl rfl (r_move rfl) ?_
  refine WL_step rfl rfl (r_move rfl) ?_
  refine WL_s rfl rfl ?_
  have _f_5 := (_h_l.ch0 _cw_2)
  refine (s_index (j := (((l.length : Nat) : Int) - 1).toNat) _f_5 Token.len el28 sz55 rfl rfl (by omega) (by omega) fun _p11 _y11 _hy11 _a11 => ?_)
  have _ht := last_tok hl (by omega) _hy11
  have htk := congrArg Token.kind _ht
  have hte := congrArg Token.letter _ht
  have htl := congrArg Token.low _ht
  have hth := congrArg Token.high _ht
  refine WL_step rfl rfl (r_loadAtA0 _a11 agg55 sz55 rfl) ?_
  refine WL_s rfl rfl ?_
  refine s_alloc zr55 fun _b4 _w_6 _m4 _cw_6 _e4 => ?_
  have _cw_6z := _cw_6.size
  have E := E.trans _cw_6
  have _z4 := _m4.lt
  replace _m4 : Blk _w_6 _b4 55 [(.int .i64 0), (.int .i64 0), (.int .i64 0), (.int .i64 0)] := _m4
  refine WL_s rfl rfl ?_
  refine s_storeA (off := 0) 4 _m4 sz55 rfl (us := [(.int .i64 _y11.kind), (.int .i64 _y11.letter), (.int .i64 _y11.low), (.int .i64 _y11.high)]) rfl rfl rfl rfl fun _w_7 _m_8 _cw_7 => ?_
  have _cw_7z := _cw_7.size
  have E := E.step _cw_7 (fun i hi => .inl (by have _h1 := List.mem_singleton.1 hi; omega))
  replace _m_8 : Blk _w_7 _b4 55 [(.int .i64 _y11.kind), (.int .i64 _y11.letter), (.int .i64 _y11.low), (.int .i64 _y11.high)] := _m_8
  refine WL_nil ?_
  refine thn_nrm (_hK_4 _ _ ?_)
  clear _hK_4
  refine W_seq fun _K_9 _hK_9 => ?_
  refine W_seq fun _K_10 _hK_10 => ?_
  refine W_region ?_
  refine WL_step rfl rfl (r_fieldAddr fa55_0 rfl) ?_
  refine WL_step rfl rfl (r_loadAt _m_8.at_ agg3 rfl rfl) ?_
  refine WL_nil ?_
  refine thn_nrm (_hK_10 _ _ ?_)
  clear _hK_10
  refine W_block ?_
  refine W_seq fun _K_11 _hK_11 => ?_
  refine W_seq fun _K_12 _hK_12 => ?_
  refine W_region ?_
  refine WL_step rfl rfl (r_eql rfl rfl) ?_
  refine WL_step rfl rfl (r_assign rfl) ?_
  refine WL_nil ?_
  refine thn_nrm (_hK_12 _ _ ?_)
  clear _hK_12
  refine W_cond rfl (fun _h15 => ?_) (fun _h15 => ?_)
  · have _kb_13 := _h15
    have _h15 := bt_d _h15
    obtain ⟨ta, tb, et, oa, ob, hla, hn2⟩ := hok.k2 (by omega) _ht hl
    have _hk0 : t.kids[0]? = some ta := by rw [et]; rfl
    have _hk1 : t.kids[1]? = some tb := by rw [et]; rfl
    have ga := ta.flat_len
    have gb := tb.flat_len
    have ba := bnd_kid hok hb _hk0
    have ea := expT_sz oa ba
    have fa := (expT ta).flat_len
    have ra := bndT_rng oa
    have bc := bnd_kid hok hb _hk1
    have ec := expT_sz ob bc
    have fc := (expT tb).flat_len
    have rc := bndT_rng ob
    refine W_skip ?_
    refine thn_nrm (_hK_11 _ _ ?_)
    clear _hK_11
    refine W_condTk rfl _kb_13 ?_
    refine W_seq fun _K_14 _hK_14 => ?_
    refine W_region ?_
    refine WL_step rfl rfl (r_move rfl) ?_
    refine WL_step rfl rfl (r_move rfl) ?_
    refine WL_s rfl rfl ?_
    have _f_15 := ((_f_5.ch0 _cw_6).ch _cw_7 (fun i hi => by have _h1 := List.mem_singleton.1 hi; omega))
    refine (s_cut (ys := (ta.flat ++ tb.flat)) 0 ((((l.length : Nat) : Int) - 1).toNat) _f_15 Token.len el28 sz55 rfl rfl ⟨_, _, rfl, by omega⟩ (by omega) (by omega) (show l.take _ = _ from cut_ab hla (by omega)) fun _v20 _q20 _bb20 _ln20 => ?_)
    obtain ⟨_A20, _C20, _e20⟩ := _q20.val
    subst _e20
    have _l20 := _q20.len
    refine WL_s rfl rfl ?_
    refine Step.call (r_call (xs := [.tmp 20]) fk50 rfl) (c_spec_l8Start _q20 ta.flat tb ob rfl) fun _v21 _w_16 _q21 => ?_
    obtain ⟨rfl, _cw_16⟩ := _q21
    have _cw_16z := _cw_16.size
    have E := E.trans _cw_16
    refine WL_step rfl rfl (r_assign rfl) ?_
    refine WL_nil ?_
    refine thn_nrm (_hK_14 _ _ ?_)
    clear _hK_14
    refine W_seq fun _K_17 _hK_17 => ?_
    refine W_drawC [_b2] 12 mixed rfl fun _w_18 _cw_18 => ?_
    have _cw_18z := _cw_18.size
    have E := E.trans _cw_18
    refine DR_s 0 rfl (by kernel_rfl) rfl rfl (t_v (fun _ => (r_move rfl)) ?_)
    refine DR_s 1 rfl (by kernel_rfl) rfl rfl (t_v (fun _ => (r_move rfl)) ?_)
    have _f_19 := ((_f_15.ch0 _cw_16).ch0 _cw_18)
    refine DR_s 2 rfl (by kernel_rfl) rfl rfl (t_cut (ys := ta.flat) 0 ta.flat.length _f_19 Token.len el28 sz55 rfl rfl ⟨_, _, rfl, by omega⟩ (by omega) (by omega) (show l.take _ = _ from cut_a hla (by omega)) fun _v24 _q24 _bb24 _ln24 => ?_)
    obtain ⟨_A24, _C24, _e24⟩ := _q24.val
    subst _e24
    have _l24 := _q24.len
    refine DR_s 4 rfl (by kernel_rfl) rfl rfl (t_v (fun _ => (r_move rfl)) ?_)
    refine DR_s 5 rfl (by kernel_rfl) rfl rfl (t_v (fun _ => (r_move rfl)) ?_)
    refine DR_s 6 rfl (by kernel_rfl) rfl rfl (t_v (fun _ => (r_move rfl)) ?_)
    refine DR_s 7 rfl (by kernel_rfl) rfl rfl (t_cut (ys := tb.flat) ta.flat.length ((((l.length : Nat) : Int) - 1).toNat) _f_19 Token.len el28 sz55 rfl ⟨_, _, rfl, by omega⟩ ⟨_, _, rfl, by omega⟩ (by omega) (by omega) (cut_b hla (by omega) (by omega)) fun _v29 _q29 _bb29 _ln29 => ?_)
    obtain ⟨_A29, _C29, _e29⟩ := _q29.val
    subst _e29
    have _l29 := _q29.len
    have _f_20 := ((_m_8.ch0 _cw_16).ch0 _cw_18)
    refine DR_s 9 rfl (by kernel_rfl) rfl rfl (t_loadAtA0 _f_20.at_ (fun i hm => by have _h1 := List.mem_singleton.1 hm; omega) agg55 sz55 rfl ?_)
    refine DR_one 3 (by kernel_rfl) ?_
    refine DO_s rfl rfl rfl ?_
    refine Step.call (r_call (xs := [.tmp 24]) fk49 rfl) (ih _q24 ta oa rfl ba (by omega)) fun _v25 _w_21 _q25 => ?_
    obtain ⟨_u25, rfl, _q25, _lo25, _cw_21⟩ := _q25
    have _cw_21z := _cw_21.size
    have E := E.trans _cw_21
    obtain ⟨_Au25, _Cu25, _eu25⟩ := _q25.val
    subst _eu25
    have _lu25 := _q25.len
    have _hiu25 := _q25.lt
    have _S_22 : Ch [_b2] _w_18 _w_21 := ((Ch.refl _ _).trans _cw_21.of_nil)
    refine ⟨_S_22, ?_⟩
    refine DR_one 8 (by kernel_rfl) ?_
    refine DO_s rfl rfl rfl ?_
    have _f_23 := (_q29.ch0 _cw_21)
    refine Step.call (r_call (xs := [.tmp 29]) fk49 rfl) (ih _f_23 tb ob rfl bc (by omega)) fun _v30 _w_24 _q30 => ?_
    obtain ⟨_u30, rfl, _q30, _lo30, _cw_24⟩ := _q30
    have _cw_24z := _cw_24.size
    have E := E.trans _cw_24
    obtain ⟨_Au30, _Cu30, _eu30⟩ := _q30.val
    subst _eu30
    have _lu30 := _q30.len
    have _hiu30 := _q30.lt
    have _S_25 : Ch [_b2] _w_18 _w_24 := (_S_22.trans _cw_24.of_nil)
    refine ⟨_S_25, ?_⟩
    refine DR_one 10 (by kernel_rfl) ?_
    refine DO_s rfl rfl rfl ?_
    have _f_26 := (_q25.ch0 _cw_24)
    refine Step.call (r_call (xs := [.tmp 25, .tmp 30, .tmp 31]) fk62 rfl) (c_spec_l8Join _f_26.ls _q30.ls _y11 (by omega)) fun _v32 _w_27 _q32 => ?_
    obtain ⟨_u32, rfl, _q32, _lo32, _cw_27⟩ := _q32
    have _cw_27z := _cw_27.size
    have E := E.trans _cw_27
    obtain ⟨_Au32, _Cu32, _eu32⟩ := _q32.val
    subst _eu32
    have _lu32 := _q32.len
    have _hiu32 := _q32.lt
    have _S_28 : Ch [_b2] _w_18 _w_27 := (_S_25.trans _cw_27.of_nil)
    refine ⟨_S_28, ?_⟩
    refine DR_one 11 (by kernel_rfl) ?_
    refine DO_s rfl rfl rfl ?_
    have _f_29 := (((((((_m2.ch0 _cw_6).ch _cw_7 (fun hm => by have _h1 := List.mem_singleton.1 hm; omega)).ch0 _cw_16).ch0 _cw_18).ch0 _cw_21).ch0 _cw_24).ch0 _cw_27)
    refine s_storeA (off := 0) 1 _f_29 sz30 rfl (us := [(.slice _Au32 (((expT ta).flat) ++ ((expT tb).flat) ++ [_y11]).length _Cu32)]) rfl rfl rfl rfl fun _w_30 _m_31 _cw_30 => ?_
    have _cw_30z := _cw_30.size
    have E := E.step _cw_30 (fun i hi => .inl (by have _h1 := List.mem_singleton.1 hi; omega))
    replace _m_31 : Blk _w_30 _b2 30 [(.slice _Au32 (((expT ta).flat) ++ ((expT tb).flat) ++ [_y11]).length _Cu32)] := _m_31
    have _S_32 : Ch [_b2] _w_18 _w_30 := (_S_28.step _cw_30 (fun i hm => by have _h0 := List.mem_singleton.1 hm; exact .inr (by rw [_h0]; exact (List.mem_singleton.2 rfl))))
    refine ⟨_S_32, ?_⟩
    refine DR_done (by kernel_rfl) ?_
    refine thn_nrm (_hK_17 _ _ ?_)
    clear _hK_17
    refine W_ret (inB_ret (thn_ret ?_))
    clear _hK_9
    have _f_34 := (_q32.ch _cw_30 (fun g hg hm => by have _h0 := List.mem_singleton.1 hm; have _h2 := _lo32 _ hg; have _h3 := _hiu32 _ hg; omega))
    have _o_33 : Ol Token.cs 55 4 _w_30 (.slice _Au32 (((expT ta).flat) ++ ((expT tb).flat) ++ [_y11]).length _Cu32) ((expT t).flat) := by
      have hx := _f_34
      exact hx.eq (by first | (rw [← exp2 hok (by omega) _hk0 _hk1, _ht]; rfl) | (rw [← exp6 hok (by omega) _hk0, _ht]; simp [Tr.flat]; done) | (rw [← exp7 hok (by omega) _hk0, _ht]) | (rw [← exp0 hok (by omega), _ht]; rfl))
    exact ret_intro [_] (resOf_loadA _m_31 rfl agg30 sz30 trivial) ⟨_, rfl, _o_33, Lo.down _lo32 (by omega), E⟩
  · have _kb_13 := _h15
    have _h15 := bf_d _h15
    refine W_region ?_
    refine WL_step rfl rfl (r_eql rfl rfl) ?_
    refine WL_step rfl rfl (r_assign rfl) ?_
    refine WL_nil ?_
    refine thn_nrm (_hK_11 _ _ ?_)
    clear _hK_11
    refine W_cond rfl (fun _h15 => ?_) (fun _h15 => ?_)
    · have _kb_35 := _h15
      have _h15 := bt_d _h15
      obtain ⟨ta, tb, et, oa, ob, hla, hn2⟩ := hok.k2 (by omega) _ht hl
      have _hk0 : t.kids[0]? = some ta := by rw [et]; rfl
      have _hk1 : t.kids[1]? = some tb := by rw [et]; rfl
      have ga := ta.flat_len
      have gb := tb.flat_len
      have ba := bnd_kid hok hb _hk0
      have ea := expT_sz oa ba
      have fa := (expT ta).flat_len
      have ra := bndT_rng oa
      have bc := bnd_kid hok hb _hk1
      have ec := expT_sz ob bc
      have fc := (expT tb).flat_len
      have rc := bndT_rng ob
      refine W_seq fun _K_36 _hK_36 => ?_
      refine W_region ?_
      refine WL_step rfl rfl (r_move rfl) ?_
      refine WL_step rfl rfl (r_move rfl) ?_
      refine WL_s rfl rfl ?_
      have _f_37 := ((_f_5.ch0 _cw_6).ch _cw_7 (fun i hi => by have _h1 := List.mem_singleton.1 hi; omega))
      refine (s_cut (ys := (ta.flat ++ tb.flat)) 0 ((((l.length : Nat) : Int) - 1).toNat) _f_37 Token.len el28 sz55 rfl rfl ⟨_, _, rfl, by omega⟩ (by omega) (by omega) (show l.take _ = _ from cut_ab hla (by omega)) fun _v20 _q20 _bb20 _ln20 => ?_)
      obtain ⟨_A20, _C20, _e20⟩ := _q20.val
      subst _e20
      have _l20 := _q20.len
      refine WL_s rfl rfl ?_
      refine Step.call (r_call (xs := [.tmp 20]) fk50 rfl) (c_spec_l8Start _q20 ta.flat tb ob rfl) fun _v21 _w_38 _q21 => ?_
      obtain ⟨rfl, _cw_38⟩ := _q21
      have _cw_38z := _cw_38.size
      have E := E.trans _cw_38
      refine WL_step rfl rfl (r_assign rfl) ?_
      refine WL_nil ?_
      refine thn_nrm (_hK_36 _ _ ?_)
      clear _hK_36
      refine W_seq fun _K_39 _hK_39 => ?_
      refine W_drawC [_b2] 12 mixed rfl fun _w_40 _cw_40 => ?_
      have _cw_40z := _cw_40.size
      have E := E.trans _cw_40
      refine DR_s 0 rfl (by kernel_rfl) rfl rfl (t_v (fun _ => (r_move rfl)) ?_)
      refine DR_s 1 rfl (by kernel_rfl) rfl rfl (t_v (fun _ => (r_move rfl)) ?_)
      have _f_41 := ((_f_37.ch0 _cw_38).ch0 _cw_40)
      refine DR_s 2 rfl (by kernel_rfl) rfl rfl (t_cut (ys := ta.flat) 0 ta.flat.length _f_41 Token.len el28 sz55 rfl rfl ⟨_, _, rfl, by omega⟩ (by omega) (by omega) (show l.take _ = _ from cut_a hla (by omega)) fun _v24 _q24 _bb24 _ln24 => ?_)
      obtain ⟨_A24, _C24, _e24⟩ := _q24.val
      subst _e24
      have _l24 := _q24.len
      refine DR_s 4 rfl (by kernel_rfl) rfl rfl (t_v (fun _ => (r_move rfl)) ?_)
      refine DR_s 5 rfl (by kernel_rfl) rfl rfl (t_v (fun _ => (r_move rfl)) ?_)
      refine DR_s 6 rfl (by kernel_rfl) rfl rfl (t_v (fun _ => (r_move rfl)) ?_)
      refine DR_s 7 rfl (by kernel_rfl) rfl rfl (t_cut (ys := tb.flat) ta.flat.length ((((l.length : Nat) : Int) - 1).toNat) _f_41 Token.len el28 sz55 rfl ⟨_, _, rfl, by omega⟩ ⟨_, _, rfl, by omega⟩ (by omega) (by omega) (cut_b hla (by omega) (by omega)) fun _v29 _q29 _bb29 _ln29 => ?_)
      obtain ⟨_A29, _C29, _e29⟩ := _q29.val
      subst _e29
      have _l29 := _q29.len
      have _f_42 := ((_m_8.ch0 _cw_38).ch0 _cw_40)
      refine DR_s 9 rfl (by kernel_rfl) rfl rfl (t_loadAtA0 _f_42.at_ (fun i hm => by have _h1 := List.mem_singleton.1 hm; omega) agg55 sz55 rfl ?_)
      refine DR_one 3 (by kernel_rfl) ?_
      refine DO_s rfl rfl rfl ?_
      refine Step.call (r_call (xs := [.tmp 24]) fk49 rfl) (ih _q24 ta oa rfl ba (by omega)) fun _v25 _w_43 _q25 => ?_
      obtain ⟨_u25, rfl, _q25, _lo25, _cw_43⟩ := _q25
      have _cw_43z := _cw_43.size
      have E := E.trans _cw_43
      obtain ⟨_Au25, _Cu25, _eu25⟩ := _q25.val
      subst _eu25
      have _lu25 := _q25.len
      have _hiu25 := _q25.lt
      have _S_44 : Ch [_b2] _w_40 _w_43 := ((Ch.refl _ _).trans _cw_43.of_nil)
      refine ⟨_S_44, ?_⟩
      refine DR_one 8 (by kernel_rfl) ?_
      refine DO_s rfl rfl rfl ?_
      have _f_45 := (_q29.ch0 _cw_43)
      refine Step.call (r_call (xs := [.tmp 29]) fk49 rfl) (ih _f_45 tb ob rfl bc (by omega)) fun _v30 _w_46 _q30 => ?_
      obtain ⟨_u30, rfl, _q30, _lo30, _cw_46⟩ := _q30
      have _cw_46z := _cw_46.size
      have E := E.trans _cw_46
      obtain ⟨_Au30, _Cu30, _eu30⟩ := _q30.val
      subst _eu30
      have _lu30 := _q30.len
      have _hiu30 := _q30.lt
      have _S_47 : Ch [_b2] _w_40 _w_46 := (_S_44.trans _cw_46.of_nil)
      refine ⟨_S_47, ?_⟩
      refine DR_one 10 (by kernel_rfl) ?_
      refine DO_s rfl rfl rfl ?_
      have _f_48 := (_q25.ch0 _cw_46)
      refine Step.call (r_call (xs := [.tmp 25, .tmp 30, .tmp 31]) fk62 rfl) (c_spec_l8Join _f_48.ls _q30.ls _y11 (by omega)) fun _v32 _w_49 _q32 => ?_
      obtain ⟨_u32, rfl, _q32, _lo32, _cw_49⟩ := _q32
      have _cw_49z := _cw_49.size
      have E := E.trans _cw_49
      obtain ⟨_Au32, _Cu32, _eu32⟩ := _q32.val
      subst _eu32
      have _lu32 := _q32.len
      have _hiu32 := _q32.lt
      have _S_50 : Ch [_b2] _w_40 _w_49 := (_S_47.trans _cw_49.of_nil)
      refine ⟨_S_50, ?_⟩
      refine DR_one 11 (by kernel_rfl) ?_
      refine DO_s rfl rfl rfl ?_
      have _f_51 := (((((((_m2.ch0 _cw_6).ch _cw_7 (fun hm => by have _h1 := List.mem_singleton.1 hm; omega)).ch0 _cw_38).ch0 _cw_40).ch0 _cw_43).ch0 _cw_46).ch0 _cw_49)
      refine s_storeA (off := 0) 1 _f_51 sz30 rfl (us := [(.slice _Au32 (((expT ta).flat) ++ ((expT tb).flat) ++ [_y11]).length _Cu32)]) rfl rfl rfl rfl fun _w_52 _m_53 _cw_52 => ?_
      have _cw_52z := _cw_52.size
      have E := E.step _cw_52 (fun i hi => .inl (by have _h1 := List.mem_singleton.1 hi; omega))
      replace _m_53 : Blk _w_52 _b2 30 [(.slice _Au32 (((expT ta).flat) ++ ((expT tb).flat) ++ [_y11]).length _Cu32)] := _m_53
      have _S_54 : Ch [_b2] _w_40 _w_52 := (_S_50.step _cw_52 (fun i hm => by have _h0 := List.mem_singleton.1 hm; exact .inr (by rw [_h0]; exact (List.mem_singleton.2 rfl))))
      refine ⟨_S_54, ?_⟩
      refine DR_done (by kernel_rfl) ?_
      refine thn_nrm (_hK_39 _ _ ?_)
      clear _hK_39
      refine W_ret (inB_ret (thn_ret ?_))
      clear _hK_9
      have _f_56 := (_q32.ch _cw_52 (fun g hg hm => by have _h0 := List.mem_singleton.1 hm; have _h2 := _lo32 _ hg; have _h3 := _hiu32 _ hg; omega))
      have _o_55 : Ol Token.cs 55 4 _w_52 (.slice _Au32 (((expT ta).flat) ++ ((expT tb).flat) ++ [_y11]).length _Cu32) ((expT t).flat) := by
        have hx := _f_56
        exact hx.eq (by first | (rw [← exp2 hok (by omega) _hk0 _hk1, _ht]; rfl) | (rw [← exp6 hok (by omega) _hk0, _ht]; simp [Tr.flat]; done) | (rw [← exp7 hok (by omega) _hk0, _ht]) | (rw [← exp0 hok (by omega), _ht]; rfl))
      exact ret_intro [_] (resOf_loadA _m_53 rfl agg30 sz30 trivial) ⟨_, rfl, _o_55, Lo.down _lo32 (by omega), E⟩
    · have _kb_35 := _h15
      have _h15 := bf_d _h15
      refine W_seq fun _K_57 _hK_57 => ?_
      refine W_region ?_
      refine WL_step rfl rfl (r_eql rfl rfl) ?_
      refine WL_step rfl rfl (r_assign rfl) ?_
      refine WL_nil ?_
      refine thn_nrm (_hK_57 _ _ ?_)
      clear _hK_57
      refine W_cond rfl (fun _h33 => ?_) (fun _h33 => ?_)
      · have _kb_58 := _h33
        have _h33 := bt_d _h33
        obtain ⟨ta, et, oa, hla, hn2⟩ := hok.k1 (by omega) _ht hl
        have _hk0 : t.kids[0]? = some ta := by rw [et]; rfl
        have ga := ta.flat_len
        have ba := bnd_kid hok hb _hk0
        have ea := expT_sz oa ba
        have fa := (expT ta).flat_len
        have ra := bndT_rng oa
        refine W_seq fun _K_59 _hK_59 => ?_
        refine W_drawC [_b2] 8 mixed rfl fun _w_60 _cw_60 => ?_
        have _cw_60z := _cw_60.size
        have E := E.trans _cw_60
        refine DR_s 0 rfl (by kernel_rfl) rfl rfl (t_v (fun _ => (r_move rfl)) ?_)
        refine DR_s 1 rfl (by kernel_rfl) rfl rfl (t_v (fun _ => (r_move rfl)) ?_)
        have _f_61 := (((_f_5.ch0 _cw_6).ch _cw_7 (fun i hi => by have _h1 := List.mem_singleton.1 hi; omega)).ch0 _cw_60)
        refine DR_s 2 rfl (by kernel_rfl) rfl rfl (t_cut (ys := ta.flat) 0 ((((l.length : Nat) : Int) - 1).toNat) _f_61 Token.len el28 sz55 rfl rfl ⟨_, _, rfl, by omega⟩ (by omega) (by omega) (show l.take _ = _ from cut_1 hla (by omega)) fun _v37 _q37 _bb37 _ln37 => ?_)
        obtain ⟨_A37, _C37, _e37⟩ := _q37.val
        subst _e37
        have _l37 := _q37.len
        refine DR_s 4 rfl (by kernel_rfl) rfl rfl (t_v (fun _ => (r_build (parts := []) (cells := [(.slice none 0 0)]) zr30 pl30 rfl rfl)) ?_)
        have _f_62 := (_m_8.ch0 _cw_60)
        refine DR_s 5 rfl (by kernel_rfl) rfl rfl (t_loadAtA0 _f_62.at_ (fun i hm => by have _h1 := List.mem_singleton.1 hm; omega) agg55 sz55 rfl ?_)
        refine DR_one 3 (by kernel_rfl) ?_
        refine DO_s rfl rfl rfl ?_
        refine Step.call (r_call (xs := [.tmp 37]) fk49 rfl) (ih _q37 ta oa rfl ba (by omega)) fun _v38 _w_63 _q38 => ?_
        obtain ⟨_u38, rfl, _q38, _lo38, _cw_63⟩ := _q38
        have _cw_63z := _cw_63.size
        have E := E.trans _cw_63
        obtain ⟨_Au38, _Cu38, _eu38⟩ := _q38.val
        subst _eu38
        have _lu38 := _q38.len
        have _hiu38 := _q38.lt
        have _S_64 : Ch [_b2] _w_60 _w_63 := ((Ch.refl _ _).trans _cw_63.of_nil)
        refine ⟨_S_64, ?_⟩
        refine DR_one 6 (by kernel_rfl) ?_
        refine DO_s rfl rfl rfl ?_
        refine Step.call (r_call (xs := [.tmp 38, .tmp 39, .tmp 40]) fk62 rfl) (c_spec_l8Join _q38.ls (Ls.nil (cs := Token.cs) (k := 4) _ 0 0) _y11 (by simp only [List.length_nil]; omega)) fun _v41 _w_65 _q41 => ?_
        obtain ⟨_u41, rfl, _q41, _lo41, _cw_65⟩ := _q41
        have _cw_65z := _cw_65.size
        have E := E.trans _cw_65
        obtain ⟨_Au41, _Cu41, _eu41⟩ := _q41.val
        subst _eu41
        have _lu41 := _q41.len
        have _hiu41 := _q41.lt
        have _S_66 : Ch [_b2] _w_60 _w_65 := (_S_64.trans _cw_65.of_nil)
        refine ⟨_S_66, ?_⟩
        refine DR_one 7 (by kernel_rfl) ?_
        refine DO_s rfl rfl rfl ?_
        have _f_67 := (((((_m2.ch0 _cw_6).ch _cw_7 (fun hm => by have _h1 := List.mem_singleton.1 hm; omega)).ch0 _cw_60).ch0 _cw_63).ch0 _cw_65)
        refine s_storeA (off := 0) 1 _f_67 sz30 rfl (us := [(.slice _Au41 (((expT ta).flat) ++ [] ++ [_y11]).length _Cu41)]) rfl rfl rfl rfl fun _w_68 _m_69 _cw_68 => ?_
        have _cw_68z := _cw_68.size
        have E := E.step _cw_68 (fun i hi => .inl (by have _h1 := List.mem_singleton.1 hi; omega))
        replace _m_69 : Blk _w_68 _b2 30 [(.slice _Au41 (((expT ta).flat) ++ [] ++ [_y11]).length _Cu41)] := _m_69
        have _S_70 : Ch [_b2] _w_60 _w_68 := (_S_66.step _cw_68 (fun i hm => by have _h0 := List.mem_singleton.1 hm; exact .inr (by rw [_h0]; exact (List.mem_singleton.2 rfl))))
        refine ⟨_S_70, ?_⟩
        refine DR_done (by kernel_rfl) ?_
        refine thn_nrm (_hK_59 _ _ ?_)
        clear _hK_59
        refine W_ret (inB_ret (thn_ret ?_))
        clear _hK_9
        have _f_72 := (_q41.ch _cw_68 (fun g hg hm => by have _h0 := List.mem_singleton.1 hm; have _h2 := _lo41 _ hg; have _h3 := _hiu41 _ hg; omega))
        have _o_71 : Ol Token.cs 55 4 _w_68 (.slice _Au41 (((expT ta).flat) ++ [] ++ [_y11]).length _Cu41) ((expT t).flat) := by
          have hx := _f_72
          exact hx.eq (by first | (rw [← exp2 hok (by omega) _hk0 _hk1, _ht]; rfl) | (rw [← exp6 hok (by omega) _hk0, _ht]; simp [Tr.flat]; done) | (rw [← exp7 hok (by omega) _hk0, _ht]) | (rw [← exp0 hok (by omega), _ht]; rfl))
        exact ret_intro [_] (resOf_loadA _m_69 rfl agg30 sz30 trivial) ⟨_, rfl, _o_71, Lo.down _lo41 (by omega), E⟩
      · have _kb_58 := _h33
        have _h33 := bf_d _h33
        refine W_seq fun _K_73 _hK_73 => ?_
        refine W_region ?_
        refine WL_step rfl rfl (r_eql rfl rfl) ?_
        refine WL_step rfl rfl (r_assign rfl) ?_
        refine WL_nil ?_
        refine thn_nrm (_hK_73 _ _ ?_)
        clear _hK_73
        refine W_cond rfl (fun _h42 => ?_) (fun _h42 => ?_)
        · have _kb_74 := _h42
          have _h42 := bt_d _h42
          obtain ⟨ta, et, oa, hla, hn2⟩ := hok.k1 (by omega) _ht hl
          have _hk0 : t.kids[0]? = some ta := by rw [et]; rfl
          have ga := ta.flat_len
          have ba := bnd_kid hok hb _hk0
          have ea := expT_sz oa ba
          have fa := (expT ta).flat_len
          have ra := bndT_rng oa
          have r7 := hok.r7 (by omega)
          refine W_seq fun _K_75 _hK_75 => ?_
          refine W_drawC [_b2] 10 mixed rfl fun _w_76 _cw_76 => ?_
          have _cw_76z := _cw_76.size
          have E := E.trans _cw_76
          refine DR_s 0 rfl (by kernel_rfl) rfl rfl (t_v (fun _ => (r_move rfl)) ?_)
          refine DR_s 1 rfl (by kernel_rfl) rfl rfl (t_v (fun _ => (r_move rfl)) ?_)
          have _f_77 := (((_f_5.ch0 _cw_6).ch _cw_7 (fun i hi => by have _h1 := List.mem_singleton.1 hi; omega)).ch0 _cw_76)
          refine DR_s 2 rfl (by kernel_rfl) rfl rfl (t_cut (ys := ta.flat) 0 ((((l.length : Nat) : Int) - 1).toNat) _f_77 Token.len el28 sz55 rfl rfl ⟨_, _, rfl, by omega⟩ (by omega) (by omega) (show l.take _ = _ from cut_1 hla (by omega)) fun _v46 _q46 _bb46 _ln46 => ?_)
          obtain ⟨_A46, _C46, _e46⟩ := _q46.val
          subst _e46
          have _l46 := _q46.len
          refine DR_s 4 rfl (by kernel_rfl) rfl rfl (t_v (fun _ => (r_fieldAddr fa55_2 rfl)) ?_)
          have _f_78 := (_m_8.ch0 _cw_76)
          refine DR_s 5 rfl (by kernel_rfl) rfl rfl (t_loadAt _f_78.at_ (fun i hm => by have _h1 := List.mem_singleton.1 hm; omega) agg3 rfl rfl ?_)
          refine DR_s 6 rfl (by kernel_rfl) rfl rfl (t_v (fun _ => (r_fieldAddr fa55_3 rfl)) ?_)
          refine DR_s 7 rfl (by kernel_rfl) rfl rfl (t_loadAt _f_78.at_ (fun i hm => by have _h1 := List.mem_singleton.1 hm; omega) agg3 rfl rfl ?_)
          refine DR_one 3 (by kernel_rfl) ?_
          refine DO_s rfl rfl rfl ?_
          refine Step.call (r_call (xs := [.tmp 46]) fk49 rfl) (ih _q46 ta oa rfl ba (by omega)) fun _v47 _w_79 _q47 => ?_
          obtain ⟨_u47, rfl, _q47, _lo47, _cw_79⟩ := _q47
          have _cw_79z := _cw_79.size
          have E := E.trans _cw_79
          obtain ⟨_Au47, _Cu47, _eu47⟩ := _q47.val
          subst _eu47
          have _lu47 := _q47.len
          have _hiu47 := _q47.lt
          have _S_80 : Ch [_b2] _w_76 _w_79 := ((Ch.refl _ _).trans _cw_79.of_nil)
          refine ⟨_S_80, ?_⟩
          refine DR_one 8 (by kernel_rfl) ?_
          refine DO_s rfl rfl rfl ?_
          refine Step.call (r_call (xs := [.tmp 47, .tmp 49, .tmp 51]) fk63 rfl) (c_spec_l10Times _q47.ls _ _ (expT ta) rfl (by omega) (by omega) (by omega) (by omega) (by omega)) fun _v52 _w_81 _q52 => ?_
          obtain ⟨_u52, rfl, _q52, _lo52, _cw_81⟩ := _q52
          have _cw_81z := _cw_81.size
          have E := E.trans _cw_81
          obtain ⟨_Au52, _Cu52, _eu52⟩ := _q52.val
          subst _eu52
          have _lu52 := _q52.len
          have _hiu52 := _q52.lt
          have _S_82 : Ch [_b2] _w_76 _w_81 := (_S_80.trans _cw_81.of_nil)
          refine ⟨_S_82, ?_⟩
          refine DR_one 9 (by kernel_rfl) ?_
          refine DO_s rfl rfl rfl ?_
          have _f_83 := (((((_m2.ch0 _cw_6).ch _cw_7 (fun hm => by have _h1 := List.mem_singleton.1 hm; omega)).ch0 _cw_76).ch0 _cw_79).ch0 _cw_81)
          refine s_storeA (off := 0) 1 _f_83 sz30 rfl (us := [(.slice _Au52 ((timT (expT ta) _y11.low (_y11.high).toNat).flat).length _Cu52)]) rfl rfl rfl rfl fun _w_84 _m_85 _cw_84 => ?_
          have _cw_84z := _cw_84.size
          have E := E.step _cw_84 (fun i hi => .inl (by have _h1 := List.mem_singleton.1 hi; omega))
          replace _m_85 : Blk _w_84 _b2 30 [(.slice _Au52 ((timT (expT ta) _y11.low (_y11.high).toNat).flat).length _Cu52)] := _m_85
          have _S_86 : Ch [_b2] _w_76 _w_84 := (_S_82.step _cw_84 (fun i hm => by have _h0 := List.mem_singleton.1 hm; exact .inr (by rw [_h0]; exact (List.mem_singleton.2 rfl))))
          refine ⟨_S_86, ?_⟩
          refine DR_done (by kernel_rfl) ?_
          refine thn_nrm (_hK_75 _ _ ?_)
          clear _hK_75
          refine W_ret (inB_ret (thn_ret ?_))
          clear _hK_9
          have _f_88 := (_q52.ch _cw_84 (fun g hg hm => by have _h0 := List.mem_singleton.1 hm; have _h2 := _lo52 _ hg; have _h3 := _hiu52 _ hg; omega))
          have _o_87 : Ol Token.cs 55 4 _w_84 (.slice _Au52 ((timT (expT ta) _y11.low (_y11.high).toNat).flat).length _Cu52) ((expT t).flat) := by
            have hx := _f_88
            exact hx.eq (by first | (rw [← exp2 hok (by omega) _hk0 _hk1, _ht]; rfl) | (rw [← exp6 hok (by omega) _hk0, _ht]; simp [Tr.flat]; done) | (rw [← exp7 hok (by omega) _hk0, _ht]) | (rw [← exp0 hok (by omega), _ht]; rfl))
          exact ret_intro [_] (resOf_loadA _m_85 rfl agg30 sz30 trivial) ⟨_, rfl, _o_87, Lo.down _lo52 (by omega), E⟩
        · have _kb_74 := _h42
          have _h42 := bf_d _h42
          refine W_skip ?_
          refine inB_nrm ?_
          refine thn_nrm (_hK_9 _ _ ?_)
          clear _hK_9
          refine W_seq fun _K_89 _hK_89 => ?_
          refine W_region ?_
          refine WL_step rfl rfl (r_loadAtA0 _m_8.at_ agg55 sz55 rfl) ?_
          refine WL_s rfl rfl ?_
          refine s_buildSlice (cs := Token.cs) (parts := [(0, .tmp 53)]) (⟨0, 0, 0, 0⟩ : Token) [_y11] el28 sz55 zr55 Token.len (by decide) rfl rfl rfl (by decide) (by decide) rfl fun _v54 _w_90 _q54 _lo54 _cw_90 => ?_
          have _cw_90z := _cw_90.size
          have E := E.trans _cw_90
          obtain ⟨_Av54, _Cv54, _ev54⟩ := _q54.val
          subst _ev54
          have _lv54 := _q54.len
          have _hiv54 := _q54.lt
          refine WL_step rfl rfl (r_build (parts := [(0, .tmp 54)]) (cells := [(.slice _Av54 ([_y11]).length _Cv54)]) zr30 pl30 rfl rfl) ?_
          refine WL_s rfl rfl ?_
          have _f_91 := (((_m2.ch0 _cw_6).ch _cw_7 (fun hm => by have _h1 := List.mem_singleton.1 hm; omega)).ch0 _cw_90)
          refine s_storeA (off := 0) 1 _f_91 sz30 rfl (us := [(.slice _Av54 ([_y11]).length _Cv54)]) rfl rfl rfl rfl fun _w_92 _m_93 _cw_92 => ?_
          have _cw_92z := _cw_92.size
          have E := E.step _cw_92 (fun i hi => .inl (by have _h1 := List.mem_singleton.1 hi; omega))
          replace _m_93 : Blk _w_92 _b2 30 [(.slice _Av54 ([_y11]).length _Cv54)] := _m_93
          refine WL_nil ?_
          refine thn_nrm (_hK_89 _ _ ?_)
          clear _hK_89
          refine W_ret ?_
          have _f_95 := (_q54.ch _cw_92 (fun g hg hm => by have _h0 := List.mem_singleton.1 hm; have _h2 := _lo54 _ hg; have _h3 := _hiv54 _ hg; omega))
          have _o_94 : Ol Token.cs 55 4 _w_92 (.slice _Av54 ([_y11]).length _Cv54) ((expT t).flat) := by
            have hx := _f_95
            exact hx.eq (by first | (rw [← exp2 hok (by omega) _hk0 _hk1, _ht]; rfl) | (rw [← exp6 hok (by omega) _hk0, _ht]; simp [Tr.flat]; done) | (rw [← exp7 hok (by omega) _hk0, _ht]) | (rw [← exp0 hok (by omega), _ht]; rfl))
          exact ret_intro [_] (resOf_loadA _m_93 rfl agg30 sz30 trivial) ⟨_, rfl, _o_94, Lo.down _lo54 (by omega), E⟩
theorem c_spec_l10Expand {w : World} {LL_l _B_l : Nat} {_v_l : Value} {l : List Token} (_h_l : Ls Token.cs 4 w LL_l _B_l _v_l l) (t : Tr) (hok : Okd t) (hl : l = t.flat) (hb : bndT t ≤ 5000) :
    Ctr Try.prog 49 #[_v_l] w (fun v w' => ∃ u, v = .agg #[u] ∧ Ol Token.cs 55 4 w' u ((expT t).flat) ∧ Lo w.heap.size u ∧ Ch [] w w') := c_spec_l10Expand_n _ _h_l t hok hl hb (Nat.lt_succ_self _)

/-- spec.l10Size -/
theorem c_spec_l10Size_n : ∀ (n : Nat) {w : World} {LL_l _B_l : Nat} {_v_l : Value} {l : List Token} (_h_l : Ls Token.cs 4 w LL_l _B_l _v_l l) (t : Tr) (hok : Okd t) (hl : l = t.flat) (hsz : l.length < n),
    Ctr Try.prog 48 #[_v_l] w (fun v w' => v = .int .i64 (bndT t) ∧ Ch [] w w') := by
  intro n
  induction n with
  | zero => intros; omega
  | succ n ih =>
  intro w LL_l _B_l _v_l l _h_l t hok hl hsz
  obtain ⟨_A_l, _C_l, _e1_l⟩ := _h_l.val
  subst _e1_l
  have _l_l := _h_l.len
  have _h_l := _h_l.here (by decide)
  have E := Ch.refl [] w
  have hn1 := t.flat_pos; rw [← hl] at hn1; have k2 := hok.len; have rb := bndT_rng hok
  refine Ctr_of_W (N := 54) (vs0 := [(.slice _A_l l.length _C_l)]) Try.func48 rfl rfl rfl ?_
  refine W_seq fun _K_1 _hK_1 => ?_
  refine W_region ?_
  refine WL_step rfl rfl (r_assign rfl) ?_
  refine WL_nil ?_
  refine thn_nrm (_hK_1 _ _ ?_)
  clear _hK_1
  refine W_seq fun _K_2 _hK_2 => ?_
  refine W_region ?_
  refine WL_step rfl rfl (r_move rfl) ?_
  refine WL_step rfl rfl (r_len (by rw [el28]; rfl) rfl) ?_
  refine WL_step rfl rfl (r_sub (by omega) rfl rfl) ?_
  refine WL_step rfl rfl (r_assign rfl) ?_
  refine WL_nil ?_
  refine thn_nrm (_hK_2 _ _ ?_)
  clear _hK_2
  refine W_seq fun _K_3 _hK_3 => ?_
  refine W_region ?_
  refine WL_step rfl rfl (r_move rfl) ?_
  refine WL_step rfl rfl (r_move rfl) ?_
  refine WL_s rfl rfl ?_
  refine (s_index (j := (((l.length : Nat) : Int) - 1).toNat) _h_l Token.len el28 sz55 rfl rfl (by omega) (by omega) fun _p11 _y11 _hy11 _a11 => ?_)
  have _ht := last_tok hl (by omega) _hy11
  have htk := congrArg Token.kind _ht
  have hte := congrArg Token.letter _ht
  have htl := congrArg Token.low _ht
  have hth := congrArg Token.high _ht
  refine WL_step rfl rfl (r_loadAtA0 _a11 agg55 sz55 rfl) ?_
  refine WL_s rfl rfl ?_
  refine s_alloc zr55 fun _b4 _w_4 _m4 _cw_4 _e4 => ?_
  have _cw_4z := _cw_4.size
  have E := E.trans _cw_4
  have _z4 := _m4.lt
  replace _m4 : Blk _w_4 _b4 55 [(.int .i64 0), (.int .i64 0), (.int .i64 0), (.int .i64 0)] := _m4
  refine WL_s rfl rfl ?_
  refine s_storeA (off := 0) 4 _m4 sz55 rfl (us := [(.int .i64 _y11.kind), (.int .i64 _y11.letter), (.int .i64 _y11.low), (.int .i64 _y11.high)]) rfl rfl rfl rfl fun _w_5 _m_6 _cw_5 => ?_
  have _cw_5z := _cw_5.size
  have E := E.step _cw_5 (fun i hi => .inl (by have _h1 := List.mem_singleton.1 hi; omega))
  replace _m_6 : Blk _w_5 _b4 55 [(.int .i64 _y11.kind), (.int .i64 _y11.letter), (.int .i64 _y11.low), (.int .i64 _y11.high)] := _m_6
  refine WL_nil ?_
  refine thn_nrm (_hK_3 _ _ ?_)
  clear _hK_3
  refine W_seq fun _K_7 _hK_7 => ?_
  refine W_seq fun _K_8 _hK_8 => ?_
  refine W_region ?_
  refine WL_step rfl rfl (r_fieldAddr fa55_0 rfl) ?_
  refine WL_step rfl rfl (r_loadAt _m_6.at_ agg3 rfl rfl) ?_
  refine WL_nil ?_
  refine thn_nrm (_hK_8 _ _ ?_)
  clear _hK_8
  refine W_block ?_
  refine W_seq fun _K_9 _hK_9 => ?_
  refine W_seq fun _K_10 _hK_10 => ?_
  refine W_region ?_
  refine WL_step rfl rfl (r_eql rfl rfl) ?_
  refine WL_step rfl rfl (r_assign rfl) ?_
  refine WL_nil ?_
  refine thn_nrm (_hK_10 _ _ ?_)
  clear _hK_10
  refine W_cond rfl (fun _h15 => ?_) (fun _h15 => ?_)
  · have _kb_11 := _h15
    have _h15 := bt_d _h15
    obtain ⟨ta, tb, et, oa, ob, hla, hn2⟩ := hok.k2 (by omega) _ht hl
    have _hk0 : t.kids[0]? = some ta := by rw [et]; rfl
    have _hk1 : t.kids[1]? = some tb := by rw [et]; rfl
    have ga := ta.flat_len
    have gb := tb.flat_len
    have ra := bndT_rng oa
    have rc := bndT_rng ob
    refine W_skip ?_
    refine thn_nrm (_hK_9 _ _ ?_)
    clear _hK_9
    refine W_condTk rfl _kb_11 ?_
    refine W_seq fun _K_12 _hK_12 => ?_
    refine W_region ?_
    refine WL_step rfl rfl (r_move rfl) ?_
    refine WL_step rfl rfl (r_move rfl) ?_
    refine WL_s rfl rfl ?_
    have _f_13 := ((_h_l.ch0 _cw_4).ch _cw_5 (fun i hi => by have _h1 := List.mem_singleton.1 hi; omega))
    refine (s_cut (ys := (ta.flat ++ tb.flat)) 0 ((((l.length : Nat) : Int) - 1).toNat) _f_13 Token.len el28 sz55 rfl rfl ⟨_, _, rfl, by omega⟩ (by omega) (by omega) (show l.take _ = _ from cut_ab hla (by omega)) fun _v20 _q20 _bb20 _ln20 => ?_)
    obtain ⟨_A20, _C20, _e20⟩ := _q20.val
    subst _e20
    have _l20 := _q20.len
    refine WL_s rfl rfl ?_
    refine Step.call (r_call (xs := [.tmp 20]) fk50 rfl) (c_spec_l8Start _q20 ta.flat tb ob rfl) fun _v21 _w_14 _q21 => ?_
    obtain ⟨rfl, _cw_14⟩ := _q21
    have _cw_14z := _cw_14.size
    have E := E.trans _cw_14
    refine WL_step rfl rfl (r_assign rfl) ?_
    refine WL_nil ?_
    refine thn_nrm (_hK_12 _ _ ?_)
    clear _hK_12
    refine W_seq fun _K_15 _hK_15 => ?_
    refine W_drawC [] 13 mixed rfl fun _w_16 _cw_16 => ?_
    have _cw_16z := _cw_16.size
    have E := E.trans _cw_16
    refine DR_s 0 rfl (by kernel_rfl) rfl rfl (t_v (fun _ => (r_move rfl)) ?_)
    refine DR_s 1 rfl (by kernel_rfl) rfl rfl (t_v (fun _ => (r_move rfl)) ?_)
    have _f_17 := ((_f_13.ch0 _cw_14).ch0 _cw_16)
    refine DR_s 2 rfl (by kernel_rfl) rfl rfl (t_cut (ys := ta.flat) 0 ta.flat.length _f_17 Token.len el28 sz55 rfl rfl ⟨_, _, rfl, by omega⟩ (by omega) (by omega) (show l.take _ = _ from cut_a hla (by omega)) fun _v24 _q24 _bb24 _ln24 => ?_)
    obtain ⟨_A24, _C24, _e24⟩ := _q24.val
    subst _e24
    have _l24 := _q24.len
    refine DR_s 4 rfl (by kernel_rfl) rfl rfl (t_v (fun _ => (r_move rfl)) ?_)
    refine DR_s 5 rfl (by kernel_rfl) rfl rfl (t_v (fun _ => (r_move rfl)) ?_)
    refine DR_s 6 rfl (by kernel_rfl) rfl rfl (t_v (fun _ => (r_move rfl)) ?_)
    refine DR_s 7 rfl (by kernel_rfl) rfl rfl (t_cut (ys := tb.flat) ta.flat.length ((((l.length : Nat) : Int) - 1).toNat) _f_17 Token.len el28 sz55 rfl ⟨_, _, rfl, by omega⟩ ⟨_, _, rfl, by omega⟩ (by omega) (by omega) (cut_b hla (by omega) (by omega)) fun _v29 _q29 _bb29 _ln29 => ?_)
    obtain ⟨_A29, _C29, _e29⟩ := _q29.val
    subst _e29
    have _l29 := _q29.len
    refine DR_one 3 (by kernel_rfl) ?_
    refine DO_s rfl rfl rfl ?_
    refine Step.call (r_call (xs := [.tmp 24]) fk48 rfl) (ih _q24 ta oa rfl (by omega)) fun _v25 _w_18 _q25 => ?_
    obtain ⟨rfl, _cw_18⟩ := _q25
    have _cw_18z := _cw_18.size
    have E := E.trans _cw_18
    have _S_19 : Ch [] _w_16 _w_18 := ((Ch.refl _ _).trans _cw_18)
    refine ⟨_S_19, ?_⟩
    refine DR_one 8 (by kernel_rfl) ?_
    refine DO_s rfl rfl rfl ?_
    have _f_20 := (_q29.ch0 _cw_18)
    refine Step.call (r_call (xs := [.tmp 29]) fk48 rfl) (ih _f_20 tb ob rfl (by omega)) fun _v30 _w_21 _q30 => ?_
    obtain ⟨rfl, _cw_21⟩ := _q30
    have _cw_21z := _cw_21.size
    have E := E.trans _cw_21
    have _S_22 : Ch [] _w_16 _w_21 := (_S_19.trans _cw_21)
    refine ⟨_S_22, ?_⟩
    refine DR_s 9 rfl (by kernel_rfl) rfl rfl (t_v (fun _ => (r_add (by omega) rfl rfl)) ?_)
    refine DR_s 10 rfl (by kernel_rfl) rfl rfl (t_v (fun _ => (r_add (by omega) rfl rfl)) ?_)
    refine DR_s 11 rfl (by kernel_rfl) rfl rfl (t_v (fun _ => (r_min rfl rfl)) ?_)
    refine DR_s 12 rfl (by kernel_rfl) rfl rfl (t_v (fun _ => (r_assign rfl)) ?_)
    refine DR_done (by kernel_rfl) ?_
    refine thn_nrm (_hK_15 _ _ ?_)
    clear _hK_15
    refine W_ret (inB_ret (thn_ret ?_))
    clear _hK_7
    exact ret_intro [_] ⟨rfl, trivial⟩ ⟨congrArg (Value.int .i64) (by first | exact bnd2 hok (by omega) _hk0 _hk1 | exact bnd6 hok (by omega) _hk0 | (rw [_ht]; exact bnd7 hok (by omega) _hk0) | exact bnd0 hok (by omega)), E⟩
  · have _kb_11 := _h15
    have _h15 := bf_d _h15
    refine W_region ?_
    refine WL_step rfl rfl (r_eql rfl rfl) ?_
    refine WL_step rfl rfl (r_assign rfl) ?_
    refine WL_nil ?_
    refine thn_nrm (_hK_9 _ _ ?_)
    clear _hK_9
    refine W_cond rfl (fun _h15 => ?_) (fun _h15 => ?_)
    · have _kb_23 := _h15
      have _h15 := bt_d _h15
      obtain ⟨ta, tb, et, oa, ob, hla, hn2⟩ := hok.k2 (by omega) _ht hl
      have _hk0 : t.kids[0]? = some ta := by rw [et]; rfl
      have _hk1 : t.kids[1]? = some tb := by rw [et]; rfl
      have ga := ta.flat_len
      have gb := tb.flat_len
      have ra := bndT_rng oa
      have rc := bndT_rng ob
      refine W_seq fun _K_24 _hK_24 => ?_
      refine W_region ?_
      refine WL_step rfl rfl (r_move rfl) ?_
      refine WL_step rfl rfl (r_move rfl) ?_
      refine WL_s rfl rfl ?_
      have _f_25 := ((_h_l.ch0 _cw_4).ch _cw_5 (fun i hi => by have _h1 := List.mem_singleton.1 hi; omega))
      refine (s_cut (ys := (ta.flat ++ tb.flat)) 0 ((((l.length : Nat) : Int) - 1).toNat) _f_25 Token.len el28 sz55 rfl rfl ⟨_, _, rfl, by omega⟩ (by omega) (by omega) (show l.take _ = _ from cut_ab hla (by omega)) fun _v20 _q20 _bb20 _ln20 => ?_)
      obtain ⟨_A20, _C20, _e20⟩ := _q20.val
      subst _e20
      have _l20 := _q20.len
      refine WL_s rfl rfl ?_
      refine Step.call (r_call (xs := [.tmp 20]) fk50 rfl) (c_spec_l8Start _q20 ta.flat tb ob rfl) fun _v21 _w_26 _q21 => ?_
      obtain ⟨rfl, _cw_26⟩ := _q21
      have _cw_26z := _cw_26.size
      have E := E.trans _cw_26
      refine WL_step rfl rfl (r_assign rfl) ?_
      refine WL_nil ?_
      refine thn_nrm (_hK_24 _ _ ?_)
      clear _hK_24
      refine W_seq fun _K_27 _hK_27 => ?_
      refine W_drawC [] 13 mixed rfl fun _w_28 _cw_28 => ?_
      have _cw_28z := _cw_28.size
      have E := E.trans _cw_28
      refine DR_s 0 rfl (by kernel_rfl) rfl rfl (t_v (fun _ => (r_move rfl)) ?_)
      refine DR_s 1 rfl (by kernel_rfl) rfl rfl (t_v (fun _ => (r_move rfl)) ?_)
      have _f_29 := ((_f_25.ch0 _cw_26).ch0 _cw_28)
      refine DR_s 2 rfl (by kernel_rfl) rfl rfl (t_cut (ys := ta.flat) 0 ta.flat.length _f_29 Token.len el28 sz55 rfl rfl ⟨_, _, rfl, by omega⟩ (by omega) (by omega) (show l.take _ = _ from cut_a hla (by omega)) fun _v24 _q24 _bb24 _ln24 => ?_)
      obtain ⟨_A24, _C24, _e24⟩ := _q24.val
      subst _e24
      have _l24 := _q24.len
      refine DR_s 4 rfl (by kernel_rfl) rfl rfl (t_v (fun _ => (r_move rfl)) ?_)
      refine DR_s 5 rfl (by kernel_rfl) rfl rfl (t_v (fun _ => (r_move rfl)) ?_)
      refine DR_s 6 rfl (by kernel_rfl) rfl rfl (t_v (fun _ => (r_move rfl)) ?_)
      refine DR_s 7 rfl (by kernel_rfl) rfl rfl (t_cut (ys := tb.flat) ta.flat.length ((((l.length : Nat) : Int) - 1).toNat) _f_29 Token.len el28 sz55 rfl ⟨_, _, rfl, by omega⟩ ⟨_, _, rfl, by omega⟩ (by omega) (by omega) (cut_b hla (by omega) (by omega)) fun _v29 _q29 _bb29 _ln29 => ?_)
      obtain ⟨_A29, _C29, _e29⟩ := _q29.val
      subst _e29
      have _l29 := _q29.len
      refine DR_one 3 (by kernel_rfl) ?_
      refine DO_s rfl rfl rfl ?_
      refine Step.call (r_call (xs := [.tmp 24]) fk48 rfl) (ih _q24 ta oa rfl (by omega)) fun _v25 _w_30 _q25 => ?_
      obtain ⟨rfl, _cw_30⟩ := _q25
      have _cw_30z := _cw_30.size
      have E := E.trans _cw_30
      have _S_31 : Ch [] _w_28 _w_30 := ((Ch.refl _ _).trans _cw_30)
      refine ⟨_S_31, ?_⟩
      refine DR_one 8 (by kernel_rfl) ?_
      refine DO_s rfl rfl rfl ?_
      have _f_32 := (_q29.ch0 _cw_30)
      refine Step.call (r_call (xs := [.tmp 29]) fk48 rfl) (ih _f_32 tb ob rfl (by omega)) fun _v30 _w_33 _q30 => ?_
      obtain ⟨rfl, _cw_33⟩ := _q30
      have _cw_33z := _cw_33.size
      have E := E.trans _cw_33
      have _S_34 : Ch [] _w_28 _w_33 := (_S_31.trans _cw_33)
      refine ⟨_S_34, ?_⟩
      refine DR_s 9 rfl (by kernel_rfl) rfl rfl (t_v (fun _ => (r_add (by omega) rfl rfl)) ?_)
      refine DR_s 10 rfl (by kernel_rfl) rfl rfl (t_v (fun _ => (r_add (by omega) rfl rfl)) ?_)
      refine DR_s 11 rfl (by kernel_rfl) rfl rfl (t_v (fun _ => (r_min rfl rfl)) ?_)
      refine DR_s 12 rfl (by kernel_rfl) rfl rfl (t_v (fun _ => (r_assign rfl)) ?_)
      refine DR_done (by kernel_rfl) ?_
      refine thn_nrm (_hK_27 _ _ ?_)
      clear _hK_27
      refine W_ret (inB_ret (thn_ret ?_))
      clear _hK_7
      exact ret_intro [_] ⟨rfl, trivial⟩ ⟨congrArg (Value.int .i64) (by first | exact bnd2 hok (by omega) _hk0 _hk1 | exact bnd6 hok (by omega) _hk0 | (rw [_ht]; exact bnd7 hok (by omega) _hk0) | exact bnd0 hok (by omega)), E⟩
    · have _kb_23 := _h15
      have _h15 := bf_d _h15
      refine W_seq fun _K_35 _hK_35 => ?_
      refine W_region ?_
      refine WL_step rfl rfl (r_eql rfl rfl) ?_
      refine WL_step rfl rfl (r_assign rfl) ?_
      refine WL_nil ?_
      refine thn_nrm (_hK_35 _ _ ?_)
      clear _hK_35
      refine W_cond rfl (fun _h34 => ?_) (fun _h34 => ?_)
      · have _kb_36 := _h34
        have _h34 := bt_d _h34
        obtain ⟨ta, et, oa, hla, hn2⟩ := hok.k1 (by omega) _ht hl
        have _hk0 : t.kids[0]? = some ta := by rw [et]; rfl
        have ga := ta.flat_len
        have ra := bndT_rng oa
        refine W_seq fun _K_37 _hK_37 => ?_
        refine W_region ?_
        refine WL_step rfl rfl (r_move rfl) ?_
        refine WL_step rfl rfl (r_move rfl) ?_
        refine WL_s rfl rfl ?_
        have _f_38 := ((_h_l.ch0 _cw_4).ch _cw_5 (fun i hi => by have _h1 := List.mem_singleton.1 hi; omega))
        refine (s_cut (ys := ta.flat) 0 ((((l.length : Nat) : Int) - 1).toNat) _f_38 Token.len el28 sz55 rfl rfl ⟨_, _, rfl, by omega⟩ (by omega) (by omega) (show l.take _ = _ from cut_1 hla (by omega)) fun _v38 _q38 _bb38 _ln38 => ?_)
        obtain ⟨_A38, _C38, _e38⟩ := _q38.val
        subst _e38
        have _l38 := _q38.len
        refine WL_s rfl rfl ?_
        refine Step.call (r_call (xs := [.tmp 38]) fk48 rfl) (ih _q38 ta oa rfl (by omega)) fun _v39 _w_39 _q39 => ?_
        obtain ⟨rfl, _cw_39⟩ := _q39
        have _cw_39z := _cw_39.size
        have E := E.trans _cw_39
        refine WL_step rfl rfl (r_add (by omega) rfl rfl) ?_
        refine WL_step rfl rfl (r_min rfl rfl) ?_
        refine WL_step rfl rfl (r_assign rfl) ?_
        refine WL_nil ?_
        refine thn_nrm (_hK_37 _ _ ?_)
        clear _hK_37
        refine W_ret (inB_ret (thn_ret ?_))
        clear _hK_7
        exact ret_intro [_] ⟨rfl, trivial⟩ ⟨congrArg (Value.int .i64) (by first | exact bnd2 hok (by omega) _hk0 _hk1 | exact bnd6 hok (by omega) _hk0 | (rw [_ht]; exact bnd7 hok (by omega) _hk0) | exact bnd0 hok (by omega)), E⟩
      · have _kb_36 := _h34
        have _h34 := bf_d _h34
        refine W_seq fun _K_40 _hK_40 => ?_
        refine W_region ?_
        refine WL_step rfl rfl (r_eql rfl rfl) ?_
        refine WL_step rfl rfl (r_assign rfl) ?_
        refine WL_nil ?_
        refine thn_nrm (_hK_40 _ _ ?_)
        clear _hK_40
        refine W_cond rfl (fun _h42 => ?_) (fun _h42 => ?_)
        · have _kb_41 := _h42
          have _h42 := bt_d _h42
          obtain ⟨ta, et, oa, hla, hn2⟩ := hok.k1 (by omega) _ht hl
          have _hk0 : t.kids[0]? = some ta := by rw [et]; rfl
          have ga := ta.flat_len
          have ra := bndT_rng oa
          have r7 := hok.r7 (by omega)
          refine W_seq fun _K_42 _hK_42 => ?_
          refine W_drawC [] 11 mixed rfl fun _w_43 _cw_43 => ?_
          have _cw_43z := _cw_43.size
          have E := E.trans _cw_43
          refine DR_s 0 rfl (by kernel_rfl) rfl rfl (t_v (fun _ => (r_move rfl)) ?_)
          refine DR_s 1 rfl (by kernel_rfl) rfl rfl (t_v (fun _ => (r_move rfl)) ?_)
          have _f_44 := (((_h_l.ch0 _cw_4).ch _cw_5 (fun i hi => by have _h1 := List.mem_singleton.1 hi; omega)).ch0 _cw_43)
          refine DR_s 2 rfl (by kernel_rfl) rfl rfl (t_cut (ys := ta.flat) 0 ((((l.length : Nat) : Int) - 1).toNat) _f_44 Token.len el28 sz55 rfl rfl ⟨_, _, rfl, by omega⟩ (by omega) (by omega) (show l.take _ = _ from cut_1 hla (by omega)) fun _v46 _q46 _bb46 _ln46 => ?_)
          obtain ⟨_A46, _C46, _e46⟩ := _q46.val
          subst _e46
          have _l46 := _q46.len
          refine DR_s 5 rfl (by kernel_rfl) rfl rfl (t_v (fun _ => (r_fieldAddr fa55_3 rfl)) ?_)
          have _f_45 := (_m_6.ch0 _cw_43)
          refine DR_s 6 rfl (by kernel_rfl) rfl rfl (t_loadAt _f_45.at_ (fun i hi => absurd hi List.not_mem_nil) agg3 rfl rfl ?_)
          refine DR_one 3 (by kernel_rfl) ?_
          refine DO_s rfl rfl rfl ?_
          refine Step.call (r_call (xs := [.tmp 46]) fk48 rfl) (ih _q46 ta oa rfl (by omega)) fun _v47 _w_46 _q47 => ?_
          obtain ⟨rfl, _cw_46⟩ := _q47
          have _cw_46z := _cw_46.size
          have E := E.trans _cw_46
          have _S_47 : Ch [] _w_43 _w_46 := ((Ch.refl _ _).trans _cw_46)
          refine ⟨_S_47, ?_⟩
          refine DR_s 4 rfl (by kernel_rfl) rfl rfl (t_v (fun _ => (r_add (by omega) rfl rfl)) ?_)
          refine DR_s 7 rfl (by kernel_rfl) rfl rfl (t_v (fun _ => (r_mul (by (have _m1 := Int.mul_nonneg (show 0 ≤ bndT ta + 3 by omega) (show 0 ≤ _y11.high by omega); have _m2 := Int.mul_le_mul (show bndT ta + 3 ≤ 100003 by omega) (show _y11.high ≤ 3 by omega) (by omega) (by omega); omega)) rfl rfl)) ?_)
          refine DR_s 8 rfl (by kernel_rfl) rfl rfl (t_v (fun _ => (r_add (by (have _m1 := Int.mul_nonneg (show 0 ≤ bndT ta + 3 by omega) (show 0 ≤ _y11.high by omega); have _m2 := Int.mul_le_mul (show bndT ta + 3 ≤ 100003 by omega) (show _y11.high ≤ 3 by omega) (by omega) (by omega); omega)) rfl rfl)) ?_)
          refine DR_s 9 rfl (by kernel_rfl) rfl rfl (t_v (fun _ => (r_min rfl rfl)) ?_)
          refine DR_s 10 rfl (by kernel_rfl) rfl rfl (t_v (fun _ => (r_assign rfl)) ?_)
          refine DR_done (by kernel_rfl) ?_
          refine thn_nrm (_hK_42 _ _ ?_)
          clear _hK_42
          refine W_ret (inB_ret (thn_ret ?_))
          clear _hK_7
          exact ret_intro [_] ⟨rfl, trivial⟩ ⟨congrArg (Value.int .i64) (by first | exact bnd2 hok (by omega) _hk0 _hk1 | exact bnd6 hok (by omega) _hk0 | (rw [_ht]; exact bnd7 hok (by omega) _hk0) | exact bnd0 hok (by omega)), E⟩
        · have _kb_41 := _h42
          have _h42 := bf_d _h42
          refine W_skip ?_
          refine inB_nrm ?_
          refine thn_nrm (_hK_7 _ _ ?_)
          clear _hK_7
          refine W_seq fun _K_48 _hK_48 => ?_
          refine W_region ?_
          refine WL_step rfl rfl (r_assign rfl) ?_
          refine WL_nil ?_
          refine thn_nrm (_hK_48 _ _ ?_)
          clear _hK_48
          refine W_ret ?_
          exact ret_intro [_] ⟨rfl, trivial⟩ ⟨congrArg (Value.int .i64) (by first | exact bnd2 hok (by omega) _hk0 _hk1 | exact bnd6 hok (by omega) _hk0 | (rw [_ht]; exact bnd7 hok (by omega) _hk0) | exact bnd0 hok (by omega)), E⟩
theorem c_spec_l10Size {w : World} {LL_l _B_l : Nat} {_v_l : Value} {l : List Token} (_h_l : Ls Token.cs 4 w LL_l _B_l _v_l l) (t : Tr) (hok : Okd t) (hl : l = t.flat) :
    Ctr Try.prog 48 #[_v_l] w (fun v w' => v = .int .i64 (bndT t) ∧ Ch [] w w') := c_spec_l10Size_n _ _h_l t hok hl (Nat.lt_succ_self _)

/-- spec.ExpandExpr -/
theorem c_spec_ExpandExpr {w : World} {LL_e _B_e : Nat} {_v_e : Value} {e : List Token} (_h_e : Ls Token.cs 4 w LL_e _B_e _v_e e) (hb : e.length ≤ 1048576) :
    Ctr Try.prog 28 #[(.agg #[_v_e])] w (fun v w' => ∃ (u0x0 : Value), v = .tuple #[.agg #[u0x0], .bool ((expE e).2)] ∧ Ol Token.cs 55 4 w' u0x0 ((expE e).1) ∧ Lo w.heap.size u0x0 ∧ Ch [] w w') := by
  obtain ⟨_A_e, _C_e, _e1_e⟩ := _h_e.val
  subst _e1_e
  have _l_e := _h_e.len
  have _h_e := _h_e.here (by decide)
  have E := Ch.refl [] w
  refine Ctr_of_W (N := 24) (vs0 := [(.agg #[(.slice _A_e e.length _C_e)])]) Try.func28 rfl rfl rfl ?_
  refine W_seq fun _K_1 _hK_1 => ?_
  refine W_region ?_
  refine WL_s rfl rfl ?_
  refine s_box rfl fun _b1 _w_2 _m1 _cw_2 _e1 => ?_
  have _cw_2z := _cw_2.size
  have E := E.trans _cw_2
  have _z1 := _m1.lt
  replace _m1 : Blk _w_2 _b1 30 [(.slice _A_e e.length _C_e)] := _m1
  refine WL_s rfl rfl ?_
  refine s_alloc zr30 fun _b2 _w_3 _m2 _cw_3 _e2 => ?_
  have _cw_3z := _cw_3.size
  have E := E.trans _cw_3
  have _z2 := _m2.lt
  replace _m2 : Blk _w_3 _b2 30 [(.slice none 0 0)] := _m2
  refine WL_step rfl rfl (r_assign rfl) ?_
  refine WL_nil ?_
  refine thn_nrm (_hK_1 _ _ ?_)
  clear _hK_1
  refine W_seq fun _K_4 _hK_4 => ?_
  refine W_seq fun _K_5 _hK_5 => ?_
  refine W_region ?_
  have _f_6 := (_m1.ch0 _cw_3)
  refine WL_step rfl rfl (r_loadAtA0 _f_6.at_ agg30 sz30 rfl) ?_
  refine WL_s rfl rfl ?_
  have _f_7 := ((_h_e.ch0 _cw_2).ch0 _cw_3)
  refine Step.call (r_call (xs := [.tmp 5]) fk19 rfl) (c_spec_IsValidExpr _f_7 ) fun _v6 _w_8 _q6 => ?_
  obtain ⟨rfl, _cw_8⟩ := _q6
  have _cw_8z := _cw_8.size
  have E := E.trans _cw_8
  refine WL_step rfl rfl (r_not rfl) ?_
  refine WL_step rfl rfl (r_move rfl) ?_
  refine WL_split (d := 8) rfl (fun _h8 => ?_) (fun _h8 => ?_)
  · have _kb_9 := _h8
    have _h8 := bt_n _h8
    refine WL_skip rfl rfl ?_
    refine WL_skip rfl rfl ?_
    refine WL_skip rfl rfl ?_
    refine WL_skip rfl rfl ?_
    refine WL_step rfl rfl (r_pickT rfl rfl) ?_
    refine WL_nil ?_
    refine thn_nrm (_hK_5 _ _ ?_)
    clear _hK_5
    refine W_condT rfl ?_
    refine W_seq fun _K_10 _hK_10 => ?_
    refine W_region ?_
    refine WL_step rfl rfl (r_build (parts := []) (cells := [(.slice none 0 0)]) zr30 pl30 rfl rfl) ?_
    refine WL_s rfl rfl ?_
    have _f_11 := (_m2.ch0 _cw_8)
    refine s_storeA (off := 0) 1 _f_11 sz30 rfl (us := [(.slice none 0 0)]) rfl rfl rfl rfl fun _w_12 _m_13 _cw_12 => ?_
    have _cw_12z := _cw_12.size
    have E := E.step _cw_12 (fun i hi => .inl (by have _h1 := List.mem_singleton.1 hi; omega))
    replace _m_13 : Blk _w_12 _b2 30 [(.slice none 0 0)] := _m_13
    refine WL_step rfl rfl (r_assign rfl) ?_
    refine WL_nil ?_
    refine thn_nrm (_hK_10 _ _ ?_)
    clear _hK_10
    refine W_ret (thn_ret ?_)
    clear _hK_4
    have _o_14 : Ol Token.cs 55 4 _w_12 (.slice none 0 0) ((expE e).1) := by
      have hx := (Ol.nil (cs := Token.cs) (e := 55) (k := 4) _w_12)
      first | (rw [expE_n _h8]; exact hx) | (rw [expE_n2 _e5 (by omega)]; exact hx) | (rw [expE_n3 _e5 (by rw [← Tr.flat_len]; omega)]; exact hx) | (rw [expE_y _e5 (by omega) (by omega) (by rw [← Tr.flat_len]; omega)]; exact hx)
    exact ret_intro [_, _] (resOf_loadA _m_13 rfl agg30 sz30 ⟨rfl, trivial⟩) ⟨(.slice none 0 0), (congrArg (fun zq => (Value.tuple #[.agg #[(.slice none 0 0)], .bool zq])) (by first | (rw [expE_n _h8]; done) | (rw [expE_n2 _e5 (by omega)]; done) | (rw [expE_n3 _e5 (by rw [← Tr.flat_len]; omega)]; done) | (rw [expE_y _e5 (by omega) (by omega) (by rw [← Tr.flat_len]; omega)]; done))), _o_14, (Lo.nil _), E⟩
  · have _kb_9 := _h8
    have _h8 := bf_n _h8
    obtain ⟨_t5, _e5, hok, hl, _h24⟩ := ivE_y _h8
    refine WL_step rfl rfl (r_fieldAddr fa30_0 rfl) ?_
    have _f_15 := (_f_6.ch0 _cw_8)
    refine WL_step rfl rfl (r_loadAt _f_15.at_ agg28 rfl rfl) ?_
    refine WL_s rfl rfl ?_
    have _f_16 := (_f_7.ch0 _cw_8)
    refine Step.call (r_call (xs := [.tmp 10]) fk48 rfl) (c_spec_l10Size _f_16 _t5 hok hl) fun _v11 _w_17 _q11 => ?_
    obtain ⟨rfl, _cw_17⟩ := _q11
    have _cw_17z := _cw_17.size
    have E := E.trans _cw_17
    refine WL_step rfl rfl (r_gtr rfl rfl) ?_
    refine WL_step rfl rfl (r_pickF rfl rfl) ?_
    refine WL_nil ?_
    refine thn_nrm (_hK_5 _ _ ?_)
    clear _hK_5
    refine W_cond rfl (fun _h13 => ?_) (fun _h13 => ?_)
    · have _kb_18 := _h13
      have _h13 := bt_d _h13
      refine W_seq fun _K_19 _hK_19 => ?_
      refine W_region ?_
      refine WL_step rfl rfl (r_build (parts := []) (cells := [(.slice none 0 0)]) zr30 pl30 rfl rfl) ?_
      refine WL_s rfl rfl ?_
      have _f_20 := ((_m2.ch0 _cw_8).ch0 _cw_17)
      refine s_storeA (off := 0) 1 _f_20 sz30 rfl (us := [(.slice none 0 0)]) rfl rfl rfl rfl fun _w_21 _m_22 _cw_21 => ?_
      have _cw_21z := _cw_21.size
      have E := E.step _cw_21 (fun i hi => .inl (by have _h1 := List.mem_singleton.1 hi; omega))
      replace _m_22 : Blk _w_21 _b2 30 [(.slice none 0 0)] := _m_22
      refine WL_step rfl rfl (r_assign rfl) ?_
      refine WL_nil ?_
      refine thn_nrm (_hK_19 _ _ ?_)
      clear _hK_19
      refine W_ret (thn_ret ?_)
      clear _hK_4
      have _o_23 : Ol Token.cs 55 4 _w_21 (.slice none 0 0) ((expE e).1) := by
        have hx := (Ol.nil (cs := Token.cs) (e := 55) (k := 4) _w_21)
        first | (rw [expE_n _h8]; exact hx) | (rw [expE_n2 _e5 (by omega)]; exact hx) | (rw [expE_n3 _e5 (by rw [← Tr.flat_len]; omega)]; exact hx) | (rw [expE_y _e5 (by omega) (by omega) (by rw [← Tr.flat_len]; omega)]; exact hx)
      exact ret_intro [_, _] (resOf_loadA _m_22 rfl agg30 sz30 ⟨rfl, trivial⟩) ⟨(.slice none 0 0), (congrArg (fun zq => (Value.tuple #[.agg #[(.slice none 0 0)], .bool zq])) (by first | (rw [expE_n _h8]; done) | (rw [expE_n2 _e5 (by omega)]; done) | (rw [expE_n3 _e5 (by rw [← Tr.flat_len]; omega)]; done) | (rw [expE_y _e5 (by omega) (by omega) (by rw [← Tr.flat_len]; omega)]; done))), _o_23, (Lo.nil _), E⟩
    · have _kb_18 := _h13
      have _h13 := bf_d _h13
      refine W_skip ?_
      refine thn_nrm (_hK_4 _ _ ?_)
      clear _hK_4
      refine W_seq fun _K_24 _hK_24 => ?_
      refine W_region ?_
      refine WL_step rfl rfl (r_fieldAddr fa30_0 rfl) ?_
      have _f_25 := (_f_15.ch0 _cw_17)
      refine WL_step rfl rfl (r_loadAt _f_25.at_ agg28 rfl rfl) ?_
      refine WL_s rfl rfl ?_
      have _f_26 := (_f_16.ch0 _cw_17)
      refine Step.call (r_call (xs := [.tmp 16]) fk49 rfl) (c_spec_l10Expand _f_26 _t5 hok hl (by omega)) fun _v17 _w_27 _q17 => ?_
      obtain ⟨_u17, rfl, _q17, _lo17, _cw_27⟩ := _q17
      have _cw_27z := _cw_27.size
      have E := E.trans _cw_27
      obtain ⟨_Au17, _Cu17, _eu17⟩ := _q17.val
      subst _eu17
      have _lu17 := _q17.len
      have _hiu17 := _q17.lt
      refine WL_s rfl rfl ?_
      refine s_alloc zr30 fun _b4 _w_28 _m4 _cw_28 _e4 => ?_
      have _cw_28z := _cw_28.size
      have E := E.trans _cw_28
      have _z4 := _m4.lt
      replace _m4 : Blk _w_28 _b4 30 [(.slice none 0 0)] := _m4
      refine WL_s rfl rfl ?_
      refine s_storeA (off := 0) 1 _m4 sz30 rfl (us := [(.slice _Au17 ((expT _t5).flat).length _Cu17)]) rfl rfl rfl rfl fun _w_29 _m_30 _cw_29 => ?_
      have _cw_29z := _cw_29.size
      have E := E.step _cw_29 (fun i hi => .inl (by have _h1 := List.mem_singleton.1 hi; omega))
      replace _m_30 : Blk _w_29 _b4 30 [(.slice _Au17 ((expT _t5).flat).length _Cu17)] := _m_30
      refine WL_nil ?_
      refine thn_nrm (_hK_24 _ _ ?_)
      clear _hK_24
      refine W_seq fun _K_31 _hK_31 => ?_
      refine W_seq fun _K_32 _hK_32 => ?_
      refine W_region ?_
      refine WL_step rfl rfl (r_fieldAddr fa30_0 rfl) ?_
      refine WL_step rfl rfl (r_loadAt _m_30.at_ agg28 rfl rfl) ?_
      refine WL_step rfl rfl (r_len (by rw [el28]; rfl) rfl) ?_
      refine WL_step rfl rfl (r_gtr rfl rfl) ?_
      refine WL_nil ?_
      refine thn_nrm (_hK_32 _ _ ?_)
      clear _hK_32
      refine W_cond rfl (fun _h21 => ?_) (fun _h21 => ?_)
      · have _kb_33 := _h21
        have _h21 := bt_d _h21
        refine W_seq fun _K_34 _hK_34 => ?_
        refine W_region ?_
        refine WL_step rfl rfl (r_build (parts := []) (cells := [(.slice none 0 0)]) zr30 pl30 rfl rfl) ?_
        refine WL_s rfl rfl ?_
        have _f_35 := (((((_m2.ch0 _cw_8).ch0 _cw_17).ch0 _cw_27).ch0 _cw_28).ch _cw_29 (fun hm => by have _h1 := List.mem_singleton.1 hm; omega))
        refine s_storeA (off := 0) 1 _f_35 sz30 rfl (us := [(.slice none 0 0)]) rfl rfl rfl rfl fun _w_36 _m_37 _cw_36 => ?_
        have _cw_36z := _cw_36.size
        have E := E.step _cw_36 (fun i hi => .inl (by have _h1 := List.mem_singleton.1 hi; omega))
        replace _m_37 : Blk _w_36 _b2 30 [(.slice none 0 0)] := _m_37
        refine WL_step rfl rfl (r_assign rfl) ?_
        refine WL_nil ?_
        refine thn_nrm (_hK_34 _ _ ?_)
        clear _hK_34
        refine W_ret (thn_ret ?_)
        clear _hK_31
        have _o_38 : Ol Token.cs 55 4 _w_36 (.slice none 0 0) ((expE e).1) := by
          have hx := (Ol.nil (cs := Token.cs) (e := 55) (k := 4) _w_36)
          first | (rw [expE_n _h8]; exact hx) | (rw [expE_n2 _e5 (by omega)]; exact hx) | (rw [expE_n3 _e5 (by rw [← Tr.flat_len]; omega)]; exact hx) | (rw [expE_y _e5 (by omega) (by omega) (by rw [← Tr.flat_len]; omega)]; exact hx)
        exact ret_intro [_, _] (resOf_loadA _m_37 rfl agg30 sz30 ⟨rfl, trivial⟩) ⟨(.slice none 0 0), (congrArg (fun zq => (Value.tuple #[.agg #[(.slice none 0 0)], .bool zq])) (by first | (rw [expE_n _h8]; done) | (rw [expE_n2 _e5 (by omega)]; done) | (rw [expE_n3 _e5 (by rw [← Tr.flat_len]; omega)]; done) | (rw [expE_y _e5 (by omega) (by omega) (by rw [← Tr.flat_len]; omega)]; done))), _o_38, (Lo.nil _), E⟩
      · have _kb_33 := _h21
        have _h21 := bf_d _h21
        refine W_skip ?_
        refine thn_nrm (_hK_31 _ _ ?_)
        clear _hK_31
        refine W_seq fun _K_39 _hK_39 => ?_
        refine W_region ?_
        refine WL_step rfl rfl (r_loadAtA0 _m_30.at_ agg30 sz30 rfl) ?_
        refine WL_s rfl rfl ?_
        have _f_40 := (((((_m2.ch0 _cw_8).ch0 _cw_17).ch0 _cw_27).ch0 _cw_28).ch _cw_29 (fun hm => by have _h1 := List.mem_singleton.1 hm; omega))
        refine s_storeA (off := 0) 1 _f_40 sz30 rfl (us := [(.slice _Au17 ((expT _t5).flat).length _Cu17)]) rfl rfl rfl rfl fun _w_41 _m_42 _cw_41 => ?_
        have _cw_41z := _cw_41.size
        have E := E.step _cw_41 (fun i hi => .inl (by have _h1 := List.mem_singleton.1 hi; omega))
        replace _m_42 : Blk _w_41 _b2 30 [(.slice _Au17 ((expT _t5).flat).length _Cu17)] := _m_42
        refine WL_step rfl rfl (r_assign rfl) ?_
        refine WL_nil ?_
        refine thn_nrm (_hK_39 _ _ ?_)
        clear _hK_39
        refine W_ret ?_
        have _f_43 := (((_q17.ch0 _cw_28).ch _cw_29 (fun g hg hm => by have _h0 := List.mem_singleton.1 hm; have _h2 := _lo17 _ hg; have _h3 := _hiu17 _ hg; omega)).ch _cw_41 (fun g hg hm => by have _h0 := List.mem_singleton.1 hm; have _h2 := _lo17 _ hg; have _h3 := _hiu17 _ hg; omega))
        have _o_44 : Ol Token.cs 55 4 _w_41 (.slice _Au17 ((expT _t5).flat).length _Cu17) ((expE e).1) := by
          have hx := _f_43
          first | (rw [expE_n _h8]; exact hx) | (rw [expE_n2 _e5 (by omega)]; exact hx) | (rw [expE_n3 _e5 (by rw [← Tr.flat_len]; omega)]; exact hx) | (rw [expE_y _e5 (by omega) (by omega) (by rw [← Tr.flat_len]; omega)]; exact hx)
        exact ret_intro [_, _] (resOf_loadA _m_42 rfl agg30 sz30 ⟨rfl, trivial⟩) ⟨(.slice _Au17 ((expT _t5).flat).length _Cu17), (congrArg (fun zq => (Value.tuple #[.agg #[(.slice _Au17 ((expT _t5).flat).length _Cu17)], .bool zq])) (by first | (rw [expE_n _h8]; done) | (rw [expE_n2 _e5 (by omega)]; done) | (rw [expE_n3 _e5 (by rw [← Tr.flat_len]; omega)]; done) | (rw [expE_y _e5 (by omega) (by omega) (by rw [← Tr.flat_len]; omega)]; done))), _o_44, (Lo.down _lo17 (by omega)), E⟩

/-- spec.l10Link -/
theorem c_spec_l10Link {w : World} {b_p t_p L_p : Nat} {_v_p0 : Value} {_p0 : List Int} {_p1 : Int} {_p2 : Int} {_v_p3 : Value} {_p3 : List Int} {_p4 : Bool} (m_p : Blk w b_p t_p [_v_p0, (.int .i64 _p1), (.int .i64 _p2), _v_p3, (.bool _p4)]) (_lb_p : L_p ≤ b_p) (_h_p0 : Ol ics 3 1 w _v_p0 _p0) (_nb_p0 : b_p ∉ bl _v_p0) (_ll_p0 : Lo L_p _v_p0) (_h_p3 : Ol ics 3 1 w _v_p3 _p3) (_nb_p3 : b_p ∉ bl _v_p3) (_ll_p3 : Lo L_p _v_p3) (_dj_p0_p3 : ∀ g ∈ bl _v_p0, g ∉ bl _v_p3) (l : Int) (f : Int) (hb : _p3.length ≤ 4194304) :
    Ctr Try.prog 51 #[(.pointer (some ⟨b_p, 0, none⟩)), (.int .i64 l), (.int .i64 f)] w (fun v w' => ∃ (zp0 zp3 : Value), v = .tuple #[] ∧ Blk w' b_p t_p [zp0, .int .i64 _p1, .int .i64 _p2, zp3, .bool _p4] ∧ Ol ics 3 1 w' zp0 (_p0) ∧ (∀ g ∈ bl zp0, w.heap.size ≤ g ∨ g ∈ (b_p :: (bl _v_p0 ++ bl _v_p3))) ∧ b_p ∉ bl zp0 ∧ Ol ics 3 1 w' zp3 (lkL l f _p3) ∧ (∀ g ∈ bl zp3, w.heap.size ≤ g ∨ g ∈ (b_p :: (bl _v_p0 ++ bl _v_p3))) ∧ b_p ∉ bl zp3 ∧ (∀ g ∈ bl zp0, g ∉ bl zp3) ∧ Ch (b_p :: (bl _v_p0 ++ bl _v_p3)) w w') := by
  obtain ⟨_A_p0, _C_p0, _e1_p0⟩ := _h_p0.val
  subst _e1_p0
  have _l_p0 := _h_p0.len
  have _lt_p0 := _h_p0.lt
  obtain ⟨_A_p3, _C_p3, _e1_p3⟩ := _h_p3.val
  subst _e1_p3
  have _l_p3 := _h_p3.len
  have _lt_p3 := _h_p3.lt
  have _zb_p := m_p.lt
  have E := Ch.refl (b_p :: (bl (.slice _A_p0 _p0.length _C_p0) ++ bl (.slice _A_p3 _p3.length _C_p3))) w
  refine Ctr_of_W (N := 36) (vs0 := [(.pointer (some ⟨b_p, 0, none⟩)), (.int .i64 l), (.int .i64 f)]) Try.func51 rfl rfl rfl ?_
  refine W_seq fun _K_1 _hK_1 => ?_
  refine W_region ?_
  refine WL_step rfl rfl (r_assign rfl) ?_
  refine WL_nil ?_
  refine thn_nrm (_hK_1 _ _ ?_)
  clear _hK_1
  refine W_block ?_
  have _oi_2 : Ol ics 3 1 w (.slice _A_p3 _p3.length _C_p3) (lkN l f _p3 0) := by
    have hx := _h_p3
    exact hx
  refine W_loop (σ := Nat) (fun (k : Nat) => [(0, (.pointer (some ⟨b_p, 0, none⟩))), (1, (.int .i64 l)), (2, (.int .i64 f)), (6, (.int .i64 ((k : Nat) : Int)))]) (fun (k : Nat) wx => Ch (b_p :: (bl (.slice _A_p0 _p0.length _C_p0) ++ bl (.slice _A_p3 _p3.length _C_p3))) w wx ∧ w.heap.size ≤ wx.heap.size ∧ (k ≤ _p3.length) ∧ Blk wx b_p t_p [(.slice _A_p0 _p0.length _C_p0), (.int .i64 _p1), (.int .i64 _p2), (.slice _A_p3 _p3.length _C_p3), (.bool _p4)] ∧ Ol ics 3 1 wx (.slice _A_p0 _p0.length _C_p0) _p0 ∧ Ol ics 3 1 wx (.slice _A_p3 _p3.length _C_p3) (lkN l f _p3 k)) (fun (k : Nat) => _p3.length - k) 0 (Sub.cons rfl (Sub.cons rfl (Sub.cons rfl (Sub.cons rfl (Sub.nil _))))) ⟨E, (Nat.le_refl _), (by omega), m_p, _h_p0, _oi_2⟩ ?_
  rintro k _wr_3 ⟨E, _zz0, _hk, _F0_0, _F0_1, o0_0_3⟩
  have _E0h := E
  have _E0hz := _E0h.size
  have _F0_0z := _F0_0.lt
  have _ln9 := lkN_len l f _p3 k
  refine W_seq fun _K_4 _hK_4 => ?_
  refine W_seq fun _K_5 _hK_5 => ?_
  refine W_region ?_
  refine WL_step rfl rfl (r_move rfl) ?_
  refine WL_step rfl rfl (r_move rfl) ?_
  refine WL_step rfl rfl (r_nilCheck rfl) ?_
  refine WL_step rfl rfl (r_fieldAddr fa37_3 rfl) ?_
  refine WL_step rfl rfl (r_loadAt _F0_0.at_ agg25 rfl rfl) ?_
  refine WL_step rfl rfl (r_len (by rw [el25]; rfl) rfl) ?_
  refine WL_step rfl rfl (r_lss rfl rfl) ?_
  refine WL_nil ?_
  refine thn_nrm (_hK_5 _ _ ?_)
  clear _hK_5
  refine W_cond rfl (fun _h13 => ?_) (fun _h13 => ?_)
  · have _kb_6 := _h13
    have _h13 := bt_d _h13
    refine W_skip ?_
    refine thn_nrm (_hK_4 _ _ ?_)
    clear _hK_4
    refine W_seq fun _K_7 _hK_7 => ?_
    refine W_block ?_
    refine W_seq fun _K_8 _hK_8 => ?_
    refine W_region ?_
    refine WL_step rfl rfl (r_move rfl) ?_
    refine WL_step rfl rfl (r_move rfl) ?_
    refine WL_step rfl rfl (r_shr (by omega) rfl rfl) ?_
    refine WL_step rfl rfl (r_and rfl rfl) ?_
    refine WL_step rfl rfl (r_eql rfl rfl) ?_
    refine WL_nil ?_
    refine thn_nrm (_hK_8 _ _ ?_)
    clear _hK_8
    refine W_cond rfl (fun _h20 => ?_) (fun _h20 => ?_)
    · have _kb_9 := _h20
      have _h20 := bt_d _h20
      refine W_drawC (bl (.slice _A_p3 _p3.length _C_p3)) 16 mixed rfl fun _w_10 _cw_10 => ?_
      have _cw_10z := _cw_10.size
      have E := E.trans _cw_10.of_nil
      refine DR_s 0 rfl (by kernel_rfl) rfl rfl (t_v (fun _ => (r_move rfl)) ?_)
      refine DR_s 1 rfl (by kernel_rfl) rfl rfl (t_v (fun _ => (r_nilCheck rfl)) ?_)
      refine DR_s 2 rfl (by kernel_rfl) rfl rfl (t_v (fun _ => (r_fieldAddr fa37_3 rfl)) ?_)
      have _f_11 := (_F0_0.ch0 _cw_10)
      refine DR_s 3 rfl (by kernel_rfl) rfl rfl (t_loadAt _f_11.at_ (fun i hm => by rcases Nat.lt_trichotomy i b_p with _h9 | _h9 | _h9; (exact .inl _h9); (exact absurd (_h9 ▸ hm) _nb_p3); (exact .inr _h9)) agg25 rfl rfl ?_)
      refine DR_s 4 rfl (by kernel_rfl) rfl rfl (t_v (fun _ => (r_move rfl)) ?_)
      refine DR_s 5 rfl (by kernel_rfl) rfl rfl (t_v (fun _ => (r_move rfl)) ?_)
      refine DR_s 6 rfl (by kernel_rfl) rfl rfl (t_v (fun _ => (r_nilCheck rfl)) ?_)
      refine DR_s 7 rfl (by kernel_rfl) rfl rfl (t_v (fun _ => (r_fieldAddr fa37_3 rfl)) ?_)
      refine DR_s 8 rfl (by kernel_rfl) rfl rfl (t_loadAt _f_11.at_ (fun i hm => by rcases Nat.lt_trichotomy i b_p with _h9 | _h9 | _h9; (exact .inl _h9); (exact absurd (_h9 ▸ hm) _nb_p3); (exact .inr _h9)) agg25 rfl rfl ?_)
      refine DR_s 9 rfl (by kernel_rfl) rfl rfl (t_v (fun _ => (r_move rfl)) ?_)
      refine DR_s 12 rfl (by kernel_rfl) rfl rfl (t_v (fun _ => (r_move rfl)) ?_)
      refine DR_one 10 (by kernel_rfl) ?_
      refine DO_s rfl rfl rfl ?_
      have _f_12 := (o0_0_3.ch0 _cw_10)
      refine (s_index _f_12.ls ics_len el25 sz3 rfl rfl rfl (by omega) fun _p31 _y31 _hy31 _a31 => ?_)
      refine ⟨(Ch.refl _ _), ?_⟩
      refine DR_one 11 (by kernel_rfl) ?_
      refine DO_s rfl rfl rfl ?_
      refine s_v (r_loadAt0 _a31 agg3 rfl rfl) ?_
      refine ⟨(Ch.refl _ _), ?_⟩
      refine DR_s 13 rfl (by kernel_rfl) rfl rfl (t_v (fun _ => (r_or rfl rfl)) ?_)
      refine DR_one 14 (by kernel_rfl) ?_
      refine DO_s rfl rfl rfl ?_
      refine s_indexO (j := k) _f_12 el25 sz3 rfl rfl rfl (by have _z9 := lkN_len l f _p3 k; omega) fun _g35 _o35 _cp35 _q35 => ?_
      refine ⟨(Ch.refl _ _), ?_⟩
      refine DR_one 15 (by kernel_rfl) ?_
      refine DO_s rfl rfl rfl ?_
      refine s_storeO (j := k) (ior _y31 f) _f_12 _q35 ics_len sz3 rfl rfl rfl rfl (by have _z9 := lkN_len l f _p3 k; omega) fun _w_13 _o_14 _cw_13 => ?_
      have _cw_13z := _cw_13.size
      have E := E.step _cw_13 (fun i hm => by exact (.inr (List.mem_cons_of_mem _ (List.mem_append_right _ hm))))
      have _S_15 : Ch (bl (.slice _A_p3 _p3.length _C_p3)) _w_10 _w_13 := ((Ch.refl _ _).step _cw_13 (fun i hm => by exact .inr hm))
      refine ⟨_S_15, ?_⟩
      refine DR_done (by kernel_rfl) ?_
      refine inB_nrm ?_
      refine thn_nrm (_hK_7 _ _ ?_)
      clear _hK_7
      refine W_region ?_
      refine WL_step rfl rfl (r_move rfl) ?_
      refine WL_step rfl rfl (r_add (by omega) rfl rfl) ?_
      refine WL_step rfl rfl (r_assign rfl) ?_
      refine WL_nil ?_
      have _on_16 : Ol ics 3 1 _w_13 (.slice _A_p3 _p3.length _C_p3) (lkN l f _p3 (k + 1)) := by
        have hx := _o_14
        first | exact hx.eq (lkN_y _h20 _hy31) | exact hx.eq (lkN_n _h20)
      have _f_17 := (_f_11.ch _cw_13 (fun hm => by exact _nb_p3 (by first | exact hm | exact _h0 ▸ hm)))
      have _f_18 := ((_F0_1.ch0 _cw_10).ch _cw_13 (fun g hg hm => by exact _dj_p0_p3 _ hg hm))
      exact thn_nrm (Exists.intro (k + 1) ⟨⟨E, (by omega), (by omega), _f_17, _f_18, _on_16⟩, Sub.cons rfl (Sub.cons rfl (Sub.cons rfl (Sub.cons rfl (Sub.nil _)))), (by first | omega | (dsimp only; omega))⟩)
    · have _kb_9 := _h20
      have _h20 := bf_d _h20
      refine W_skip ?_
      refine inB_nrm ?_
      refine thn_nrm (_hK_7 _ _ ?_)
      clear _hK_7
      refine W_region ?_
      refine WL_step rfl rfl (r_move rfl) ?_
      refine WL_step rfl rfl (r_add (by omega) rfl rfl) ?_
      refine WL_step rfl rfl (r_assign rfl) ?_
      refine WL_nil ?_
      have _on_19 : Ol ics 3 1 _wr_3 (.slice _A_p3 _p3.length _C_p3) (lkN l f _p3 (k + 1)) := by
        have hx := o0_0_3
        first | exact hx.eq (lkN_y _h20 _hy31) | exact hx.eq (lkN_n _h20)
      exact thn_nrm (Exists.intro (k + 1) ⟨⟨E, (by omega), (by omega), _F0_0, _F0_1, _on_19⟩, Sub.cons rfl (Sub.cons rfl (Sub.cons rfl (Sub.cons rfl (Sub.nil _)))), (by first | omega | (dsimp only; omega))⟩)
  · have _kb_6 := _h13
    have _h13 := bf_d _h13
    refine W_exit (thn_exit (thn_exit (inB_hit ?_)))
    clear _hK_4
    have _o_20 : Ol ics 3 1 _wr_3 (.slice _A_p0 _p0.length _C_p0) (_p0) := by
      have hx := _F0_1
      first | exact hx | simpa using hx
    have _o_21 : Ol ics 3 1 _wr_3 (.slice _A_p3 _p3.length _C_p3) (lkL l f _p3) := by
      have hx := o0_0_3
      exact hx.eq (by rw [show k = _p3.length by omega]; rfl)
    have _m_22 : Blk _wr_3 b_p t_p [(.slice _A_p0 _p0.length _C_p0), .int .i64 _p1, .int .i64 _p2, (.slice _A_p3 _p3.length _C_p3), .bool _p4] := by
      have hx := _F0_0
      exact hx
    exact end_intro [] trivial ⟨(.slice _A_p0 _p0.length _C_p0), (.slice _A_p3 _p3.length _C_p3), rfl, _m_22, _o_20, (fun g hm => by exact (.inr (List.mem_cons_of_mem _ (List.mem_append_left _ hm)))), (fun hm => by exact _nb_p0 (by first | exact hm | exact _h0 ▸ hm)), _o_21, (fun g hm => by exact (.inr (List.mem_cons_of_mem _ (List.mem_append_right _ hm)))), (fun hm => by exact _nb_p3 (by first | exact hm | exact _h0 ▸ hm)), (fun g hm hg => by exact _dj_p0_p3 _ hm hg), E⟩

/-- spec.l10Build -/
theorem c_spec_l10Build_n : ∀ (n : Nat) {w : World} {b_p t_p L_p : Nat} {_v_p0 : Value} {_p0 : List Int} {_p1 : Int} {_p2 : Int} {_v_p3 : Value} {_p3 : List Int} {_p4 : Bool} (m_p : Blk w b_p t_p [_v_p0, (.int .i64 _p1), (.int .i64 _p2), _v_p3, (.bool _p4)]) (_lb_p : L_p ≤ b_p) (_h_p0 : Ol ics 3 1 w _v_p0 _p0) (_nb_p0 : b_p ∉ bl _v_p0) (_ll_p0 : Lo L_p _v_p0) (_h_p3 : Ol ics 3 1 w _v_p3 _p3) (_nb_p3 : b_p ∉ bl _v_p3) (_ll_p3 : Lo L_p _v_p3) (_dj_p0_p3 : ∀ g ∈ bl _v_p0, g ∉ bl _v_p3) {LL_l _B_l : Nat} {_v_l : Value} {l : List Token} (_h_l : Ls Token.cs 4 w LL_l _B_l _v_l l) (t : Tr) (hok : Okd t) (hl : l = t.flat) (hbl : _B_l ≤ L_p) (hb : _p0.length + l.length ≤ 100000 ∧ _p3.length + l.length ≤ 100000) (hsz : l.length < n),
    Ctr Try.prog 29 #[(.pointer (some ⟨b_p, 0, none⟩)), _v_l] w (fun v w' => ∃ (zp0 zp3 : Value), v = .agg #[.bool ((bpT t _p0 _p3).n), .int .i64 ((bpT t _p0 _p3).f), .int .i64 ((bpT t _p0 _p3).l)] ∧ Blk w' b_p t_p [zp0, .int .i64 _p1, .int .i64 _p2, zp3, .bool _p4] ∧ Ol ics 3 1 w' zp0 ((bpT t _p0 _p3).L) ∧ (∀ g ∈ bl zp0, w.heap.size ≤ g ∨ g ∈ (b_p :: (bl _v_p0 ++ bl _v_p3))) ∧ b_p ∉ bl zp0 ∧ Ol ics 3 1 w' zp3 ((bpT t _p0 _p3).F) ∧ (∀ g ∈ bl zp3, w.heap.size ≤ g ∨ g ∈ (b_p :: (bl _v_p0 ++ bl _v_p3))) ∧ b_p ∉ bl zp3 ∧ (∀ g ∈ bl zp0, g ∉ bl zp3) ∧ Ch (b_p :: (bl _v_p0 ++ bl _v_p3)) w w') := by
  intro n
  induction n with
  | zero => intros; omega
  | succ n ih =>
 intro w b_p t_p L_p _v_p0 _p0 _p1 _p2 _v_p3 _p3 _p4 m_p _lb_p _h_p0 _nb_p0 _ll_p0 _h_p3 _nb_p3 _ll_p3 _dj_p0_p3 LL_l _B_l _v_l l _h_l t hok hl hbl hb hsz
 obtain ⟨_A_p0, _C_p0, _e1_p0⟩ := _h_p0.val
 subst _e1_p0
 have _l_p0 := _h_p0.len
 have _lt_p0 := _h_p0.lt
 obtain ⟨_A_p3, _C_p3, _e1_p3⟩ := _h_p3.val
 subst _e1_p3
 have _l_p3 := _h_p3.len
 have _lt_p3 := _h_p3.lt
 have _zb_p := m_p.lt
 obtain ⟨_A_l, _C_l, _e1_l⟩ := _h_l.val
 subst _e1_l
 have _l_l := _h_l.len
 have E := Ch.refl (b_p :: (bl (.slice _A_p0 _p0.length _C_p0) ++ bl (.slice _A_p3 _p3.length _C_p3))) w
 have hn1 := t.flat_pos; rw [← hl] at hn1; have k2 := hok.len
 refine Ctr_of_W (N := 163) (vs0 := [(.pointer (some ⟨b_p, 0, none⟩)), (.slice _A_l l.length _C_l)]) Try.func29 rfl rfl rfl ?_
 refine W_seq fun _K_1 _hK_1 => ?_
 refine W_region ?_
 refine WL_s rfl rfl ?_
 refine s_alloc zr57 fun _b4 _w_2 _m4 _cw_2 _e4 => ?_
 have _cw_2z := _cw_2.size
 have E := E.trans _cw_2.of_nil
 have _z4 := _m4.lt
 replace _m4 : Blk _w_2 _b4 57 [(.bool false), (.int .i64 0), (.int .i64 0)] := _m4
 refine WL_nil ?_
 refine thn_nrm (_hK_1 _ _ ?_)
 clear _hK_1
 refine W_seq fun _K_3 _hK_3 => ?_
 refine W_region ?_
 refine WL_step rfl rfl (r_move rfl) ?_
 refine WL_step rfl rfl (r_len (by rw [el28]; rfl) rfl) ?_
 refine WL_step rfl rfl (r_sub (by omega) rfl rfl) ?_
 refine WL_step rfl rfl (r_assign rfl) ?_
 refine WL_nil ?_
 refine thn_nrm (_hK_3 _ _ ?_)
 clear _hK_3
 refine W_seq fun _K_4 _hK_4 => ?_
 refine W_region ?_
 refine WL_step rfl rfl (r_move rfl) ?_
 refine WL_step rfl rfl (r_move rfl) ?_
 refine WL_s rfl rfl ?_
 have _f_5 := (_h_l.ch0 _cw_2)
 refine (s_index (j := (((l.length : Nat) : Int) - 1).toNat) _f_5 Token.len el28 sz55 rfl rfl (by omega) (by omega) fun _p21 _y21 _hy21 _a21 => ?_)
 have _ht := last_tok hl (by omega) _hy21
 have htk := congrArg Token.kind _ht
 have hte := congrArg Token.letter _ht
 have htl := congrArg Token.low _ht
 have hth := congrArg Token.high _ht
 refine WL_step rfl rfl (r_loadAtA0 _a21 agg55 sz55 rfl) ?_
 refine WL_s rfl rfl ?_
 refine s_alloc zr55 fun _b6 _w_6 _m6 _cw_6 _e6 => ?_
 have _cw_6z := _cw_6.size
 have E := E.trans _cw_6.of_nil
 have _z6 := _m6.lt
 replace _m6 : Blk _w_6 _b6 55 [(.int .i64 0), (.int .i64 0), (.int .i64 0), (.int .i64 0)] := _m6
 refine WL_s rfl rfl ?_
 refine s_storeA (off := 0) 4 _m6 sz55 rfl (us := [(.int .i64 _y21.kind), (.int .i64 _y21.letter), (.int .i64 _y21.low), (.int .i64 _y21.high)]) rfl rfl rfl rfl fun _w_7 _m_8 _cw_7 => ?_
 have _cw_7z := _cw_7.size
 have E := E.step _cw_7 (oneL (by omega))
 replace _m_8 : Blk _w_7 _b6 55 [(.int .i64 _y21.kind), (.int .i64 _y21.letter), (.int .i64 _y21.low), (.int .i64 _y21.high)] := _m_8
 refine WL_nil ?_
 refine thn_nrm (_hK_4 _ _ ?_)
 clear _hK_4
 refine W_seq fun _K_9 _hK_9 => ?_
 refine W_seq fun _K_10 _hK_10 => ?_
 refine W_region ?_
 refine WL_step rfl rfl (r_fieldAddr fa55_0 rfl) ?_
 refine WL_step rfl rfl (r_loadAt _m_8.at_ agg3 rfl rfl) ?_
 refine WL_nil ?_
 refine thn_nrm (_hK_10 _ _ ?_)
 clear _hK_10
 refine W_block ?_
 refine W_seq fun _K_11 _hK_11 => ?_
 refine W_region ?_
 refine WL_step rfl rfl (r_eql rfl rfl) ?_
 refine WL_step rfl rfl (r_assign rfl) ?_
 refine WL_nil ?_
 refine thn_nrm (_hK_11 _ _ ?_)
 clear _hK_11
 refine W_cond rfl (fun _h25 => ?_) (fun _h25 => ?_)
 ·have _kb_12 := _h25
  have _h25 := bt_d _h25
  have eb := bp2 (L := _p0) (F := _p3) hok (by omega)
  refine W_seq fun _K_13 _hK_13 => ?_
  refine W_region ?_
  refine WL_step rfl rfl (r_build (parts := [(0, .const (Go.Value.bool true))]) (cells := [(.bool true), (.int .i64 0), (.int .i64 0)]) zr57 pl57 rfl rfl) ?_
  refine WL_s rfl rfl ?_
  have _f_14 := ((_m4.ch0 _cw_6).ch _cw_7 (ne1 (by omega)))
  refine s_storeA (off := 0) 3 _f_14 sz57 rfl (us := [(.bool true), (.int .i64 0), (.int .i64 0)]) rfl rfl rfl rfl fun _w_15 _m_16 _cw_15 => ?_
  have _cw_15z := _cw_15.size
  have E := E.step _cw_15 (oneL (by omega))
  replace _m_16 : Blk _w_15 _b4 57 [(.bool true), (.int .i64 0), (.int .i64 0)] := _m_16
  refine WL_nil ?_
  refine thn_nrm (_hK_13 _ _ ?_)
  clear _hK_13
  refine W_ret (inB_ret (thn_ret ?_))
  clear _hK_9
  have _f_17 := ((((m_p.ch0 _cw_2).ch0 _cw_6).ch _cw_7 (ne1 (by omega))).ch _cw_15 (ne1 (by omega)))
  have _f_18 := ((((_h_p0.ch0 _cw_2).ch0 _cw_6).ch _cw_7 (fun g hg hm => by have _h0 := mSg.1 hm; have _h2 := _ll_p0 _ hg; have _h3 := _lt_p0 _ hg; omega)).ch _cw_15 (fun g hg hm => by have _h0 := mSg.1 hm; have _h2 := _ll_p0 _ hg; have _h3 := _lt_p0 _ hg; omega))
  have _o_19 : Ol ics 3 1 _w_15 (.slice _A_p0 _p0.length _C_p0) ((bpT t _p0 _p3).L) := by
    have hx := _f_18
    exact hx.eq (by rw [eb] <;> first | rfl | (rw [hte]; done))
  have _f_20 := ((((_h_p3.ch0 _cw_2).ch0 _cw_6).ch _cw_7 (fun g hg hm => by have _h0 := mSg.1 hm; have _h2 := _ll_p3 _ hg; have _h3 := _lt_p3 _ hg; omega)).ch _cw_15 (fun g hg hm => by have _h0 := mSg.1 hm; have _h2 := _ll_p3 _ hg; have _h3 := _lt_p3 _ hg; omega))
  have _o_21 : Ol ics 3 1 _w_15 (.slice _A_p3 _p3.length _C_p3) ((bpT t _p0 _p3).F) := by
    have hx := _f_20
    exact hx.eq (by rw [eb] <;> first | rfl | (rw [hte]; done))
  have _m_22 : Blk _w_15 b_p t_p [(.slice _A_p0 _p0.length _C_p0), .int .i64 _p1, .int .i64 _p2, (.slice _A_p3 _p3.length _C_p3), .bool _p4] := by
    have hx := _f_17
    exact hx
  exact ret_intro [_] (resOf_loadA _m_16 rfl agg57 sz57 trivial) ⟨(.slice _A_p0 _p0.length _C_p0), (.slice _A_p3 _p3.length _C_p3), (((congrArg (fun zq => (Value.agg #[.bool zq, .int .i64 0, .int .i64 0])) (by rw [eb] <;> first | rfl | (rw [hte]; done))).trans (congrArg (fun zq => (Value.agg #[.bool ((bpT t _p0 _p3).n), .int .i64 zq, .int .i64 0])) (by rw [eb] <;> first | rfl | (rw [hte]; done)))).trans (congrArg (fun zq => (Value.agg #[.bool ((bpT t _p0 _p3).n), .int .i64 ((bpT t _p0 _p3).f), .int .i64 zq])) (by rw [eb] <;> first | rfl | (rw [hte]; done)))), _m_22, _o_19, (fun g hm => by exact (.inr (mCo _ (mAL _ hm)))), _nb_p0, _o_21, (fun g hm => by exact (.inr (mCo _ (mAR _ hm)))), _nb_p3, _dj_p0_p3, E⟩
 ·have _kb_12 := _h25
  have _h25 := bf_d _h25
  refine W_seq fun _K_23 _hK_23 => ?_
  refine W_region ?_
  refine WL_step rfl rfl (r_eql rfl rfl) ?_
  refine WL_step rfl rfl (r_assign rfl) ?_
  refine WL_nil ?_
  refine thn_nrm (_hK_23 _ _ ?_)
  clear _hK_23
  refine W_cond rfl (fun _h28 => ?_) (fun _h28 => ?_)
  ·have _kb_24 := _h28
   have _h28 := bt_d _h28
   have eb := bp3 (L := _p0) (F := _p3) hok (by omega)
   refine W_seq fun _K_25 _hK_25 => ?_
   refine W_region ?_
   refine WL_step rfl rfl (r_move rfl) ?_
   refine WL_step rfl rfl (r_nilCheck rfl) ?_
   refine WL_step rfl rfl (r_fieldAddr fa37_0 rfl) ?_
   have _f_26 := (((m_p.ch0 _cw_2).ch0 _cw_6).ch _cw_7 (ne1 (by omega)))
   refine WL_step rfl rfl (r_loadAt _f_26.at_ agg25 rfl rfl) ?_
   refine WL_step rfl rfl (r_len (by rw [el25]; rfl) rfl) ?_
   refine WL_step rfl rfl (r_shl (by omega) rfl rfl) ?_
   refine WL_step rfl rfl (r_assign rfl) ?_
   refine WL_nil ?_
   refine thn_nrm (_hK_25 _ _ ?_)
   clear _hK_25
   refine W_seq fun _K_27 _hK_27 => ?_
   have _J_29 : ∀ (lj : KL) (_wj_28 : World) (ju0_0 : Value) (ju0_3 : Value), Go.KLib.Sub [(0, (.pointer (some ⟨b_p, 0, none⟩))), (1, (.slice _A_l l.length _C_l)), (4, (.pointer (some ⟨_b4, 0, none⟩))), (5, (.int .i64 (((l.length : Nat) : Int) - 1))), (7, (.int .i64 (ishl 1 ((_p0.length : Nat) : Int)))), (24, (.int .i64 _y21.kind))] lj → Ch (b_p :: (bl (.slice _A_p0 _p0.length _C_p0) ++ bl (.slice _A_p3 _p3.length _C_p3))) w _wj_28 → _w_7.heap.size ≤ _wj_28.heap.size → Ol ics 3 1 _wj_28 ju0_0 (_p0 ++ [_y21.letter]) → (∀ g ∈ bl ju0_0, w.heap.size ≤ g ∨ g ∈ (b_p :: (bl (.slice _A_p0 _p0.length _C_p0) ++ bl (.slice _A_p3 _p3.length _C_p3)))) → b_p ∉ bl ju0_0 → Ol ics 3 1 _wj_28 ju0_3 _p3 → (∀ g ∈ bl ju0_3, w.heap.size ≤ g ∨ g ∈ (b_p :: (bl (.slice _A_p0 _p0.length _C_p0) ++ bl (.slice _A_p3 _p3.length _C_p3)))) → b_p ∉ bl ju0_3 → (∀ g ∈ bl ju0_0, g ∉ bl ju0_3) → Blk _wj_28 b_p t_p [ju0_0, (.int .i64 _p1), (.int .i64 _p2), ju0_3, (.bool _p4)] → Ls Token.cs 4 _wj_28 LL_l _B_l (.slice _A_l l.length _C_l) l → Blk _wj_28 _b4 57 [(.bool false), (.int .i64 0), (.int .i64 0)] → _b4 ∉ bl ju0_0 → _b4 ∉ bl ju0_3 → _K_27 lj _wj_28 := by
    intro lj _wj_28 ju0_0 ju0_3 _jsub E szjK_27 _qju0_0 inju0_0 nbju0_0 _qju0_3 inju0_3 nbju0_3 _djju0_0ju0_3 mj0 _F9_0 _F9_1 _nbz9_ju0_0_b4 _nbz9_ju0_3_b4
    refine _hK_27 _ _ (W_sub _jsub ?_)
    clear _hK_27
    have EJ_30 := E
    have EJ_30z := EJ_30.size
    obtain ⟨_Aju0_0, _Cju0_0, _eju0_0⟩ := _qju0_0.val
    subst _eju0_0
    have _lju0_0 := _qju0_0.len
    have _hiju0_0 := _qju0_0.lt
    have _loju0_0 : Lo L_p (.slice _Aju0_0 ((_p0 ++ [_y21.letter])).length _Cju0_0) := fun g hm => by have z2hm := _hiju0_0 _ hm; rcases inju0_0 _ hm with _z1 | _z1; (omega); (rcases List.mem_cons.1 _z1 with _z1 | _z1; (exact absurd (_z1 ▸ hm) nbju0_0); (replace hm := _z1; rcases List.mem_append.1 hm with hm | hm; (have _h1 := _ll_p0 _ hm; have _h2 := _lt_p0 _ hm; omega); (have _h1 := _ll_p3 _ hm; have _h2 := _lt_p3 _ hm; omega)))
    obtain ⟨_Aju0_3, _Cju0_3, _eju0_3⟩ := _qju0_3.val
    subst _eju0_3
    have _lju0_3 := _qju0_3.len
    have _hiju0_3 := _qju0_3.lt
    have _loju0_3 : Lo L_p (.slice _Aju0_3 (_p3).length _Cju0_3) := fun g hm => by have z2hm := _hiju0_3 _ hm; rcases inju0_3 _ hm with _z1 | _z1; (omega); (rcases List.mem_cons.1 _z1 with _z1 | _z1; (exact absurd (_z1 ▸ hm) nbju0_3); (replace hm := _z1; rcases List.mem_append.1 hm with hm | hm; (have _h1 := _ll_p0 _ hm; have _h2 := _lt_p0 _ hm; omega); (have _h1 := _ll_p3 _ hm; have _h2 := _lt_p3 _ hm; omega)))
    refine W_seq fun _K_31 _hK_31 => ?_
    refine W_region ?_
    refine WL_step rfl rfl (r_move rfl) ?_
    refine WL_step rfl rfl (r_move rfl) ?_
    refine WL_step rfl rfl (r_nilCheck rfl) ?_
    refine WL_step rfl rfl (r_fieldAddr fa37_3 rfl) ?_
    refine WL_step rfl rfl (r_loadAt mj0.at_ agg25 rfl rfl) ?_
    refine WL_s rfl rfl ?_
    refine s_buildSlice (cs := ics) (parts := [(0, .const (Go.Value.int Go.IntKind.i64 0))]) (0 : Int) [0] el25 sz3 zr3 ics_len (by decide) rfl rfl rfl (by decide) (by decide) rfl fun _v52 _w_32 _q52 _lo52 _cw_32 => ?_
    have _cw_32z := _cw_32.size
    have E := E.trans _cw_32.of_nil
    obtain ⟨_Av52, _Cv52, _ev52⟩ := _q52.val
    subst _ev52
    have _lv52 := _q52.len
    have _hiv52 := _q52.lt
    refine WL_s rfl rfl ?_
    have _f_34 := (_qju0_3.ch0 _cw_32)
    refine s_append (cs := ics) el25 sz3 by3 zr3 rfl (by decide) ics_one _f_34 _q52.ls rfl rfl (by first | omega | (simp only [List.length_append, List.length_nil, List.length_cons, List.length_replicate, List.length_set, List.length_reverse, List.length_map] at *; omega) | (simp at *; omega)) (by first | omega | (simp only [List.length_append, List.length_nil, List.length_cons, List.length_replicate, List.length_set, List.length_reverse, List.length_map] at *; omega) | (simp at *; omega)) _loju0_3 (by omega) fun _v53 _w_33 _q53 _lo53 _ap53 _cw_33 => ?_
    have _cw_33z := _cw_33.size
    have E := E.step _cw_33 (fun i hm => by exact inju0_3 _ hm)
    obtain ⟨_Av53, _Cv53, _ev53⟩ := _q53.val
    subst _ev53
    have _lv53 := _q53.len
    have _hiv53 := _q53.lt
    refine WL_step rfl rfl (r_nilCheck rfl) ?_
    refine WL_step rfl rfl (r_fieldAddr fa37_3 rfl) ?_
    refine WL_s rfl rfl ?_
    have _f_35 := ((mj0.ch0 _cw_32).ch _cw_33 nbju0_3)
    refine s_store1 (off := 3) _f_35 sz25 rfl rfl rfl rfl fun _w_36 _m_37 _cw_36 => ?_
    have _cw_36z := _cw_36.size
    have E := E.step _cw_36 (fun i hm => by have _h0 := mSg.1 hm; right; exact _h0 ▸ List.mem_cons_self ..)
    replace _m_37 : Blk _w_36 b_p t_p [(.slice _Aju0_0 ((_p0 ++ [_y21.letter])).length _Cju0_0), (.int .i64 _p1), (.int .i64 _p2), (.slice _Av53 ((_p3 ++ [0])).length _Cv53), (.bool _p4)] := _m_37
    refine WL_nil ?_
    refine thn_nrm (_hK_31 _ _ ?_)
    clear _hK_31
    refine W_seq fun _K_38 _hK_38 => ?_
    refine W_region ?_
    refine WL_step rfl rfl (r_move rfl) ?_
    refine WL_step rfl rfl (r_move rfl) ?_
    refine WL_step rfl rfl (r_build (parts := [(1, .tmp 56), (2, .tmp 57)]) (cells := [(.bool false), (.int .i64 (ishl 1 ((_p0.length : Nat) : Int))), (.int .i64 (ishl 1 ((_p0.length : Nat) : Int)))]) zr57 pl57 rfl rfl) ?_
    refine WL_s rfl rfl ?_
    have _f_39 := (((_F9_1.ch0 _cw_32).ch _cw_33 _nbz9_ju0_3_b4).ch _cw_36 (ne1 (by omega)))
    refine s_storeA (off := 0) 3 _f_39 sz57 rfl (us := [(.bool false), (.int .i64 (ishl 1 ((_p0.length : Nat) : Int))), (.int .i64 (ishl 1 ((_p0.length : Nat) : Int)))]) rfl rfl rfl rfl fun _w_40 _m_41 _cw_40 => ?_
    have _cw_40z := _cw_40.size
    have E := E.step _cw_40 (oneL (by omega))
    replace _m_41 : Blk _w_40 _b4 57 [(.bool false), (.int .i64 (ishl 1 ((_p0.length : Nat) : Int))), (.int .i64 (ishl 1 ((_p0.length : Nat) : Int)))] := _m_41
    refine WL_nil ?_
    refine thn_nrm (_hK_38 _ _ ?_)
    clear _hK_38
    refine W_ret (inB_ret (thn_ret ?_))
    clear _hK_9
    have _f_42 := (_m_37.ch _cw_40 (ne1 (by omega)))
    have _f_43 := ((((_qju0_0.ch0 _cw_32).ch _cw_33 (fun g hg hm => by exact _djju0_0ju0_3 _ hg hm)).ch _cw_36 (fun g hg hm => by have _h0 := mSg.1 hm; exact nbju0_0 (by first | exact hg | exact _h0 ▸ hg))).ch _cw_40 (fun g hg hm => by have _h0 := mSg.1 hm; exact _nbz9_ju0_0_b4 (by first | exact hg | exact _h0 ▸ hg)))
    have _o_44 : Ol ics 3 1 _w_40 (.slice _Aju0_0 ((_p0 ++ [_y21.letter])).length _Cju0_0) ((bpT t _p0 _p3).L) := by
      have hx := _f_43
      exact hx.eq (by rw [eb] <;> first | rfl | (rw [hte]; done))
    have _f_45 := ((_q53.ch _cw_36 (fun g hg hm => by have _h0 := mSg.1 hm; rcases _ap53 with ea | ea; (rw [ea] at hg; exact nbju0_3 (by first | exact hg | exact _h0 ▸ hg)); (have z2hg := _hiv53 _ hg; rw [ea] at hg; have _z1 := mSg.1 hg; omega))).ch _cw_40 (fun g hg hm => by have _h0 := mSg.1 hm; rcases _ap53 with ea | ea; (rw [ea] at hg; exact _nbz9_ju0_3_b4 (by first | exact hg | exact _h0 ▸ hg)); (have z2hg := _hiv53 _ hg; rw [ea] at hg; have _z1 := mSg.1 hg; omega)))
    have _o_46 : Ol ics 3 1 _w_40 (.slice _Av53 ((_p3 ++ [0])).length _Cv53) ((bpT t _p0 _p3).F) := by
      have hx := _f_45
      exact hx.eq (by rw [eb] <;> first | rfl | (rw [hte]; done))
    have _m_47 : Blk _w_40 b_p t_p [(.slice _Aju0_0 ((_p0 ++ [_y21.letter])).length _Cju0_0), .int .i64 _p1, .int .i64 _p2, (.slice _Av53 ((_p3 ++ [0])).length _Cv53), .bool _p4] := by
      have hx := _f_42
      exact hx
    exact ret_intro [_] (resOf_loadA _m_41 rfl agg57 sz57 trivial) ⟨(.slice _Aju0_0 ((_p0 ++ [_y21.letter])).length _Cju0_0), (.slice _Av53 ((_p3 ++ [0])).length _Cv53), (((congrArg (fun zq => (Value.agg #[.bool zq, .int .i64 (ishl 1 ((_p0.length : Nat) : Int)), .int .i64 (ishl 1 ((_p0.length : Nat) : Int))])) (by rw [eb] <;> first | rfl | (rw [hte]; done))).trans (congrArg (fun zq => (Value.agg #[.bool ((bpT t _p0 _p3).n), .int .i64 zq, .int .i64 (ishl 1 ((_p0.length : Nat) : Int))])) (by rw [eb] <;> first | rfl | (rw [hte]; done)))).trans (congrArg (fun zq => (Value.agg #[.bool ((bpT t _p0 _p3).n), .int .i64 ((bpT t _p0 _p3).f), .int .i64 zq])) (by rw [eb] <;> first | rfl | (rw [hte]; done)))), _m_47, _o_44, (fun g hm => by exact inju0_0 _ hm), nbju0_0, _o_46, (fun g hm => by rcases _ap53 with ea | ea; (rw [ea] at hm; exact inju0_3 _ hm); (have z2hm := _hiv53 _ hm; rw [ea] at hm; have _z1 := mSg.1 hm; left; omega)), (fun hm => by rcases _ap53 with ea | ea; (rw [ea] at hm; exact nbju0_3 (by first | exact hm | exact _h0 ▸ hm)); (have z2hm := _hiv53 _ hm; rw [ea] at hm; have _z1 := mSg.1 hm; omega)), (fun g hm hg => by rcases _ap53 with ea | ea; (rw [ea] at hg; exact _djju0_0ju0_3 _ hm hg); (have z2hg := _hiv53 _ hg; rw [ea] at hg; have _z1 := mSg.1 hg; have _h1 := _loju0_0 _ hm; have _h2 := _hiju0_0 _ hm; omega)), E⟩
   clear _hK_27
   refine W_drawC ((bl (.slice _A_p0 _p0.length _C_p0)) ++ [b_p]) 12 mixed rfl fun _w_48 _cw_48 => ?_
   have _cw_48z := _cw_48.size
   have E := E.trans _cw_48.of_nil
   refine DR_s 0 rfl (by kernel_rfl) rfl rfl (t_v (fun _ => (r_move rfl)) ?_)
   refine DR_s 1 rfl (by kernel_rfl) rfl rfl (t_v (fun _ => (r_move rfl)) ?_)
   refine DR_s 2 rfl (by kernel_rfl) rfl rfl (t_v (fun _ => (r_nilCheck rfl)) ?_)
   refine DR_s 3 rfl (by kernel_rfl) rfl rfl (t_v (fun _ => (r_fieldAddr fa37_0 rfl)) ?_)
   refine DR_s 5 rfl (by kernel_rfl) rfl rfl (t_v (fun _ => (r_fieldAddr fa55_1 rfl)) ?_)
   have _f_49 := (_m_8.ch0 _cw_48)
   refine DR_s 6 rfl (by kernel_rfl) rfl rfl (t_loadAt _f_49.at_ (fun i hm => by rcases List.mem_append.1 hm with hm | hm; (have _h1 := _ll_p0 _ hm; have _h2 := _lt_p0 _ hm; omega); (have _h1 := mSg.1 hm; omega)) agg3 rfl rfl ?_)
   refine DR_two 4 7 (by kernel_rfl) ?_ ?_
   ·refine DO_s rfl rfl rfl ?_
    have _f_50 := (_f_26.ch0 _cw_48)
    refine s_v (r_loadAt _f_50.at_ agg25 rfl rfl) ?_
    refine ⟨(Ch.refl _ _), ?_⟩
    refine DR_one 7 (by kernel_rfl) ?_
    refine DO_s rfl rfl rfl ?_
    refine s_buildSlice (cs := ics) (parts := [(0, .tmp 42)]) (0 : Int) [_y21.letter] el25 sz3 zr3 ics_len (by decide) rfl rfl rfl (by decide) (by decide) rfl fun _v43 _w_51 _q43 _lo43 _cw_51 => ?_
    have _cw_51z := _cw_51.size
    have E := E.trans _cw_51.of_nil
    obtain ⟨_Av43, _Cv43, _ev43⟩ := _q43.val
    subst _ev43
    have _lv43 := _q43.len
    have _hiv43 := _q43.lt
    have _S_52 : Ch ((bl (.slice _A_p0 _p0.length _C_p0)) ++ [b_p]) _w_48 _w_51 := ((Ch.refl _ _).trans _cw_51.of_nil)
    refine ⟨_S_52, ?_⟩
    refine DR_one 8 (by kernel_rfl) ?_
    refine DO_s rfl rfl rfl ?_
    have _f_54 := (((((_h_p0.ch0 _cw_2).ch0 _cw_6).ch _cw_7 (fun g hg hm => by have _h0 := mSg.1 hm; have _h2 := _ll_p0 _ hg; have _h3 := _lt_p0 _ hg; omega)).ch0 _cw_48).ch0 _cw_51)
    refine s_append (cs := ics) el25 sz3 by3 zr3 rfl (by decide) ics_one _f_54 _q43.ls rfl rfl (by first | omega | (simp only [List.length_append, List.length_nil, List.length_cons, List.length_replicate, List.length_set, List.length_reverse, List.length_map] at *; omega) | (simp at *; omega)) (by first | omega | (simp only [List.length_append, List.length_nil, List.length_cons, List.length_replicate, List.length_set, List.length_reverse, List.length_map] at *; omega) | (simp at *; omega)) _ll_p0 (by omega) fun _v44 _w_53 _q44 _lo44 _ap44 _cw_53 => ?_
    have _cw_53z := _cw_53.size
    have E := E.step _cw_53 (fun i hm => by exact (.inr (mCo _ (mAL _ hm))))
    obtain ⟨_Av44, _Cv44, _ev44⟩ := _q44.val
    subst _ev44
    have _lv44 := _q44.len
    have _hiv44 := _q44.lt
    have _S_55 := (_S_52.step _cw_53 (fun i hm => by exact .inr (mAL _ hm)))
    refine ⟨_S_55, ?_⟩
    refine DR_s 9 rfl (by kernel_rfl) rfl rfl (t_v (fun _ => (r_nilCheck rfl)) ?_)
    refine DR_s 10 rfl (by kernel_rfl) rfl rfl (t_v (fun _ => (r_fieldAddr fa37_0 rfl)) ?_)
    refine DR_one 11 (by kernel_rfl) ?_
    refine DO_s rfl rfl rfl ?_
    have _f_56 := ((_f_50.ch0 _cw_51).ch _cw_53 _nb_p0)
    refine s_store1 (off := 0) _f_56 sz25 rfl rfl rfl rfl fun _w_57 _m_58 _cw_57 => ?_
    have _cw_57z := _cw_57.size
    have E := E.step _cw_57 (fun i hm => by have _h0 := mSg.1 hm; right; exact _h0 ▸ List.mem_cons_self ..)
    replace _m_58 : Blk _w_57 b_p t_p [(.slice _Av44 ((_p0 ++ [_y21.letter])).length _Cv44), (.int .i64 _p1), (.int .i64 _p2), (.slice _A_p3 _p3.length _C_p3), (.bool _p4)] := _m_58
    have _S_59 := (_S_55.step _cw_57 (fun i hm => by have _h0 := mSg.1 hm; exact .inr (by rw [_h0]; exact (mAR _ (mSg.2 rfl)))))
    refine ⟨_S_59, ?_⟩
    refine DR_done (by kernel_rfl) ?_
    refine thn_nrm ?_
    have _f_60 := (_q44.ch _cw_57 (fun g hg hm => by have _h0 := mSg.1 hm; rcases _ap44 with ea | ea; (rw [ea] at hg; exact _nb_p0 (by first | exact hg | exact _h0 ▸ hg)); (have z2hg := _hiv44 _ hg; rw [ea] at hg; have _z1 := mSg.1 hg; omega)))
    have _f_61 := (((((((_h_p3.ch0 _cw_2).ch0 _cw_6).ch _cw_7 (fun g hg hm => by have _h0 := mSg.1 hm; have _h2 := _ll_p3 _ hg; have _h3 := _lt_p3 _ hg; omega)).ch0 _cw_48).ch0 _cw_51).ch _cw_53 (fun g hg hm => by exact _dj_p0_p3 _ hm hg)).ch _cw_57 (fun g hg hm => by have _h0 := mSg.1 hm; exact _nb_p3 (by first | exact hg | exact _h0 ▸ hg)))
    have _f_62 := ((((((_f_5.ch0 _cw_6).ch _cw_7 (tfr1 (by omega))).ch0 _cw_48).ch0 _cw_51).ch _cw_53 (fun i hi => by have _h1 := _ll_p0 _ hi; omega)).ch _cw_57 (tfr1 (by omega)))
    have _f_63 := ((((((_m4.ch0 _cw_6).ch _cw_7 (ne1 (by omega))).ch0 _cw_48).ch0 _cw_51).ch _cw_53 (no_in _ll_p0 _lt_p0 (by omega))).ch _cw_57 (ne1 (by omega)))
    exact _J_29 _ _ _ _ (Sub.cons rfl (Sub.cons rfl (Sub.cons rfl (Sub.cons rfl (Sub.cons rfl (Sub.cons rfl (Sub.nil _))))))) E (by omega) _f_60 (fun g hm => by rcases _ap44 with ea | ea; (rw [ea] at hm; exact (.inr (mCo _ (mAL _ hm)))); (have z2hm := _hiv44 _ hm; rw [ea] at hm; have _z1 := mSg.1 hm; left; omega)) (fun hm => by rcases _ap44 with ea | ea; (rw [ea] at hm; exact _nb_p0 (by first | exact hm | exact _h0 ▸ hm)); (have z2hm := _hiv44 _ hm; rw [ea] at hm; have _z1 := mSg.1 hm; omega)) _f_61 (fun g hm => by exact (.inr (mCo _ (mAR _ hm)))) _nb_p3 (fun g hm hg => by rcases _ap44 with ea | ea; (rw [ea] at hm; exact _dj_p0_p3 _ hm hg); (have z2hm := _hiv44 _ hm; rw [ea] at hm; have _z1 := mSg.1 hm; have _h3 := _ll_p3 _ hg; have _h4 := _lt_p3 _ hg; omega)) _m_58 _f_62 _f_63 (fun hm => by rcases _ap44 with ea | ea; (rw [ea] at hm; have _h1 := _ll_p0 _ hm; have _h2 := _lt_p0 _ hm; omega); (have z2hm := _hiv44 _ hm; rw [ea] at hm; have _z1 := mSg.1 hm; omega)) (no_in _ll_p3 _lt_p3 (by omega))
   ·refine DO_s rfl rfl rfl ?_
    refine s_buildSlice (cs := ics) (parts := [(0, .tmp 42)]) (0 : Int) [_y21.letter] el25 sz3 zr3 ics_len (by decide) rfl rfl rfl (by decide) (by decide) rfl fun _v43 _w_64 _q43 _lo43 _cw_64 => ?_
    have _cw_64z := _cw_64.size
    have E := E.trans _cw_64.of_nil
    obtain ⟨_Av43, _Cv43, _ev43⟩ := _q43.val
    subst _ev43
    have _lv43 := _q43.len
    have _hiv43 := _q43.lt
    have _S_65 : Ch ((bl (.slice _A_p0 _p0.length _C_p0)) ++ [b_p]) _w_48 _w_64 := ((Ch.refl _ _).trans _cw_64.of_nil)
    refine ⟨_S_65, ?_⟩
    refine DR_one 4 (by kernel_rfl) ?_
    refine DO_s rfl rfl rfl ?_
    have _f_66 := ((_f_26.ch0 _cw_48).ch0 _cw_64)
    refine s_v (r_loadAt _f_66.at_ agg25 rfl rfl) ?_
    refine ⟨_S_65, ?_⟩
    refine DR_one 8 (by kernel_rfl) ?_
    refine DO_s rfl rfl rfl ?_
    have _f_68 := (((((_h_p0.ch0 _cw_2).ch0 _cw_6).ch _cw_7 (fun g hg hm => by have _h0 := mSg.1 hm; have _h2 := _ll_p0 _ hg; have _h3 := _lt_p0 _ hg; omega)).ch0 _cw_48).ch0 _cw_64)
    refine s_append (cs := ics) el25 sz3 by3 zr3 rfl (by decide) ics_one _f_68 _q43.ls rfl rfl (by first | omega | (simp only [List.length_append, List.length_nil, List.length_cons, List.length_replicate, List.length_set, List.length_reverse, List.length_map] at *; omega) | (simp at *; omega)) (by first | omega | (simp only [List.length_append, List.length_nil, List.length_cons, List.length_replicate, List.length_set, List.length_reverse, List.length_map] at *; omega) | (simp at *; omega)) _ll_p0 (by omega) fun _v44 _w_67 _q44 _lo44 _ap44 _cw_67 => ?_
    have _cw_67z := _cw_67.size
    have E := E.step _cw_67 (fun i hm => by exact (.inr (mCo _ (mAL _ hm))))
    obtain ⟨_Av44, _Cv44, _ev44⟩ := _q44.val
    subst _ev44
    have _lv44 := _q44.len
    have _hiv44 := _q44.lt
    have _S_69 := (_S_65.step _cw_67 (fun i hm => by exact .inr (mAL _ hm)))
    refine ⟨_S_69, ?_⟩
    refine DR_s 9 rfl (by kernel_rfl) rfl rfl (t_v (fun _ => (r_nilCheck rfl)) ?_)
    refine DR_s 10 rfl (by kernel_rfl) rfl rfl (t_v (fun _ => (r_fieldAddr fa37_0 rfl)) ?_)
    refine DR_one 11 (by kernel_rfl) ?_
    refine DO_s rfl rfl rfl ?_
    have _f_70 := (_f_66.ch _cw_67 _nb_p0)
    refine s_store1 (off := 0) _f_70 sz25 rfl rfl rfl rfl fun _w_71 _m_72 _cw_71 => ?_
    have _cw_71z := _cw_71.size
    have E := E.step _cw_71 (fun i hm => by have _h0 := mSg.1 hm; right; exact _h0 ▸ List.mem_cons_self ..)
    replace _m_72 : Blk _w_71 b_p t_p [(.slice _Av44 ((_p0 ++ [_y21.letter])).length _Cv44), (.int .i64 _p1), (.int .i64 _p2), (.slice _A_p3 _p3.length _C_p3), (.bool _p4)] := _m_72
    have _S_73 := (_S_69.step _cw_71 (fun i hm => by have _h0 := mSg.1 hm; exact .inr (by rw [_h0]; exact (mAR _ (mSg.2 rfl)))))
    refine ⟨_S_73, ?_⟩
    refine DR_done (by kernel_rfl) ?_
    refine thn_nrm ?_
    have _f_74 := (_q44.ch _cw_71 (fun g hg hm => by have _h0 := mSg.1 hm; rcases _ap44 with ea | ea; (rw [ea] at hg; exact _nb_p0 (by first | exact hg | exact _h0 ▸ hg)); (have z2hg := _hiv44 _ hg; rw [ea] at hg; have _z1 := mSg.1 hg; omega)))
    have _f_75 := (((((((_h_p3.ch0 _cw_2).ch0 _cw_6).ch _cw_7 (fun g hg hm => by have _h0 := mSg.1 hm; have _h2 := _ll_p3 _ hg; have _h3 := _lt_p3 _ hg; omega)).ch0 _cw_48).ch0 _cw_64).ch _cw_67 (fun g hg hm => by exact _dj_p0_p3 _ hm hg)).ch _cw_71 (fun g hg hm => by have _h0 := mSg.1 hm; exact _nb_p3 (by first | exact hg | exact _h0 ▸ hg)))
    have _f_76 := ((((((_f_5.ch0 _cw_6).ch _cw_7 (tfr1 (by omega))).ch0 _cw_48).ch0 _cw_64).ch _cw_67 (fun i hi => by have _h1 := _ll_p0 _ hi; omega)).ch _cw_71 (tfr1 (by omega)))
    have _f_77 := ((((((_m4.ch0 _cw_6).ch _cw_7 (ne1 (by omega))).ch0 _cw_48).ch0 _cw_64).ch _cw_67 (no_in _ll_p0 _lt_p0 (by omega))).ch _cw_71 (ne1 (by omega)))
    exact _J_29 _ _ _ _ (Sub.cons rfl (Sub.cons rfl (Sub.cons rfl (Sub.cons rfl (Sub.cons rfl (Sub.cons rfl (Sub.nil _))))))) E (by omega) _f_74 (fun g hm => by rcases _ap44 with ea | ea; (rw [ea] at hm; exact (.inr (mCo _ (mAL _ hm)))); (have z2hm := _hiv44 _ hm; rw [ea] at hm; have _z1 := mSg.1 hm; left; omega)) (fun hm => by rcases _ap44 with ea | ea; (rw [ea] at hm; exact _nb_p0 (by first | exact hm | exact _h0 ▸ hm)); (have z2hm := _hiv44 _ hm; rw [ea] at hm; have _z1 := mSg.1 hm; omega)) _f_75 (fun g hm => by exact (.inr (mCo _ (mAR _ hm)))) _nb_p3 (fun g hm hg => by rcases _ap44 with ea | ea; (rw [ea] at hm; exact _dj_p0_p3 _ hm hg); (have z2hm := _hiv44 _ hm; rw [ea] at hm; have _z1 := mSg.1 hm; have _h3 := _ll_p3 _ hg; have _h4 := _lt_p3 _ hg; omega)) _m_72 _f_76 _f_77 (fun hm => by rcases _ap44 with ea | ea; (rw [ea] at hm; have _h1 := _ll_p0 _ hm; have _h2 := _lt_p0 _ hm; omega); (have z2hm := _hiv44 _ hm; rw [ea] at hm; have _z1 := mSg.1 hm; omega)) (no_in _ll_p3 _lt_p3 (by omega))
  ·have _kb_24 := _h28
   have _h28 := bf_d _h28
   refine W_seq fun _K_78 _hK_78 => ?_
   refine W_region ?_
   refine WL_step rfl rfl (r_eql rfl rfl) ?_
   refine WL_step rfl rfl (r_assign rfl) ?_
   refine WL_nil ?_
   refine thn_nrm (_hK_78 _ _ ?_)
   clear _hK_78
   refine W_cond rfl (fun _h59 => ?_) (fun _h59 => ?_)
   ·have _kb_79 := _h59
    have _h59 := bt_d _h59
    obtain ⟨ta, tb, et, oa, ob, hla, hn2⟩ := hok.k2 (by omega) _ht hl
    have _hk0 : t.kids[0]? = some ta := by rw [et]; rfl
    have _hk1 : t.kids[1]? = some tb := by rw [et]; rfl
    have ga := ta.flat_len
    have gb := tb.flat_len
    have za := bpT_len ta _p0 _p3
    have zb := bpT_len tb (bpT ta _p0 _p3).L (bpT ta _p0 _p3).F
    have eb := bp4 (L := _p0) (F := _p3) hok (by omega) _hk0 _hk1
    refine W_seq fun _K_80 _hK_80 => ?_
    refine W_region ?_
    refine WL_step rfl rfl (r_move rfl) ?_
    refine WL_step rfl rfl (r_move rfl) ?_
    refine WL_s rfl rfl ?_
    have _f_81 := ((_f_5.ch0 _cw_6).ch _cw_7 (tfr1 (by omega)))
    refine (s_cut (ys := (ta.flat ++ tb.flat)) 0 ((((l.length : Nat) : Int) - 1).toNat) _f_81 Token.len el28 sz55 rfl rfl ⟨_, _, rfl, by omega⟩ (by omega) (by omega) (show l.take _ = _ from cut_ab hla (by omega)) fun _v63 _q63 _bb63 _ln63 => ?_)
    obtain ⟨_A63, _C63, _e63⟩ := _q63.val
    subst _e63
    have _l63 := _q63.len
    refine WL_s rfl rfl ?_
    refine Step.call (r_call (xs := [.tmp 63]) fk50 rfl) (c_spec_l8Start _q63 ta.flat tb ob rfl) fun _v64 _w_82 _q64 => ?_
    obtain ⟨rfl, _cw_82⟩ := _q64
    have _cw_82z := _cw_82.size
    have E := E.trans _cw_82.of_nil
    refine WL_step rfl rfl (r_assign rfl) ?_
    refine WL_nil ?_
    refine thn_nrm (_hK_80 _ _ ?_)
    clear _hK_80
    refine W_seq fun _K_83 _hK_83 => ?_
    refine W_region ?_
    refine WL_step rfl rfl (r_move rfl) ?_
    refine WL_step rfl rfl (r_move rfl) ?_
    refine WL_step rfl rfl (r_move rfl) ?_
    refine WL_s rfl rfl ?_
    have _f_84 := (_f_81.ch0 _cw_82)
    refine (s_cut (ys := ta.flat) 0 ta.flat.length _f_84 Token.len el28 sz55 rfl rfl ⟨_, _, rfl, by omega⟩ (by omega) (by omega) (show l.take _ = _ from cut_a hla (by omega)) fun _v68 _q68 _bb68 _ln68 => ?_)
    obtain ⟨_A68, _C68, _e68⟩ := _q68.val
    subst _e68
    have _l68 := _q68.len
    refine WL_s rfl rfl ?_
    have _f_85 := ((((m_p.ch0 _cw_2).ch0 _cw_6).ch _cw_7 (ne1 (by omega))).ch0 _cw_82)
    have _f_86 := ((((_h_p0.ch0 _cw_2).ch0 _cw_6).ch _cw_7 (fun g hg hm => by have _h0 := mSg.1 hm; have _h2 := _ll_p0 _ hg; have _h3 := _lt_p0 _ hg; omega)).ch0 _cw_82)
    have _f_87 := ((((_h_p3.ch0 _cw_2).ch0 _cw_6).ch _cw_7 (fun g hg hm => by have _h0 := mSg.1 hm; have _h2 := _ll_p3 _ hg; have _h3 := _lt_p3 _ hg; omega)).ch0 _cw_82)
    refine Step.call (r_call (xs := [.tmp 65, .tmp 68]) fk29 rfl) (ih _f_85 (by omega) _f_86 _nb_p0 (Lo.down _ll_p0 (by omega)) _f_87 _nb_p3 (Lo.down _ll_p3 (by omega)) _dj_p0_p3 _q68 ta oa rfl (by omega) ⟨by omega, by omega⟩ (L_p := L_p) (by omega)) fun _v69 _w_88 _q69 => ?_
    obtain ⟨_z69_0, _z69_3, rfl, _m69, _qz69_0, _inz69_0, _nbz69_0, _qz69_3, _inz69_3, _nbz69_3, _djz69_0z69_3, _cw_88⟩ := _q69
    have _cw_88z := _cw_88.size
    have E := E.step _cw_88 (fun i hm => by rcases List.mem_cons.1 hm with _h0 | hm; (right; exact _h0 ▸ List.mem_cons_self ..); (rcases List.mem_append.1 hm with hm | hm; (exact (.inr (mCo _ (mAL _ hm)))); (exact (.inr (mCo _ (mAR _ hm))))))
    obtain ⟨Az69_0, Cz69_0, ez69_0⟩ := _qz69_0.val
    subst ez69_0
    have lz69_0 := _qz69_0.len
    have hiz69_0 := _qz69_0.lt
    have _loz69_0 : Lo L_p (.slice Az69_0 ((bpT ta _p0 _p3).L).length Cz69_0) := loOld _inz69_0 _nbz69_0 (by omega) (all2 _ll_p0 _ll_p3)
    obtain ⟨Az69_3, Cz69_3, ez69_3⟩ := _qz69_3.val
    subst ez69_3
    have lz69_3 := _qz69_3.len
    have hiz69_3 := _qz69_3.lt
    have _loz69_3 : Lo L_p (.slice Az69_3 ((bpT ta _p0 _p3).F).length Cz69_3) := loOld _inz69_3 _nbz69_3 (by omega) (all2 _ll_p0 _ll_p3)
    have nQ69_0_4 := nbOld _inz69_0 _nbz69_0 (show _b4 < _ by omega) (nin2 (no_in _ll_p0 _lt_p0 (by omega)) (no_in _ll_p3 _lt_p3 (by omega)))
    have nQ69_0_6 := nbOld _inz69_0 _nbz69_0 (show _b6 < _ by omega) (nin2 (no_in _ll_p0 _lt_p0 (by omega)) (no_in _ll_p3 _lt_p3 (by omega)))
    have iQ69_0 := inOldE E _inz69_0 _nbz69_0 (by omega) (all2 (fun g hm => (.inr (mCo _ (mAL _ hm)))) (fun g hm => (.inr (mCo _ (mAR _ hm)))))
    have nQ69_3_4 := nbOld _inz69_3 _nbz69_3 (show _b4 < _ by omega) (nin2 (no_in _ll_p0 _lt_p0 (by omega)) (no_in _ll_p3 _lt_p3 (by omega)))
    have nQ69_3_6 := nbOld _inz69_3 _nbz69_3 (show _b6 < _ by omega) (nin2 (no_in _ll_p0 _lt_p0 (by omega)) (no_in _ll_p3 _lt_p3 (by omega)))
    have iQ69_3 := inOldE E _inz69_3 _nbz69_3 (by omega) (all2 (fun g hm => (.inr (mCo _ (mAL _ hm)))) (fun g hm => (.inr (mCo _ (mAR _ hm)))))
    replace _m69 : Blk _w_88 b_p t_p [(.slice Az69_0 ((bpT ta _p0 _p3).L).length Cz69_0), (.int .i64 _p1), (.int .i64 _p2), (.slice Az69_3 ((bpT ta _p0 _p3).F).length Cz69_3), (.bool _p4)] := _m69
    refine WL_s rfl rfl ?_
    refine s_alloc zr57 fun _b9 _w_89 _m9 _cw_89 _e9 => ?_
    have _cw_89z := _cw_89.size
    have E := E.trans _cw_89.of_nil
    have _z9 := _m9.lt
    replace _m9 : Blk _w_89 _b9 57 [(.bool false), (.int .i64 0), (.int .i64 0)] := _m9
    refine WL_s rfl rfl ?_
    refine s_storeA (off := 0) 3 _m9 sz57 rfl (us := [(.bool ((bpT ta _p0 _p3).n)), (.int .i64 ((bpT ta _p0 _p3).f)), (.int .i64 ((bpT ta _p0 _p3).l))]) rfl rfl rfl rfl fun _w_90 _m_91 _cw_90 => ?_
    have _cw_90z := _cw_90.size
    have E := E.step _cw_90 (oneL (by omega))
    replace _m_91 : Blk _w_90 _b9 57 [(.bool ((bpT ta _p0 _p3).n)), (.int .i64 ((bpT ta _p0 _p3).f)), (.int .i64 ((bpT ta _p0 _p3).l))] := _m_91
    refine WL_nil ?_
    refine thn_nrm (_hK_83 _ _ ?_)
    clear _hK_83
    refine W_seq fun _K_92 _hK_92 => ?_
    refine W_region ?_
    refine WL_step rfl rfl (r_move rfl) ?_
    refine WL_step rfl rfl (r_move rfl) ?_
    refine WL_step rfl rfl (r_move rfl) ?_
    refine WL_step rfl rfl (r_move rfl) ?_
    refine WL_s rfl rfl ?_
    have _f_93 := (((_f_84.ch _cw_88 (lwr3 (by omega) _ll_p0 (by omega) _ll_p3 (by omega))).ch0 _cw_89).ch _cw_90 (tfr1 (by omega)))
    refine (s_cut (ys := tb.flat) ta.flat.length ((((l.length : Nat) : Int) - 1).toNat) _f_93 Token.len el28 sz55 rfl ⟨_, _, rfl, by omega⟩ ⟨_, _, rfl, by omega⟩ (by omega) (by omega) (cut_b hla (by omega) (by omega)) fun _v74 _q74 _bb74 _ln74 => ?_)
    obtain ⟨_A74, _C74, _e74⟩ := _q74.val
    subst _e74
    have _l74 := _q74.len
    refine WL_s rfl rfl ?_
    have _f_94 := ((_m69.ch0 _cw_89).ch _cw_90 (ne1 (by omega)))
    have _f_95 := ((_qz69_0.ch0 _cw_89).ch _cw_90 (fun g hg hm => by have _h0 := mSg.1 hm; have _h2 := _loz69_0 _ hg; have _h3 := hiz69_0 _ hg; omega))
    have _f_96 := ((_qz69_3.ch0 _cw_89).ch _cw_90 (fun g hg hm => by have _h0 := mSg.1 hm; have _h2 := _loz69_3 _ hg; have _h3 := hiz69_3 _ hg; omega))
    refine Step.call (r_call (xs := [.tmp 70, .tmp 74]) fk29 rfl) (ih _f_94 (by omega) _f_95 _nbz69_0 (Lo.down _loz69_0 (by omega)) _f_96 _nbz69_3 (Lo.down _loz69_3 (by omega)) _djz69_0z69_3 _q74 tb ob rfl (by omega) ⟨by omega, by omega⟩ (L_p := L_p) (by omega)) fun _v75 _w_97 _q75 => ?_
    obtain ⟨_z75_0, _z75_3, rfl, _m75, _qz75_0, _inz75_0, _nbz75_0, _qz75_3, _inz75_3, _nbz75_3, _djz75_0z75_3, _cw_97⟩ := _q75
    have _cw_97z := _cw_97.size
    have E := E.step _cw_97 (fun i hm => by rcases List.mem_cons.1 hm with _h0 | hm; (right; exact _h0 ▸ List.mem_cons_self ..); (rcases List.mem_append.1 hm with hm | hm; (exact (iQ69_0 _ hm)); (exact (iQ69_3 _ hm))))
    obtain ⟨Az75_0, Cz75_0, ez75_0⟩ := _qz75_0.val
    subst ez75_0
    have lz75_0 := _qz75_0.len
    have hiz75_0 := _qz75_0.lt
    have _loz75_0 : Lo L_p (.slice Az75_0 ((bpT tb ((bpT ta _p0 _p3).L) ((bpT ta _p0 _p3).F)).L).length Cz75_0) := loOld _inz75_0 _nbz75_0 (by omega) (all2 _loz69_0 _loz69_3)
    obtain ⟨Az75_3, Cz75_3, ez75_3⟩ := _qz75_3.val
    subst ez75_3
    have lz75_3 := _qz75_3.len
    have hiz75_3 := _qz75_3.lt
    have _loz75_3 : Lo L_p (.slice Az75_3 ((bpT tb ((bpT ta _p0 _p3).L) ((bpT ta _p0 _p3).F)).F).length Cz75_3) := loOld _inz75_3 _nbz75_3 (by omega) (all2 _loz69_0 _loz69_3)
    have nQ75_0_4 := nbOld _inz75_0 _nbz75_0 (show _b4 < _ by omega) (nin2 nQ69_0_4 nQ69_3_4)
    have nQ75_0_6 := nbOld _inz75_0 _nbz75_0 (show _b6 < _ by omega) (nin2 nQ69_0_6 nQ69_3_6)
    have nQ75_0_9 := nbOld _inz75_0 _nbz75_0 (show _b9 < _ by omega) (nin2 (no_in _loz69_0 hiz69_0 (by omega)) (no_in _loz69_3 hiz69_3 (by omega)))
    have iQ75_0 := inOldE E _inz75_0 _nbz75_0 (by omega) (all2 (fun g hm => (iQ69_0 _ hm)) (fun g hm => (iQ69_3 _ hm)))
    have nQ75_3_4 := nbOld _inz75_3 _nbz75_3 (show _b4 < _ by omega) (nin2 nQ69_0_4 nQ69_3_4)
    have nQ75_3_6 := nbOld _inz75_3 _nbz75_3 (show _b6 < _ by omega) (nin2 nQ69_0_6 nQ69_3_6)
    have nQ75_3_9 := nbOld _inz75_3 _nbz75_3 (show _b9 < _ by omega) (nin2 (no_in _loz69_0 hiz69_0 (by omega)) (no_in _loz69_3 hiz69_3 (by omega)))
    have iQ75_3 := inOldE E _inz75_3 _nbz75_3 (by omega) (all2 (fun g hm => (iQ69_0 _ hm)) (fun g hm => (iQ69_3 _ hm)))
    replace _m75 : Blk _w_97 b_p t_p [(.slice Az75_0 ((bpT tb ((bpT ta _p0 _p3).L) ((bpT ta _p0 _p3).F)).L).length Cz75_0), (.int .i64 _p1), (.int .i64 _p2), (.slice Az75_3 ((bpT tb ((bpT ta _p0 _p3).L) ((bpT ta _p0 _p3).F)).F).length Cz75_3), (.bool _p4)] := _m75
    refine WL_s rfl rfl ?_
    refine s_alloc zr57 fun _b10 _w_98 _m10 _cw_98 _e10 => ?_
    have _cw_98z := _cw_98.size
    have E := E.trans _cw_98.of_nil
    have _z10 := _m10.lt
    replace _m10 : Blk _w_98 _b10 57 [(.bool false), (.int .i64 0), (.int .i64 0)] := _m10
    refine WL_s rfl rfl ?_
    refine s_storeA (off := 0) 3 _m10 sz57 rfl (us := [(.bool ((bpT tb ((bpT ta _p0 _p3).L) ((bpT ta _p0 _p3).F)).n)), (.int .i64 ((bpT tb ((bpT ta _p0 _p3).L) ((bpT ta _p0 _p3).F)).f)), (.int .i64 ((bpT tb ((bpT ta _p0 _p3).L) ((bpT ta _p0 _p3).F)).l))]) rfl rfl rfl rfl fun _w_99 _m_100 _cw_99 => ?_
    have _cw_99z := _cw_99.size
    have E := E.step _cw_99 (oneL (by omega))
    replace _m_100 : Blk _w_99 _b10 57 [(.bool ((bpT tb ((bpT ta _p0 _p3).L) ((bpT ta _p0 _p3).F)).n)), (.int .i64 ((bpT tb ((bpT ta _p0 _p3).L) ((bpT ta _p0 _p3).F)).f)), (.int .i64 ((bpT tb ((bpT ta _p0 _p3).L) ((bpT ta _p0 _p3).F)).l))] := _m_100
    refine WL_nil ?_
    refine thn_nrm (_hK_92 _ _ ?_)
    clear _hK_92
    refine W_seq fun _K_101 _hK_101 => ?_
    refine W_region ?_
    refine WL_step rfl rfl (r_move rfl) ?_
    refine WL_step rfl rfl (r_fieldAddr fa57_2 rfl) ?_
    have _f_102 := (((_m_91.ch _cw_97 (nin3 (by omega) (no_hi hiz69_0 (by omega)) (no_hi hiz69_3 (by omega)))).ch0 _cw_98).ch _cw_99 (ne1 (by omega)))
    refine WL_step rfl rfl (r_loadAt _f_102.at_ agg3 rfl rfl) ?_
    refine WL_step rfl rfl (r_fieldAddr fa57_1 rfl) ?_
    refine WL_step rfl rfl (r_loadAt _m_100.at_ agg3 rfl rfl) ?_
    refine WL_s rfl rfl ?_
    have _f_103 := ((_m75.ch0 _cw_98).ch _cw_99 (ne1 (by omega)))
    have _f_104 := ((_qz75_0.ch0 _cw_98).ch _cw_99 (fun g hg hm => by have _h0 := mSg.1 hm; have _h2 := _loz75_0 _ hg; have _h3 := hiz75_0 _ hg; omega))
    have _f_105 := ((_qz75_3.ch0 _cw_98).ch _cw_99 (fun g hg hm => by have _h0 := mSg.1 hm; have _h2 := _loz75_3 _ hg; have _h3 := hiz75_3 _ hg; omega))
    refine Step.call (r_call (xs := [.tmp 76, .tmp 78, .tmp 80]) fk51 rfl) (c_spec_l10Link _f_103 (by omega) _f_104 _nbz75_0 (Lo.down _loz75_0 (by omega)) _f_105 _nbz75_3 (Lo.down _loz75_3 (by omega)) _djz75_0z75_3 _ _ (by omega) (L_p := L_p)) fun _v81 _w_106 _q81 => ?_
    obtain ⟨_z81_0, _z81_3, rfl, _m81, _qz81_0, _inz81_0, _nbz81_0, _qz81_3, _inz81_3, _nbz81_3, _djz81_0z81_3, _cw_106⟩ := _q81
    have _cw_106z := _cw_106.size
    have E := E.step _cw_106 (fun i hm => by rcases List.mem_cons.1 hm with _h0 | hm; (right; exact _h0 ▸ List.mem_cons_self ..); (rcases List.mem_append.1 hm with hm | hm; (exact (iQ75_0 _ hm)); (exact (iQ75_3 _ hm))))
    obtain ⟨Az81_0, Cz81_0, ez81_0⟩ := _qz81_0.val
    subst ez81_0
    have lz81_0 := _qz81_0.len
    have hiz81_0 := _qz81_0.lt
    have _loz81_0 : Lo L_p (.slice Az81_0 (((bpT tb ((bpT ta _p0 _p3).L) ((bpT ta _p0 _p3).F)).L)).length Cz81_0) := loOld _inz81_0 _nbz81_0 (by omega) (all2 _loz75_0 _loz75_3)
    obtain ⟨Az81_3, Cz81_3, ez81_3⟩ := _qz81_3.val
    subst ez81_3
    have lz81_3 := _qz81_3.len
    have hiz81_3 := _qz81_3.lt
    have _loz81_3 : Lo L_p (.slice Az81_3 (lkL ((bpT ta _p0 _p3).l) ((bpT tb ((bpT ta _p0 _p3).L) ((bpT ta _p0 _p3).F)).f) ((bpT tb ((bpT ta _p0 _p3).L) ((bpT ta _p0 _p3).F)).F)).length Cz81_3) := loOld _inz81_3 _nbz81_3 (by omega) (all2 _loz75_0 _loz75_3)
    have nQ81_0_4 := nbOld _inz81_0 _nbz81_0 (show _b4 < _ by omega) (nin2 nQ75_0_4 nQ75_3_4)
    have nQ81_0_6 := nbOld _inz81_0 _nbz81_0 (show _b6 < _ by omega) (nin2 nQ75_0_6 nQ75_3_6)
    have nQ81_0_9 := nbOld _inz81_0 _nbz81_0 (show _b9 < _ by omega) (nin2 nQ75_0_9 nQ75_3_9)
    have nQ81_0_10 := nbOld _inz81_0 _nbz81_0 (show _b10 < _ by omega) (nin2 (no_in _loz75_0 hiz75_0 (by omega)) (no_in _loz75_3 hiz75_3 (by omega)))
    have iQ81_0 := inOldE E _inz81_0 _nbz81_0 (by omega) (all2 (fun g hm => (iQ75_0 _ hm)) (fun g hm => (iQ75_3 _ hm)))
    have nQ81_3_4 := nbOld _inz81_3 _nbz81_3 (show _b4 < _ by omega) (nin2 nQ75_0_4 nQ75_3_4)
    have nQ81_3_6 := nbOld _inz81_3 _nbz81_3 (show _b6 < _ by omega) (nin2 nQ75_0_6 nQ75_3_6)
    have nQ81_3_9 := nbOld _inz81_3 _nbz81_3 (show _b9 < _ by omega) (nin2 nQ75_0_9 nQ75_3_9)
    have nQ81_3_10 := nbOld _inz81_3 _nbz81_3 (show _b10 < _ by omega) (nin2 (no_in _loz75_0 hiz75_0 (by omega)) (no_in _loz75_3 hiz75_3 (by omega)))
    have iQ81_3 := inOldE E _inz81_3 _nbz81_3 (by omega) (all2 (fun g hm => (iQ75_0 _ hm)) (fun g hm => (iQ75_3 _ hm)))
    replace _m81 : Blk _w_106 b_p t_p [(.slice Az81_0 (((bpT tb ((bpT ta _p0 _p3).L) ((bpT ta _p0 _p3).F)).L)).length Cz81_0), (.int .i64 _p1), (.int .i64 _p2), (.slice Az81_3 (lkL ((bpT ta _p0 _p3).l) ((bpT tb ((bpT ta _p0 _p3).L) ((bpT ta _p0 _p3).F)).f) ((bpT tb ((bpT ta _p0 _p3).L) ((bpT ta _p0 _p3).F)).F)).length Cz81_3), (.bool _p4)] := _m81
    refine WL_nil ?_
    refine thn_nrm (_hK_101 _ _ ?_)
    clear _hK_101
    refine W_seq fun _K_107 _hK_107 => ?_
    refine W_region ?_
    refine WL_step rfl rfl (r_fieldAddr fa57_0 rfl) ?_
    have _f_108 := (_f_102.ch _cw_106 (nin3 (by omega) nQ75_0_9 nQ75_3_9))
    refine WL_step rfl rfl (r_loadAt _f_108.at_ agg4 rfl rfl) ?_
    refine WL_step rfl rfl (r_move rfl) ?_
    refine WL_split (d := 84) rfl (fun _h84 => ?_) (fun _h84 => ?_)
    ·have _kb_109 := _h84
     refine WL_step rfl rfl (r_fieldAddr fa57_0 rfl) ?_
     have _f_110 := (_m_100.ch _cw_106 (nin3 (by omega) (no_hi hiz75_0 (by omega)) (no_hi hiz75_3 (by omega))))
     refine WL_step rfl rfl (r_loadAt _f_110.at_ agg4 rfl rfl) ?_
     refine WL_step rfl rfl (r_pickT rfl rfl) ?_
     refine WL_step rfl rfl (r_fieldAddr fa57_1 rfl) ?_
     refine WL_step rfl rfl (r_loadAt _f_108.at_ agg3 rfl rfl) ?_
     refine WL_step rfl rfl (r_fieldAddr fa57_2 rfl) ?_
     refine WL_step rfl rfl (r_loadAt _f_110.at_ agg3 rfl rfl) ?_
     refine WL_step rfl rfl (r_build (parts := [(0, .tmp 87), (1, .tmp 89), (2, .tmp 91)]) (cells := [(.bool ((bpT tb ((bpT ta _p0 _p3).L) ((bpT ta _p0 _p3).F)).n)), (.int .i64 ((bpT ta _p0 _p3).f)), (.int .i64 ((bpT tb ((bpT ta _p0 _p3).L) ((bpT ta _p0 _p3).F)).l))]) zr57 pl57 rfl rfl) ?_
     refine WL_s rfl rfl ?_
     refine s_alloc zr57 fun _b11 _w_111 _m11 _cw_111 _e11 => ?_
     have _cw_111z := _cw_111.size
     have E := E.trans _cw_111.of_nil
     have _z11 := _m11.lt
     replace _m11 : Blk _w_111 _b11 57 [(.bool false), (.int .i64 0), (.int .i64 0)] := _m11
     refine WL_s rfl rfl ?_
     refine s_storeA (off := 0) 3 _m11 sz57 rfl (us := [(.bool ((bpT tb ((bpT ta _p0 _p3).L) ((bpT ta _p0 _p3).F)).n)), (.int .i64 ((bpT ta _p0 _p3).f)), (.int .i64 ((bpT tb ((bpT ta _p0 _p3).L) ((bpT ta _p0 _p3).F)).l))]) rfl rfl rfl rfl fun _w_112 _m_113 _cw_112 => ?_
     have _cw_112z := _cw_112.size
     have E := E.step _cw_112 (oneL (by omega))
     replace _m_113 : Blk _w_112 _b11 57 [(.bool ((bpT tb ((bpT ta _p0 _p3).L) ((bpT ta _p0 _p3).F)).n)), (.int .i64 ((bpT ta _p0 _p3).f)), (.int .i64 ((bpT tb ((bpT ta _p0 _p3).L) ((bpT ta _p0 _p3).F)).l))] := _m_113
     refine WL_nil ?_
     refine thn_nrm (_hK_107 _ _ ?_)
     clear _hK_107
     refine W_seq fun _K_114 _hK_114 => ?_
     refine W_seq fun _K_115 _hK_115 => ?_
     refine W_region ?_
     refine WL_step rfl rfl (r_fieldAddr fa57_0 rfl) ?_
     have _f_116 := ((_f_108.ch0 _cw_111).ch _cw_112 (ne1 (by omega)))
     refine WL_step rfl rfl (r_loadAt _f_116.at_ agg4 rfl rfl) ?_
     refine WL_nil ?_
     refine thn_nrm (_hK_115 _ _ ?_)
     clear _hK_115
     refine W_condTk rfl _kb_109 ?_
     refine W_region ?_
     refine WL_step rfl rfl (r_fieldAddr fa57_1 rfl) ?_
     refine WL_step rfl rfl (r_loadAt _f_116.at_ agg3 rfl rfl) ?_
     refine WL_step rfl rfl (r_fieldAddr fa57_1 rfl) ?_
     have _f_117 := ((_f_110.ch0 _cw_111).ch _cw_112 (ne1 (by omega)))
     refine WL_step rfl rfl (r_loadAt _f_117.at_ agg3 rfl rfl) ?_
     refine WL_step rfl rfl (r_or rfl rfl) ?_
     refine WL_step rfl rfl (r_fieldAddr fa57_1 rfl) ?_
     refine WL_s rfl rfl ?_
     refine s_store1 (off := 1) _m_113 sz3 rfl rfl rfl rfl fun _w_118 _m_119 _cw_118 => ?_
     have _cw_118z := _cw_118.size
     have E := E.step _cw_118 (oneL (by omega))
     replace _m_119 : Blk _w_118 _b11 57 [(.bool ((bpT tb ((bpT ta _p0 _p3).L) ((bpT ta _p0 _p3).F)).n)), (.int .i64 (ior ((bpT ta _p0 _p3).f) ((bpT tb ((bpT ta _p0 _p3).L) ((bpT ta _p0 _p3).F)).f))), (.int .i64 ((bpT tb ((bpT ta _p0 _p3).L) ((bpT ta _p0 _p3).F)).l))] := _m_119
     refine WL_nil ?_
     refine thn_nrm (_hK_114 _ _ ?_)
     clear _hK_114
     refine W_seq fun _K_120 _hK_120 => ?_
     refine W_seq fun _K_121 _hK_121 => ?_
     refine W_region ?_
     refine WL_step rfl rfl (r_fieldAddr fa57_0 rfl) ?_
     have _f_122 := (_f_117.ch _cw_118 (ne1 (by omega)))
     refine WL_step rfl rfl (r_loadAt _f_122.at_ agg4 rfl rfl) ?_
     refine WL_nil ?_
     refine thn_nrm (_hK_121 _ _ ?_)
     clear _hK_121
     refine W_cond rfl (fun _h102 => ?_) (fun _h102 => ?_)
     ·have _kb_123 := _h102
      refine W_region ?_
      refine WL_step rfl rfl (r_fieldAddr fa57_2 rfl) ?_
      have _f_124 := (_f_116.ch _cw_118 (ne1 (by omega)))
      refine WL_step rfl rfl (r_loadAt _f_124.at_ agg3 rfl rfl) ?_
      refine WL_step rfl rfl (r_fieldAddr fa57_2 rfl) ?_
      refine WL_step rfl rfl (r_loadAt _f_122.at_ agg3 rfl rfl) ?_
      refine WL_step rfl rfl (r_or rfl rfl) ?_
      refine WL_step rfl rfl (r_fieldAddr fa57_2 rfl) ?_
      refine WL_s rfl rfl ?_
      refine s_store1 (off := 2) _m_119 sz3 rfl rfl rfl rfl fun _w_125 _m_126 _cw_125 => ?_
      have _cw_125z := _cw_125.size
      have E := E.step _cw_125 (oneL (by omega))
      replace _m_126 : Blk _w_125 _b11 57 [(.bool ((bpT tb ((bpT ta _p0 _p3).L) ((bpT ta _p0 _p3).F)).n)), (.int .i64 (ior ((bpT ta _p0 _p3).f) ((bpT tb ((bpT ta _p0 _p3).L) ((bpT ta _p0 _p3).F)).f))), (.int .i64 (ior ((bpT ta _p0 _p3).l) ((bpT tb ((bpT ta _p0 _p3).L) ((bpT ta _p0 _p3).F)).l)))] := _m_126
      refine WL_nil ?_
      refine thn_nrm (_hK_120 _ _ ?_)
      clear _hK_120
      refine W_seq fun _K_127 _hK_127 => ?_
      refine W_region ?_
      refine WL_step rfl rfl (r_loadAtA0 _m_126.at_ agg57 sz57 rfl) ?_
      refine WL_s rfl rfl ?_
      have _f_128 := ((((((((((((((_m4.ch0 _cw_6).ch _cw_7 (ne1 (by omega))).ch0 _cw_82).ch _cw_88 (nin3 (by omega) (no_hi _lt_p0 (by omega)) (no_hi _lt_p3 (by omega)))).ch0 _cw_89).ch _cw_90 (ne1 (by omega))).ch _cw_97 (nin3 (by omega) nQ69_0_4 nQ69_3_4)).ch0 _cw_98).ch _cw_99 (ne1 (by omega))).ch _cw_106 (nin3 (by omega) nQ75_0_4 nQ75_3_4)).ch0 _cw_111).ch _cw_112 (ne1 (by omega))).ch _cw_118 (ne1 (by omega))).ch _cw_125 (ne1 (by omega)))
      refine s_storeA (off := 0) 3 _f_128 sz57 rfl (us := [(.bool ((bpT tb ((bpT ta _p0 _p3).L) ((bpT ta _p0 _p3).F)).n)), (.int .i64 (ior ((bpT ta _p0 _p3).f) ((bpT tb ((bpT ta _p0 _p3).L) ((bpT ta _p0 _p3).F)).f))), (.int .i64 (ior ((bpT ta _p0 _p3).l) ((bpT tb ((bpT ta _p0 _p3).L) ((bpT ta _p0 _p3).F)).l)))]) rfl rfl rfl rfl fun _w_129 _m_130 _cw_129 => ?_
      have _cw_129z := _cw_129.size
      have E := E.step _cw_129 (oneL (by omega))
      replace _m_130 : Blk _w_129 _b4 57 [(.bool ((bpT tb ((bpT ta _p0 _p3).L) ((bpT ta _p0 _p3).F)).n)), (.int .i64 (ior ((bpT ta _p0 _p3).f) ((bpT tb ((bpT ta _p0 _p3).L) ((bpT ta _p0 _p3).F)).f))), (.int .i64 (ior ((bpT ta _p0 _p3).l) ((bpT tb ((bpT ta _p0 _p3).L) ((bpT ta _p0 _p3).F)).l)))] := _m_130
      refine WL_nil ?_
      refine thn_nrm (_hK_127 _ _ ?_)
      clear _hK_127
      refine W_ret (inB_ret (thn_ret ?_))
      clear _hK_9
      have _f_131 := (((((_m81.ch0 _cw_111).ch _cw_112 (ne1 (by omega))).ch _cw_118 (ne1 (by omega))).ch _cw_125 (ne1 (by omega))).ch _cw_129 (ne1 (by omega)))
      have _f_132 := (((((_qz81_0.ch0 _cw_111).ch _cw_112 (fun g hg hm => by have _h0 := mSg.1 hm; have _h2 := _loz81_0 _ hg; have _h3 := hiz81_0 _ hg; omega)).ch _cw_118 (fun g hg hm => by have _h0 := mSg.1 hm; have _h2 := _loz81_0 _ hg; have _h3 := hiz81_0 _ hg; omega)).ch _cw_125 (fun g hg hm => by have _h0 := mSg.1 hm; have _h2 := _loz81_0 _ hg; have _h3 := hiz81_0 _ hg; omega)).ch _cw_129 (fun g hg hm => by have _h0 := mSg.1 hm; exact nQ81_0_4 (by first | exact hg | exact _h0 ▸ hg)))
      have _o_133 : Ol ics 3 1 _w_129 (.slice Az81_0 (((bpT tb ((bpT ta _p0 _p3).L) ((bpT ta _p0 _p3).F)).L)).length Cz81_0) ((bpT t _p0 _p3).L) := by
        have hx := _f_132
        exact hx.eq (by rw [eb] <;> first | rfl | exact rbA _h84 | exact rbB _h84 | exact rbC _h84 | exact rbD _h84 | exact rbE _h84 | (rw [_h84]; simp; done) | exact rbA _h102 | exact rbB _h102 | exact rbC _h102 | exact rbD _h102 | exact rbE _h102 | (rw [_h102]; simp; done) | (rw [hte]; done))
      have _f_134 := (((((_qz81_3.ch0 _cw_111).ch _cw_112 (fun g hg hm => by have _h0 := mSg.1 hm; have _h2 := _loz81_3 _ hg; have _h3 := hiz81_3 _ hg; omega)).ch _cw_118 (fun g hg hm => by have _h0 := mSg.1 hm; have _h2 := _loz81_3 _ hg; have _h3 := hiz81_3 _ hg; omega)).ch _cw_125 (fun g hg hm => by have _h0 := mSg.1 hm; have _h2 := _loz81_3 _ hg; have _h3 := hiz81_3 _ hg; omega)).ch _cw_129 (fun g hg hm => by have _h0 := mSg.1 hm; exact nQ81_3_4 (by first | exact hg | exact _h0 ▸ hg)))
      have _o_135 : Ol ics 3 1 _w_129 (.slice Az81_3 (lkL ((bpT ta _p0 _p3).l) ((bpT tb ((bpT ta _p0 _p3).L) ((bpT ta _p0 _p3).F)).f) ((bpT tb ((bpT ta _p0 _p3).L) ((bpT ta _p0 _p3).F)).F)).length Cz81_3) ((bpT t _p0 _p3).F) := by
        have hx := _f_134
        exact hx.eq (by rw [eb] <;> first | rfl | exact rbA _h84 | exact rbB _h84 | exact rbC _h84 | exact rbD _h84 | exact rbE _h84 | (rw [_h84]; simp; done) | exact rbA _h102 | exact rbB _h102 | exact rbC _h102 | exact rbD _h102 | exact rbE _h102 | (rw [_h102]; simp; done) | (rw [hte]; done))
      have _m_136 : Blk _w_129 b_p t_p [(.slice Az81_0 (((bpT tb ((bpT ta _p0 _p3).L) ((bpT ta _p0 _p3).F)).L)).length Cz81_0), .int .i64 _p1, .int .i64 _p2, (.slice Az81_3 (lkL ((bpT ta _p0 _p3).l) ((bpT tb ((bpT ta _p0 _p3).L) ((bpT ta _p0 _p3).F)).f) ((bpT tb ((bpT ta _p0 _p3).L) ((bpT ta _p0 _p3).F)).F)).length Cz81_3), .bool _p4] := by
        have hx := _f_131
        exact hx
      exact ret_intro [_] (resOf_loadA _m_130 rfl agg57 sz57 trivial) ⟨(.slice Az81_0 (((bpT tb ((bpT ta _p0 _p3).L) ((bpT ta _p0 _p3).F)).L)).length Cz81_0), (.slice Az81_3 (lkL ((bpT ta _p0 _p3).l) ((bpT tb ((bpT ta _p0 _p3).L) ((bpT ta _p0 _p3).F)).f) ((bpT tb ((bpT ta _p0 _p3).L) ((bpT ta _p0 _p3).F)).F)).length Cz81_3), (((congrArg (fun zq => (Value.agg #[.bool zq, .int .i64 (ior ((bpT ta _p0 _p3).f) ((bpT tb ((bpT ta _p0 _p3).L) ((bpT ta _p0 _p3).F)).f)), .int .i64 (ior ((bpT ta _p0 _p3).l) ((bpT tb ((bpT ta _p0 _p3).L) ((bpT ta _p0 _p3).F)).l))])) (by rw [eb] <;> first | rfl | exact rbA _h84 | exact rbB _h84 | exact rbC _h84 | exact rbD _h84 | exact rbE _h84 | (rw [_h84]; simp; done) | exact rbA _h102 | exact rbB _h102 | exact rbC _h102 | exact rbD _h102 | exact rbE _h102 | (rw [_h102]; simp; done) | (rw [hte]; done))).trans (congrArg (fun zq => (Value.agg #[.bool ((bpT t _p0 _p3).n), .int .i64 zq, .int .i64 (ior ((bpT ta _p0 _p3).l) ((bpT tb ((bpT ta _p0 _p3).L) ((bpT ta _p0 _p3).F)).l))])) (by rw [eb] <;> first | rfl | exact rbA _h84 | exact rbB _h84 | exact rbC _h84 | exact rbD _h84 | exact rbE _h84 | (rw [_h84]; simp; done) | exact rbA _h102 | exact rbB _h102 | exact rbC _h102 | exact rbD _h102 | exact rbE _h102 | (rw [_h102]; simp; done) | (rw [hte]; done)))).trans (congrArg (fun zq => (Value.agg #[.bool ((bpT t _p0 _p3).n), .int .i64 ((bpT t _p0 _p3).f), .int .i64 zq])) (by rw [eb] <;> first | rfl | exact rbA _h84 | exact rbB _h84 | exact rbC _h84 | exact rbD _h84 | exact rbE _h84 | (rw [_h84]; simp; done) | exact rbA _h102 | exact rbB _h102 | exact rbC _h102 | exact rbD _h102 | exact rbE _h102 | (rw [_h102]; simp; done) | (rw [hte]; done)))), _m_136, _o_133, iQ81_0, _nbz81_0, _o_135, iQ81_3, _nbz81_3, _djz81_0z81_3, E⟩
     ·have _kb_123 := _h102
      refine W_skip ?_
      refine thn_nrm (_hK_120 _ _ ?_)
      clear _hK_120
      refine W_seq fun _K_137 _hK_137 => ?_
      refine W_region ?_
      refine WL_step rfl rfl (r_loadAtA0 _m_119.at_ agg57 sz57 rfl) ?_
      refine WL_s rfl rfl ?_
      have _f_138 := (((((((((((((_m4.ch0 _cw_6).ch _cw_7 (ne1 (by omega))).ch0 _cw_82).ch _cw_88 (nin3 (by omega) (no_hi _lt_p0 (by omega)) (no_hi _lt_p3 (by omega)))).ch0 _cw_89).ch _cw_90 (ne1 (by omega))).ch _cw_97 (nin3 (by omega) nQ69_0_4 nQ69_3_4)).ch0 _cw_98).ch _cw_99 (ne1 (by omega))).ch _cw_106 (nin3 (by omega) nQ75_0_4 nQ75_3_4)).ch0 _cw_111).ch _cw_112 (ne1 (by omega))).ch _cw_118 (ne1 (by omega)))
      refine s_storeA (off := 0) 3 _f_138 sz57 rfl (us := [(.bool ((bpT tb ((bpT ta _p0 _p3).L) ((bpT ta _p0 _p3).F)).n)), (.int .i64 (ior ((bpT ta _p0 _p3).f) ((bpT tb ((bpT ta _p0 _p3).L) ((bpT ta _p0 _p3).F)).f))), (.int .i64 ((bpT tb ((bpT ta _p0 _p3).L) ((bpT ta _p0 _p3).F)).l))]) rfl rfl rfl rfl fun _w_139 _m_140 _cw_139 => ?_
      have _cw_139z := _cw_139.size
      have E := E.step _cw_139 (oneL (by omega))
      replace _m_140 : Blk _w_139 _b4 57 [(.bool ((bpT tb ((bpT ta _p0 _p3).L) ((bpT ta _p0 _p3).F)).n)), (.int .i64 (ior ((bpT ta _p0 _p3).f) ((bpT tb ((bpT ta _p0 _p3).L) ((bpT ta _p0 _p3).F)).f))), (.int .i64 ((bpT tb ((bpT ta _p0 _p3).L) ((bpT ta _p0 _p3).F)).l))] := _m_140
      refine WL_nil ?_
      refine thn_nrm (_hK_137 _ _ ?_)
      clear _hK_137
      refine W_ret (inB_ret (thn_ret ?_))
      clear _hK_9
      have _f_141 := ((((_m81.ch0 _cw_111).ch _cw_112 (ne1 (by omega))).ch _cw_118 (ne1 (by omega))).ch _cw_139 (ne1 (by omega)))
      have _f_142 := ((((_qz81_0.ch0 _cw_111).ch _cw_112 (fun g hg hm => by have _h0 := mSg.1 hm; have _h2 := _loz81_0 _ hg; have _h3 := hiz81_0 _ hg; omega)).ch _cw_118 (fun g hg hm => by have _h0 := mSg.1 hm; have _h2 := _loz81_0 _ hg; have _h3 := hiz81_0 _ hg; omega)).ch _cw_139 (fun g hg hm => by have _h0 := mSg.1 hm; exact nQ81_0_4 (by first | exact hg | exact _h0 ▸ hg)))
      have _o_143 : Ol ics 3 1 _w_139 (.slice Az81_0 (((bpT tb ((bpT ta _p0 _p3).L) ((bpT ta _p0 _p3).F)).L)).length Cz81_0) ((bpT t _p0 _p3).L) := by
        have hx := _f_142
        exact hx.eq (by rw [eb] <;> first | rfl | exact rbA _h84 | exact rbB _h84 | exact rbC _h84 | exact rbD _h84 | exact rbE _h84 | (rw [_h84]; simp; done) | exact rbA _h102 | exact rbB _h102 | exact rbC _h102 | exact rbD _h102 | exact rbE _h102 | (rw [_h102]; simp; done) | (rw [hte]; done))
      have _f_144 := ((((_qz81_3.ch0 _cw_111).ch _cw_112 (fun g hg hm => by have _h0 := mSg.1 hm; have _h2 := _loz81_3 _ hg; have _h3 := hiz81_3 _ hg; omega)).ch _cw_118 (fun g hg hm => by have _h0 := mSg.1 hm; have _h2 := _loz81_3 _ hg; have _h3 := hiz81_3 _ hg; omega)).ch _cw_139 (fun g hg hm => by have _h0 := mSg.1 hm; exact nQ81_3_4 (by first | exact hg | exact _h0 ▸ hg)))
      have _o_145 : Ol ics 3 1 _w_139 (.slice Az81_3 (lkL ((bpT ta _p0 _p3).l) ((bpT tb ((bpT ta _p0 _p3).L) ((bpT ta _p0 _p3).F)).f) ((bpT tb ((bpT ta _p0 _p3).L) ((bpT ta _p0 _p3).F)).F)).length Cz81_3) ((bpT t _p0 _p3).F) := by
        have hx := _f_144
        exact hx.eq (by rw [eb] <;> first | rfl | exact rbA _h84 | exact rbB _h84 | exact rbC _h84 | exact rbD _h84 | exact rbE _h84 | (rw [_h84]; simp; done) | exact rbA _h102 | exact rbB _h102 | exact rbC _h102 | exact rbD _h102 | exact rbE _h102 | (rw [_h102]; simp; done) | (rw [hte]; done))
      have _m_146 : Blk _w_139 b_p t_p [(.slice Az81_0 (((bpT tb ((bpT ta _p0 _p3).L) ((bpT ta _p0 _p3).F)).L)).length Cz81_0), .int .i64 _p1, .int .i64 _p2, (.slice Az81_3 (lkL ((bpT ta _p0 _p3).l) ((bpT tb ((bpT ta _p0 _p3).L) ((bpT ta _p0 _p3).F)).f) ((bpT tb ((bpT ta _p0 _p3).L) ((bpT ta _p0 _p3).F)).F)).length Cz81_3), .bool _p4] := by
        have hx := _f_141
        exact hx
      exact ret_intro [_] (resOf_loadA _m_140 rfl agg57 sz57 trivial) ⟨(.slice Az81_0 (((bpT tb ((bpT ta _p0 _p3).L) ((bpT ta _p0 _p3).F)).L)).length Cz81_0), (.slice Az81_3 (lkL ((bpT ta _p0 _p3).l) ((bpT tb ((bpT ta _p0 _p3).L) ((bpT ta _p0 _p3).F)).f) ((bpT tb ((bpT ta _p0 _p3).L) ((bpT ta _p0 _p3).F)).F)).length Cz81_3), (((congrArg (fun zq => (Value.agg #[.bool zq, .int .i64 (ior ((bpT ta _p0 _p3).f) ((bpT tb ((bpT ta _p0 _p3).L) ((bpT ta _p0 _p3).F)).f)), .int .i64 ((bpT tb ((bpT ta _p0 _p3).L) ((bpT ta _p0 _p3).F)).l)])) (by rw [eb] <;> first | rfl | exact rbA _h84 | exact rbB _h84 | exact rbC _h84 | exact rbD _h84 | exact rbE _h84 | (rw [_h84]; simp; done) | exact rbA _h102 | exact rbB _h102 | exact rbC _h102 | exact rbD _h102 | exact rbE _h102 | (rw [_h102]; simp; done) | (rw [hte]; done))).trans (congrArg (fun zq => (Value.agg #[.bool ((bpT t _p0 _p3).n), .int .i64 zq, .int .i64 ((bpT tb ((bpT ta _p0 _p3).L) ((bpT ta _p0 _p3).F)).l)])) (by rw [eb] <;> first | rfl | exact rbA _h84 | exact rbB _h84 | exact rbC _h84 | exact rbD _h84 | exact rbE _h84 | (rw [_h84]; simp; done) | exact rbA _h102 | exact rbB _h102 | exact rbC _h102 | exact rbD _h102 | exact rbE _h102 | (rw [_h102]; simp; done) | (rw [hte]; done)))).trans (congrArg (fun zq => (Value.agg #[.bool ((bpT t _p0 _p3).n), .int .i64 ((bpT t _p0 _p3).f), .int .i64 zq])) (by rw [eb] <;> first | rfl | exact rbA _h84 | exact rbB _h84 | exact rbC _h84 | exact rbD _h84 | exact rbE _h84 | (rw [_h84]; simp; done) | exact rbA _h102 | exact rbB _h102 | exact rbC _h102 | exact rbD _h102 | exact rbE _h102 | (rw [_h102]; simp; done) | (rw [hte]; done)))), _m_146, _o_143, iQ81_0, _nbz81_0, _o_145, iQ81_3, _nbz81_3, _djz81_0z81_3, E⟩
    ·have _kb_109 := _h84
     refine WL_skip rfl rfl ?_
     refine WL_skip rfl rfl ?_
     refine WL_step rfl rfl (r_pickF rfl rfl) ?_
     refine WL_step rfl rfl (r_fieldAddr fa57_1 rfl) ?_
     refine WL_step rfl rfl (r_loadAt _f_108.at_ agg3 rfl rfl) ?_
     refine WL_step rfl rfl (r_fieldAddr fa57_2 rfl) ?_
     have _f_147 := (_m_100.ch _cw_106 (nin3 (by omega) (no_hi hiz75_0 (by omega)) (no_hi hiz75_3 (by omega))))
     refine WL_step rfl rfl (r_loadAt _f_147.at_ agg3 rfl rfl) ?_
     refine WL_step rfl rfl (r_build (parts := [(0, .tmp 87), (1, .tmp 89), (2, .tmp 91)]) (cells := [(.bool false), (.int .i64 ((bpT ta _p0 _p3).f)), (.int .i64 ((bpT tb ((bpT ta _p0 _p3).L) ((bpT ta _p0 _p3).F)).l))]) zr57 pl57 rfl rfl) ?_
     refine WL_s rfl rfl ?_
     refine s_alloc zr57 fun _b11 _w_148 _m11 _cw_148 _e11 => ?_
     have _cw_148z := _cw_148.size
     have E := E.trans _cw_148.of_nil
     have _z11 := _m11.lt
     replace _m11 : Blk _w_148 _b11 57 [(.bool false), (.int .i64 0), (.int .i64 0)] := _m11
     refine WL_s rfl rfl ?_
     refine s_storeA (off := 0) 3 _m11 sz57 rfl (us := [(.bool false), (.int .i64 ((bpT ta _p0 _p3).f)), (.int .i64 ((bpT tb ((bpT ta _p0 _p3).L) ((bpT ta _p0 _p3).F)).l))]) rfl rfl rfl rfl fun _w_149 _m_150 _cw_149 => ?_
     have _cw_149z := _cw_149.size
     have E := E.step _cw_149 (oneL (by omega))
     replace _m_150 : Blk _w_149 _b11 57 [(.bool false), (.int .i64 ((bpT ta _p0 _p3).f)), (.int .i64 ((bpT tb ((bpT ta _p0 _p3).L) ((bpT ta _p0 _p3).F)).l))] := _m_150
     refine WL_nil ?_
     refine thn_nrm (_hK_107 _ _ ?_)
     clear _hK_107
     refine W_seq fun _K_151 _hK_151 => ?_
     refine W_seq fun _K_152 _hK_152 => ?_
     refine W_region ?_
     refine WL_step rfl rfl (r_fieldAddr fa57_0 rfl) ?_
     have _f_153 := ((_f_108.ch0 _cw_148).ch _cw_149 (ne1 (by omega)))
     refine WL_step rfl rfl (r_loadAt _f_153.at_ agg4 rfl rfl) ?_
     refine WL_nil ?_
     refine thn_nrm (_hK_152 _ _ ?_)
     clear _hK_152
     refine W_condFk rfl _kb_109 ?_
     refine W_skip ?_
     refine thn_nrm (_hK_151 _ _ ?_)
     clear _hK_151
     refine W_seq fun _K_154 _hK_154 => ?_
     refine W_seq fun _K_155 _hK_155 => ?_
     refine W_region ?_
     refine WL_step rfl rfl (r_fieldAddr fa57_0 rfl) ?_
     have _f_156 := ((_f_147.ch0 _cw_148).ch _cw_149 (ne1 (by omega)))
     refine WL_step rfl rfl (r_loadAt _f_156.at_ agg4 rfl rfl) ?_
     refine WL_nil ?_
     refine thn_nrm (_hK_155 _ _ ?_)
     clear _hK_155
     refine W_cond rfl (fun _h102 => ?_) (fun _h102 => ?_)
     ·have _kb_157 := _h102
      refine W_region ?_
      refine WL_step rfl rfl (r_fieldAddr fa57_2 rfl) ?_
      refine WL_step rfl rfl (r_loadAt _f_153.at_ agg3 rfl rfl) ?_
      refine WL_step rfl rfl (r_fieldAddr fa57_2 rfl) ?_
      refine WL_step rfl rfl (r_loadAt _f_156.at_ agg3 rfl rfl) ?_
      refine WL_step rfl rfl (r_or rfl rfl) ?_
      refine WL_step rfl rfl (r_fieldAddr fa57_2 rfl) ?_
      refine WL_s rfl rfl ?_
      refine s_store1 (off := 2) _m_150 sz3 rfl rfl rfl rfl fun _w_158 _m_159 _cw_158 => ?_
      have _cw_158z := _cw_158.size
      have E := E.step _cw_158 (oneL (by omega))
      replace _m_159 : Blk _w_158 _b11 57 [(.bool false), (.int .i64 ((bpT ta _p0 _p3).f)), (.int .i64 (ior ((bpT ta _p0 _p3).l) ((bpT tb ((bpT ta _p0 _p3).L) ((bpT ta _p0 _p3).F)).l)))] := _m_159
      refine WL_nil ?_
      refine thn_nrm (_hK_154 _ _ ?_)
      clear _hK_154
      refine W_seq fun _K_160 _hK_160 => ?_
      refine W_region ?_
      refine WL_step rfl rfl (r_loadAtA0 _m_159.at_ agg57 sz57 rfl) ?_
      refine WL_s rfl rfl ?_
      have _f_161 := (((((((((((((_m4.ch0 _cw_6).ch _cw_7 (ne1 (by omega))).ch0 _cw_82).ch _cw_88 (nin3 (by omega) (no_hi _lt_p0 (by omega)) (no_hi _lt_p3 (by omega)))).ch0 _cw_89).ch _cw_90 (ne1 (by omega))).ch _cw_97 (nin3 (by omega) nQ69_0_4 nQ69_3_4)).ch0 _cw_98).ch _cw_99 (ne1 (by omega))).ch _cw_106 (nin3 (by omega) nQ75_0_4 nQ75_3_4)).ch0 _cw_148).ch _cw_149 (ne1 (by omega))).ch _cw_158 (ne1 (by omega)))
      refine s_storeA (off := 0) 3 _f_161 sz57 rfl (us := [(.bool false), (.int .i64 ((bpT ta _p0 _p3).f)), (.int .i64 (ior ((bpT ta _p0 _p3).l) ((bpT tb ((bpT ta _p0 _p3).L) ((bpT ta _p0 _p3).F)).l)))]) rfl rfl rfl rfl fun _w_162 _m_163 _cw_162 => ?_
      have _cw_162z := _cw_162.size
      have E := E.step _cw_162 (oneL (by omega))
      replace _m_163 : Blk _w_162 _b4 57 [(.bool false), (.int .i64 ((bpT ta _p0 _p3).f)), (.int .i64 (ior ((bpT ta _p0 _p3).l) ((bpT tb ((bpT ta _p0 _p3).L) ((bpT ta _p0 _p3).F)).l)))] := _m_163
      refine WL_nil ?_
      refine thn_nrm (_hK_160 _ _ ?_)
      clear _hK_160
      refine W_ret (inB_ret (thn_ret ?_))
      clear _hK_9
      have _f_164 := ((((_m81.ch0 _cw_148).ch _cw_149 (ne1 (by omega))).ch _cw_158 (ne1 (by omega))).ch _cw_162 (ne1 (by omega)))
      have _f_165 := ((((_qz81_0.ch0 _cw_148).ch _cw_149 (fun g hg hm => by have _h0 := mSg.1 hm; have _h2 := _loz81_0 _ hg; have _h3 := hiz81_0 _ hg; omega)).ch _cw_158 (fun g hg hm => by have _h0 := mSg.1 hm; have _h2 := _loz81_0 _ hg; have _h3 := hiz81_0 _ hg; omega)).ch _cw_162 (fun g hg hm => by have _h0 := mSg.1 hm; exact nQ81_0_4 (by first | exact hg | exact _h0 ▸ hg)))
      have _o_166 : Ol ics 3 1 _w_162 (.slice Az81_0 (((bpT tb ((bpT ta _p0 _p3).L) ((bpT ta _p0 _p3).F)).L)).length Cz81_0) ((bpT t _p0 _p3).L) := by
        have hx := _f_165
        exact hx.eq (by rw [eb] <;> first | rfl | exact rbA _h84 | exact rbB _h84 | exact rbC _h84 | exact rbD _h84 | exact rbE _h84 | (rw [_h84]; simp; done) | exact rbA _h102 | exact rbB _h102 | exact rbC _h102 | exact rbD _h102 | exact rbE _h102 | (rw [_h102]; simp; done) | (rw [hte]; done))
      have _f_167 := ((((_qz81_3.ch0 _cw_148).ch _cw_149 (fun g hg hm => by have _h0 := mSg.1 hm; have _h2 := _loz81_3 _ hg; have _h3 := hiz81_3 _ hg; omega)).ch _cw_158 (fun g hg hm => by have _h0 := mSg.1 hm; have _h2 := _loz81_3 _ hg; have _h3 := hiz81_3 _ hg; omega)).ch _cw_162 (fun g hg hm => by have _h0 := mSg.1 hm; exact nQ81_3_4 (by first | exact hg | exact _h0 ▸ hg)))
      have _o_168 : Ol ics 3 1 _w_162 (.slice Az81_3 (lkL ((bpT ta _p0 _p3).l) ((bpT tb ((bpT ta _p0 _p3).L) ((bpT ta _p0 _p3).F)).f) ((bpT tb ((bpT ta _p0 _p3).L) ((bpT ta _p0 _p3).F)).F)).length Cz81_3) ((bpT t _p0 _p3).F) := by
        have hx := _f_167
        exact hx.eq (by rw [eb] <;> first | rfl | exact rbA _h84 | exact rbB _h84 | exact rbC _h84 | exact rbD _h84 | exact rbE _h84 | (rw [_h84]; simp; done) | exact rbA _h102 | exact rbB _h102 | exact rbC _h102 | exact rbD _h102 | exact rbE _h102 | (rw [_h102]; simp; done) | (rw [hte]; done))
      have _m_169 : Blk _w_162 b_p t_p [(.slice Az81_0 (((bpT tb ((bpT ta _p0 _p3).L) ((bpT ta _p0 _p3).F)).L)).length Cz81_0), .int .i64 _p1, .int .i64 _p2, (.slice Az81_3 (lkL ((bpT ta _p0 _p3).l) ((bpT tb ((bpT ta _p0 _p3).L) ((bpT ta _p0 _p3).F)).f) ((bpT tb ((bpT ta _p0 _p3).L) ((bpT ta _p0 _p3).F)).F)).length Cz81_3), .bool _p4] := by
        have hx := _f_164
        exact hx
      exact ret_intro [_] (resOf_loadA _m_163 rfl agg57 sz57 trivial) ⟨(.slice Az81_0 (((bpT tb ((bpT ta _p0 _p3).L) ((bpT ta _p0 _p3).F)).L)).length Cz81_0), (.slice Az81_3 (lkL ((bpT ta _p0 _p3).l) ((bpT tb ((bpT ta _p0 _p3).L) ((bpT ta _p0 _p3).F)).f) ((bpT tb ((bpT ta _p0 _p3).L) ((bpT ta _p0 _p3).F)).F)).length Cz81_3), (((congrArg (fun zq => (Value.agg #[.bool zq, .int .i64 ((bpT ta _p0 _p3).f), .int .i64 (ior ((bpT ta _p0 _p3).l) ((bpT tb ((bpT ta _p0 _p3).L) ((bpT ta _p0 _p3).F)).l))])) (by rw [eb] <;> first | rfl | exact rbA _h84 | exact rbB _h84 | exact rbC _h84 | exact rbD _h84 | exact rbE _h84 | (rw [_h84]; simp; done) | exact rbA _h102 | exact rbB _h102 | exact rbC _h102 | exact rbD _h102 | exact rbE _h102 | (rw [_h102]; simp; done) | (rw [hte]; done))).trans (congrArg (fun zq => (Value.agg #[.bool ((bpT t _p0 _p3).n), .int .i64 zq, .int .i64 (ior ((bpT ta _p0 _p3).l) ((bpT tb ((bpT ta _p0 _p3).L) ((bpT ta _p0 _p3).F)).l))])) (by rw [eb] <;> first | rfl | exact rbA _h84 | exact rbB _h84 | exact rbC _h84 | exact rbD _h84 | exact rbE _h84 | (rw [_h84]; simp; done) | exact rbA _h102 | exact rbB _h102 | exact rbC _h102 | exact rbD _h102 | exact rbE _h102 | (rw [_h102]; simp; done) | (rw [hte]; done)))).trans (congrArg (fun zq => (Value.agg #[.bool ((bpT t _p0 _p3).n), .int .i64 ((bpT t _p0 _p3).f), .int .i64 zq])) (by rw [eb] <;> first | rfl | exact rbA _h84 | exact rbB _h84 | exact rbC _h84 | exact rbD _h84 | exact rbE _h84 | (rw [_h84]; simp; done) | exact rbA _h102 | exact rbB _h102 | exact rbC _h102 | exact rbD _h102 | exact rbE _h102 | (rw [_h102]; simp; done) | (rw [hte]; done)))), _m_169, _o_166, iQ81_0, _nbz81_0, _o_168, iQ81_3, _nbz81_3, _djz81_0z81_3, E⟩
     ·have _kb_157 := _h102
      refine W_skip ?_
      refine thn_nrm (_hK_154 _ _ ?_)
      clear _hK_154
      refine W_seq fun _K_170 _hK_170 => ?_
      refine W_region ?_
      refine WL_step rfl rfl (r_loadAtA0 _m_150.at_ agg57 sz57 rfl) ?_
      refine WL_s rfl rfl ?_
      have _f_171 := ((((((((((((_m4.ch0 _cw_6).ch _cw_7 (ne1 (by omega))).ch0 _cw_82).ch _cw_88 (nin3 (by omega) (no_hi _lt_p0 (by omega)) (no_hi _lt_p3 (by omega)))).ch0 _cw_89).ch _cw_90 (ne1 (by omega))).ch _cw_97 (nin3 (by omega) nQ69_0_4 nQ69_3_4)).ch0 _cw_98).ch _cw_99 (ne1 (by omega))).ch _cw_106 (nin3 (by omega) nQ75_0_4 nQ75_3_4)).ch0 _cw_148).ch _cw_149 (ne1 (by omega)))
      refine s_storeA (off := 0) 3 _f_171 sz57 rfl (us := [(.bool false), (.int .i64 ((bpT ta _p0 _p3).f)), (.int .i64 ((bpT tb ((bpT ta _p0 _p3).L) ((bpT ta _p0 _p3).F)).l))]) rfl rfl rfl rfl fun _w_172 _m_173 _cw_172 => ?_
      have _cw_172z := _cw_172.size
      have E := E.step _cw_172 (oneL (by omega))
      replace _m_173 : Blk _w_172 _b4 57 [(.bool false), (.int .i64 ((bpT ta _p0 _p3).f)), (.int .i64 ((bpT tb ((bpT ta _p0 _p3).L) ((bpT ta _p0 _p3).F)).l))] := _m_173
      refine WL_nil ?_
      refine thn_nrm (_hK_170 _ _ ?_)
      clear _hK_170
      refine W_ret (inB_ret (thn_ret ?_))
      clear _hK_9
      have _f_174 := (((_m81.ch0 _cw_148).ch _cw_149 (ne1 (by omega))).ch _cw_172 (ne1 (by omega)))
      have _f_175 := (((_qz81_0.ch0 _cw_148).ch _cw_149 (fun g hg hm => by have _h0 := mSg.1 hm; have _h2 := _loz81_0 _ hg; have _h3 := hiz81_0 _ hg; omega)).ch _cw_172 (fun g hg hm => by have _h0 := mSg.1 hm; exact nQ81_0_4 (by first | exact hg | exact _h0 ▸ hg)))
      have _o_176 : Ol ics 3 1 _w_172 (.slice Az81_0 (((bpT tb ((bpT ta _p0 _p3).L) ((bpT ta _p0 _p3).F)).L)).length Cz81_0) ((bpT t _p0 _p3).L) := by
        have hx := _f_175
        exact hx.eq (by rw [eb] <;> first | rfl | exact rbA _h84 | exact rbB _h84 | exact rbC _h84 | exact rbD _h84 | exact rbE _h84 | (rw [_h84]; simp; done) | exact rbA _h102 | exact rbB _h102 | exact rbC _h102 | exact rbD _h102 | exact rbE _h102 | (rw [_h102]; simp; done) | (rw [hte]; done))
      have _f_177 := (((_qz81_3.ch0 _cw_148).ch _cw_149 (fun g hg hm => by have _h0 := mSg.1 hm; have _h2 := _loz81_3 _ hg; have _h3 := hiz81_3 _ hg; omega)).ch _cw_172 (fun g hg hm => by have _h0 := mSg.1 hm; exact nQ81_3_4 (by first | exact hg | exact _h0 ▸ hg)))
      have _o_178 : Ol ics 3 1 _w_172 (.slice Az81_3 (lkL ((bpT ta _p0 _p3).l) ((bpT tb ((bpT ta _p0 _p3).L) ((bpT ta _p0 _p3).F)).f) ((bpT tb ((bpT ta _p0 _p3).L) ((bpT ta _p0 _p3).F)).F)).length Cz81_3) ((bpT t _p0 _p3).F) := by
        have hx := _f_177
        exact hx.eq (by rw [eb] <;> first | rfl | exact rbA _h84 | exact rbB _h84 | exact rbC _h84 | exact rbD _h84 | exact rbE _h84 | (rw [_h84]; simp; done) | exact rbA _h102 | exact rbB _h102 | exact rbC _h102 | exact rbD _h102 | exact rbE _h102 | (rw [_h102]; simp; done) | (rw [hte]; done))
      have _m_179 : Blk _w_172 b_p t_p [(.slice Az81_0 (((bpT tb ((bpT ta _p0 _p3).L) ((bpT ta _p0 _p3).F)).L)).length Cz81_0), .int .i64 _p1, .int .i64 _p2, (.slice Az81_3 (lkL ((bpT ta _p0 _p3).l) ((bpT tb ((bpT ta _p0 _p3).L) ((bpT ta _p0 _p3).F)).f) ((bpT tb ((bpT ta _p0 _p3).L) ((bpT ta _p0 _p3).F)).F)).length Cz81_3), .bool _p4] := by
        have hx := _f_174
        exact hx
      exact ret_intro [_] (resOf_loadA _m_173 rfl agg57 sz57 trivial) ⟨(.slice Az81_0 (((bpT tb ((bpT ta _p0 _p3).L) ((bpT ta _p0 _p3).F)).L)).length Cz81_0), (.slice Az81_3 (lkL ((bpT ta _p0 _p3).l) ((bpT tb ((bpT ta _p0 _p3).L) ((bpT ta _p0 _p3).F)).f) ((bpT tb ((bpT ta _p0 _p3).L) ((bpT ta _p0 _p3).F)).F)).length Cz81_3), (((congrArg (fun zq => (Value.agg #[.bool zq, .int .i64 ((bpT ta _p0 _p3).f), .int .i64 ((bpT tb ((bpT ta _p0 _p3).L) ((bpT ta _p0 _p3).F)).l)])) (by rw [eb] <;> first | rfl | exact rbA _h84 | exact rbB _h84 | exact rbC _h84 | exact rbD _h84 | exact rbE _h84 | (rw [_h84]; simp; done) | exact rbA _h102 | exact rbB _h102 | exact rbC _h102 | exact rbD _h102 | exact rbE _h102 | (rw [_h102]; simp; done) | (rw [hte]; done))).trans (congrArg (fun zq => (Value.agg #[.bool ((bpT t _p0 _p3).n), .int .i64 zq, .int .i64 ((bpT tb ((bpT ta _p0 _p3).L) ((bpT ta _p0 _p3).F)).l)])) (by rw [eb] <;> first | rfl | exact rbA _h84 | exact rbB _h84 | exact rbC _h84 | exact rbD _h84 | exact rbE _h84 | (rw [_h84]; simp; done) | exact rbA _h102 | exact rbB _h102 | exact rbC _h102 | exact rbD _h102 | exact rbE _h102 | (rw [_h102]; simp; done) | (rw [hte]; done)))).trans (congrArg (fun zq => (Value.agg #[.bool ((bpT t _p0 _p3).n), .int .i64 ((bpT t _p0 _p3).f), .int .i64 zq])) (by rw [eb] <;> first | rfl | exact rbA _h84 | exact rbB _h84 | exact rbC _h84 | exact rbD _h84 | exact rbE _h84 | (rw [_h84]; simp; done) | exact rbA _h102 | exact rbB _h102 | exact rbC _h102 | exact rbD _h102 | exact rbE _h102 | (rw [_h102]; simp; done) | (rw [hte]; done)))), _m_179, _o_176, iQ81_0, _nbz81_0, _o_178, iQ81_3, _nbz81_3, _djz81_0z81_3, E⟩
   ·have _kb_79 := _h59
    have _h59 := bf_d _h59
    refine W_seq fun _K_180 _hK_180 => ?_
    refine W_region ?_
    refine WL_step rfl rfl (r_eql rfl rfl) ?_
    refine WL_step rfl rfl (r_assign rfl) ?_
    refine WL_nil ?_
    refine thn_nrm (_hK_180 _ _ ?_)
    clear _hK_180
    refine W_cond rfl (fun _h110 => ?_) (fun _h110 => ?_)
    ·have _kb_181 := _h110
     have _h110 := bt_d _h110
     obtain ⟨ta, tb, et, oa, ob, hla, hn2⟩ := hok.k2 (by omega) _ht hl
     have _hk0 : t.kids[0]? = some ta := by rw [et]; rfl
     have _hk1 : t.kids[1]? = some tb := by rw [et]; rfl
     have ga := ta.flat_len
     have gb := tb.flat_len
     have za := bpT_len ta _p0 _p3
     have zb := bpT_len tb (bpT ta _p0 _p3).L (bpT ta _p0 _p3).F
     have eb := bp5 (L := _p0) (F := _p3) hok (by omega) _hk0 _hk1
     refine W_seq fun _K_182 _hK_182 => ?_
     refine W_region ?_
     refine WL_step rfl rfl (r_move rfl) ?_
     refine WL_step rfl rfl (r_move rfl) ?_
     refine WL_s rfl rfl ?_
     have _f_183 := ((_f_5.ch0 _cw_6).ch _cw_7 (tfr1 (by omega)))
     refine (s_cut (ys := (ta.flat ++ tb.flat)) 0 ((((l.length : Nat) : Int) - 1).toNat) _f_183 Token.len el28 sz55 rfl rfl ⟨_, _, rfl, by omega⟩ (by omega) (by omega) (show l.take _ = _ from cut_ab hla (by omega)) fun _v114 _q114 _bb114 _ln114 => ?_)
     obtain ⟨_A114, _C114, _e114⟩ := _q114.val
     subst _e114
     have _l114 := _q114.len
     refine WL_s rfl rfl ?_
     refine Step.call (r_call (xs := [.tmp 114]) fk50 rfl) (c_spec_l8Start _q114 ta.flat tb ob rfl) fun _v115 _w_184 _q115 => ?_
     obtain ⟨rfl, _cw_184⟩ := _q115
     have _cw_184z := _cw_184.size
     have E := E.trans _cw_184.of_nil
     refine WL_step rfl rfl (r_assign rfl) ?_
     refine WL_nil ?_
     refine thn_nrm (_hK_182 _ _ ?_)
     clear _hK_182
     refine W_seq fun _K_185 _hK_185 => ?_
     refine W_region ?_
     refine WL_step rfl rfl (r_move rfl) ?_
     refine WL_step rfl rfl (r_move rfl) ?_
     refine WL_step rfl rfl (r_move rfl) ?_
     refine WL_s rfl rfl ?_
     have _f_186 := (_f_183.ch0 _cw_184)
     refine (s_cut (ys := ta.flat) 0 ta.flat.length _f_186 Token.len el28 sz55 rfl rfl ⟨_, _, rfl, by omega⟩ (by omega) (by omega) (show l.take _ = _ from cut_a hla (by omega)) fun _v119 _q119 _bb119 _ln119 => ?_)
     obtain ⟨_A119, _C119, _e119⟩ := _q119.val
     subst _e119
     have _l119 := _q119.len
     refine WL_s rfl rfl ?_
     have _f_187 := ((((m_p.ch0 _cw_2).ch0 _cw_6).ch _cw_7 (ne1 (by omega))).ch0 _cw_184)
     have _f_188 := ((((_h_p0.ch0 _cw_2).ch0 _cw_6).ch _cw_7 (fun g hg hm => by have _h0 := mSg.1 hm; have _h2 := _ll_p0 _ hg; have _h3 := _lt_p0 _ hg; omega)).ch0 _cw_184)
     have _f_189 := ((((_h_p3.ch0 _cw_2).ch0 _cw_6).ch _cw_7 (fun g hg hm => by have _h0 := mSg.1 hm; have _h2 := _ll_p3 _ hg; have _h3 := _lt_p3 _ hg; omega)).ch0 _cw_184)
     refine Step.call (r_call (xs := [.tmp 116, .tmp 119]) fk29 rfl) (ih _f_187 (by omega) _f_188 _nb_p0 (Lo.down _ll_p0 (by omega)) _f_189 _nb_p3 (Lo.down _ll_p3 (by omega)) _dj_p0_p3 _q119 ta oa rfl (by omega) ⟨by omega, by omega⟩ (L_p := L_p) (by omega)) fun _v120 _w_190 _q120 => ?_
     obtain ⟨_z120_0, _z120_3, rfl, _m120, _qz120_0, _inz120_0, _nbz120_0, _qz120_3, _inz120_3, _nbz120_3, _djz120_0z120_3, _cw_190⟩ := _q120
     have _cw_190z := _cw_190.size
     have E := E.step _cw_190 (fun i hm => by rcases List.mem_cons.1 hm with _h0 | hm; (right; exact _h0 ▸ List.mem_cons_self ..); (rcases List.mem_append.1 hm with hm | hm; (exact (.inr (mCo _ (mAL _ hm)))); (exact (.inr (mCo _ (mAR _ hm))))))
     obtain ⟨Az120_0, Cz120_0, ez120_0⟩ := _qz120_0.val
     subst ez120_0
     have lz120_0 := _qz120_0.len
     have hiz120_0 := _qz120_0.lt
     have _loz120_0 : Lo L_p (.slice Az120_0 ((bpT ta _p0 _p3).L).length Cz120_0) := loOld _inz120_0 _nbz120_0 (by omega) (all2 _ll_p0 _ll_p3)
     obtain ⟨Az120_3, Cz120_3, ez120_3⟩ := _qz120_3.val
     subst ez120_3
     have lz120_3 := _qz120_3.len
     have hiz120_3 := _qz120_3.lt
     have _loz120_3 : Lo L_p (.slice Az120_3 ((bpT ta _p0 _p3).F).length Cz120_3) := loOld _inz120_3 _nbz120_3 (by omega) (all2 _ll_p0 _ll_p3)
     have nQ120_0_4 := nbOld _inz120_0 _nbz120_0 (show _b4 < _ by omega) (nin2 (no_in _ll_p0 _lt_p0 (by omega)) (no_in _ll_p3 _lt_p3 (by omega)))
     have nQ120_0_6 := nbOld _inz120_0 _nbz120_0 (show _b6 < _ by omega) (nin2 (no_in _ll_p0 _lt_p0 (by omega)) (no_in _ll_p3 _lt_p3 (by omega)))
     have iQ120_0 := inOldE E _inz120_0 _nbz120_0 (by omega) (all2 (fun g hm => (.inr (mCo _ (mAL _ hm)))) (fun g hm => (.inr (mCo _ (mAR _ hm)))))
     have nQ120_3_4 := nbOld _inz120_3 _nbz120_3 (show _b4 < _ by omega) (nin2 (no_in _ll_p0 _lt_p0 (by omega)) (no_in _ll_p3 _lt_p3 (by omega)))
     have nQ120_3_6 := nbOld _inz120_3 _nbz120_3 (show _b6 < _ by omega) (nin2 (no_in _ll_p0 _lt_p0 (by omega)) (no_in _ll_p3 _lt_p3 (by omega)))
     have iQ120_3 := inOldE E _inz120_3 _nbz120_3 (by omega) (all2 (fun g hm => (.inr (mCo _ (mAL _ hm)))) (fun g hm => (.inr (mCo _ (mAR _ hm)))))
     replace _m120 : Blk _w_190 b_p t_p [(.slice Az120_0 ((bpT ta _p0 _p3).L).length Cz120_0), (.int .i64 _p1), (.int .i64 _p2), (.slice Az120_3 ((bpT ta _p0 _p3).F).length Cz120_3), (.bool _p4)] := _m120
     refine WL_s rfl rfl ?_
     refine s_alloc zr57 fun _b13 _w_191 _m13 _cw_191 _e13 => ?_
     have _cw_191z := _cw_191.size
     have E := E.trans _cw_191.of_nil
     have _z13 := _m13.lt
     replace _m13 : Blk _w_191 _b13 57 [(.bool false), (.int .i64 0), (.int .i64 0)] := _m13
     refine WL_s rfl rfl ?_
     refine s_storeA (off := 0) 3 _m13 sz57 rfl (us := [(.bool ((bpT ta _p0 _p3).n)), (.int .i64 ((bpT ta _p0 _p3).f)), (.int .i64 ((bpT ta _p0 _p3).l))]) rfl rfl rfl rfl fun _w_192 _m_193 _cw_192 => ?_
     have _cw_192z := _cw_192.size
     have E := E.step _cw_192 (oneL (by omega))
     replace _m_193 : Blk _w_192 _b13 57 [(.bool ((bpT ta _p0 _p3).n)), (.int .i64 ((bpT ta _p0 _p3).f)), (.int .i64 ((bpT ta _p0 _p3).l))] := _m_193
     refine WL_nil ?_
     refine thn_nrm (_hK_185 _ _ ?_)
     clear _hK_185
     refine W_seq fun _K_194 _hK_194 => ?_
     refine W_region ?_
     refine WL_step rfl rfl (r_move rfl) ?_
     refine WL_step rfl rfl (r_move rfl) ?_
     refine WL_step rfl rfl (r_move rfl) ?_
     refine WL_step rfl rfl (r_move rfl) ?_
     refine WL_s rfl rfl ?_
     have _f_195 := (((_f_186.ch _cw_190 (lwr3 (by omega) _ll_p0 (by omega) _ll_p3 (by omega))).ch0 _cw_191).ch _cw_192 (tfr1 (by omega)))
     refine (s_cut (ys := tb.flat) ta.flat.length ((((l.length : Nat) : Int) - 1).toNat) _f_195 Token.len el28 sz55 rfl ⟨_, _, rfl, by omega⟩ ⟨_, _, rfl, by omega⟩ (by omega) (by omega) (cut_b hla (by omega) (by omega)) fun _v125 _q125 _bb125 _ln125 => ?_)
     obtain ⟨_A125, _C125, _e125⟩ := _q125.val
     subst _e125
     have _l125 := _q125.len
     refine WL_s rfl rfl ?_
     have _f_196 := ((_m120.ch0 _cw_191).ch _cw_192 (ne1 (by omega)))
     have _f_197 := ((_qz120_0.ch0 _cw_191).ch _cw_192 (fun g hg hm => by have _h0 := mSg.1 hm; have _h2 := _loz120_0 _ hg; have _h3 := hiz120_0 _ hg; omega))
     have _f_198 := ((_qz120_3.ch0 _cw_191).ch _cw_192 (fun g hg hm => by have _h0 := mSg.1 hm; have _h2 := _loz120_3 _ hg; have _h3 := hiz120_3 _ hg; omega))
     refine Step.call (r_call (xs := [.tmp 121, .tmp 125]) fk29 rfl) (ih _f_196 (by omega) _f_197 _nbz120_0 (Lo.down _loz120_0 (by omega)) _f_198 _nbz120_3 (Lo.down _loz120_3 (by omega)) _djz120_0z120_3 _q125 tb ob rfl (by omega) ⟨by omega, by omega⟩ (L_p := L_p) (by omega)) fun _v126 _w_199 _q126 => ?_
     obtain ⟨_z126_0, _z126_3, rfl, _m126, _qz126_0, _inz126_0, _nbz126_0, _qz126_3, _inz126_3, _nbz126_3, _djz126_0z126_3, _cw_199⟩ := _q126
     have _cw_199z := _cw_199.size
     have E := E.step _cw_199 (fun i hm => by rcases List.mem_cons.1 hm with _h0 | hm; (right; exact _h0 ▸ List.mem_cons_self ..); (rcases List.mem_append.1 hm with hm | hm; (exact (iQ120_0 _ hm)); (exact (iQ120_3 _ hm))))
     obtain ⟨Az126_0, Cz126_0, ez126_0⟩ := _qz126_0.val
     subst ez126_0
     have lz126_0 := _qz126_0.len
     have hiz126_0 := _qz126_0.lt
     have _loz126_0 : Lo L_p (.slice Az126_0 ((bpT tb ((bpT ta _p0 _p3).L) ((bpT ta _p0 _p3).F)).L).length Cz126_0) := loOld _inz126_0 _nbz126_0 (by omega) (all2 _loz120_0 _loz120_3)
     obtain ⟨Az126_3, Cz126_3, ez126_3⟩ := _qz126_3.val
     subst ez126_3
     have lz126_3 := _qz126_3.len
     have hiz126_3 := _qz126_3.lt
     have _loz126_3 : Lo L_p (.slice Az126_3 ((bpT tb ((bpT ta _p0 _p3).L) ((bpT ta _p0 _p3).F)).F).length Cz126_3) := loOld _inz126_3 _nbz126_3 (by omega) (all2 _loz120_0 _loz120_3)
     have nQ126_0_4 := nbOld _inz126_0 _nbz126_0 (show _b4 < _ by omega) (nin2 nQ120_0_4 nQ120_3_4)
     have nQ126_0_6 := nbOld _inz126_0 _nbz126_0 (show _b6 < _ by omega) (nin2 nQ120_0_6 nQ120_3_6)
     have nQ126_0_13 := nbOld _inz126_0 _nbz126_0 (show _b13 < _ by omega) (nin2 (no_in _loz120_0 hiz120_0 (by omega)) (no_in _loz120_3 hiz120_3 (by omega)))
     have iQ126_0 := inOldE E _inz126_0 _nbz126_0 (by omega) (all2 (fun g hm => (iQ120_0 _ hm)) (fun g hm => (iQ120_3 _ hm)))
     have nQ126_3_4 := nbOld _inz126_3 _nbz126_3 (show _b4 < _ by omega) (nin2 nQ120_0_4 nQ120_3_4)
     have nQ126_3_6 := nbOld _inz126_3 _nbz126_3 (show _b6 < _ by omega) (nin2 nQ120_0_6 nQ120_3_6)
     have nQ126_3_13 := nbOld _inz126_3 _nbz126_3 (show _b13 < _ by omega) (nin2 (no_in _loz120_0 hiz120_0 (by omega)) (no_in _loz120_3 hiz120_3 (by omega)))
     have iQ126_3 := inOldE E _inz126_3 _nbz126_3 (by omega) (all2 (fun g hm => (iQ120_0 _ hm)) (fun g hm => (iQ120_3 _ hm)))
     replace _m126 : Blk _w_199 b_p t_p [(.slice Az126_0 ((bpT tb ((bpT ta _p0 _p3).L) ((bpT ta _p0 _p3).F)).L).length Cz126_0), (.int .i64 _p1), (.int .i64 _p2), (.slice Az126_3 ((bpT tb ((bpT ta _p0 _p3).L) ((bpT ta _p0 _p3).F)).F).length Cz126_3), (.bool _p4)] := _m126
     refine WL_s rfl rfl ?_
     refine s_alloc zr57 fun _b14 _w_200 _m14 _cw_200 _e14 => ?_
     have _cw_200z := _cw_200.size
     have E := E.trans _cw_200.of_nil
     have _z14 := _m14.lt
     replace _m14 : Blk _w_200 _b14 57 [(.bool false), (.int .i64 0), (.int .i64 0)] := _m14
     refine WL_s rfl rfl ?_
     refine s_storeA (off := 0) 3 _m14 sz57 rfl (us := [(.bool ((bpT tb ((bpT ta _p0 _p3).L) ((bpT ta _p0 _p3).F)).n)), (.int .i64 ((bpT tb ((bpT ta _p0 _p3).L) ((bpT ta _p0 _p3).F)).f)), (.int .i64 ((bpT tb ((bpT ta _p0 _p3).L) ((bpT ta _p0 _p3).F)).l))]) rfl rfl rfl rfl fun _w_201 _m_202 _cw_201 => ?_
     have _cw_201z := _cw_201.size
     have E := E.step _cw_201 (oneL (by omega))
     replace _m_202 : Blk _w_201 _b14 57 [(.bool ((bpT tb ((bpT ta _p0 _p3).L) ((bpT ta _p0 _p3).F)).n)), (.int .i64 ((bpT tb ((bpT ta _p0 _p3).L) ((bpT ta _p0 _p3).F)).f)), (.int .i64 ((bpT tb ((bpT ta _p0 _p3).L) ((bpT ta _p0 _p3).F)).l))] := _m_202
     refine WL_nil ?_
     refine thn_nrm (_hK_194 _ _ ?_)
     clear _hK_194
     refine W_seq fun _K_203 _hK_203 => ?_
     refine W_region ?_
     refine WL_step rfl rfl (r_fieldAddr fa57_0 rfl) ?_
     have _f_204 := (((_m_193.ch _cw_199 (nin3 (by omega) (no_hi hiz120_0 (by omega)) (no_hi hiz120_3 (by omega)))).ch0 _cw_200).ch _cw_201 (ne1 (by omega)))
     refine WL_step rfl rfl (r_loadAt _f_204.at_ agg4 rfl rfl) ?_
     refine WL_step rfl rfl (r_move rfl) ?_
     refine WL_split (d := 129) rfl (fun _h129 => ?_) (fun _h129 => ?_)
     ·have _kb_205 := _h129
      refine WL_skip rfl rfl ?_
      refine WL_skip rfl rfl ?_
      refine WL_step rfl rfl (r_pickT rfl rfl) ?_
      refine WL_step rfl rfl (r_fieldAddr fa57_1 rfl) ?_
      refine WL_step rfl rfl (r_loadAt _f_204.at_ agg3 rfl rfl) ?_
      refine WL_step rfl rfl (r_fieldAddr fa57_1 rfl) ?_
      refine WL_step rfl rfl (r_loadAt _m_202.at_ agg3 rfl rfl) ?_
      refine WL_step rfl rfl (r_or rfl rfl) ?_
      refine WL_step rfl rfl (r_fieldAddr fa57_2 rfl) ?_
      refine WL_step rfl rfl (r_loadAt _f_204.at_ agg3 rfl rfl) ?_
      refine WL_step rfl rfl (r_fieldAddr fa57_2 rfl) ?_
      refine WL_step rfl rfl (r_loadAt _m_202.at_ agg3 rfl rfl) ?_
      refine WL_step rfl rfl (r_or rfl rfl) ?_
      refine WL_step rfl rfl (r_build (parts := [(0, .tmp 132), (1, .tmp 137), (2, .tmp 142)]) (cells := [(.bool true), (.int .i64 (ior ((bpT ta _p0 _p3).f) ((bpT tb ((bpT ta _p0 _p3).L) ((bpT ta _p0 _p3).F)).f))), (.int .i64 (ior ((bpT ta _p0 _p3).l) ((bpT tb ((bpT ta _p0 _p3).L) ((bpT ta _p0 _p3).F)).l)))]) zr57 pl57 rfl rfl) ?_
      refine WL_s rfl rfl ?_
      have _f_206 := (((((((((_m4.ch0 _cw_6).ch _cw_7 (ne1 (by omega))).ch0 _cw_184).ch _cw_190 (nin3 (by omega) (no_hi _lt_p0 (by omega)) (no_hi _lt_p3 (by omega)))).ch0 _cw_191).ch _cw_192 (ne1 (by omega))).ch _cw_199 (nin3 (by omega) nQ120_0_4 nQ120_3_4)).ch0 _cw_200).ch _cw_201 (ne1 (by omega)))
      refine s_storeA (off := 0) 3 _f_206 sz57 rfl (us := [(.bool true), (.int .i64 (ior ((bpT ta _p0 _p3).f) ((bpT tb ((bpT ta _p0 _p3).L) ((bpT ta _p0 _p3).F)).f))), (.int .i64 (ior ((bpT ta _p0 _p3).l) ((bpT tb ((bpT ta _p0 _p3).L) ((bpT ta _p0 _p3).F)).l)))]) rfl rfl rfl rfl fun _w_207 _m_208 _cw_207 => ?_
      have _cw_207z := _cw_207.size
      have E := E.step _cw_207 (oneL (by omega))
      replace _m_208 : Blk _w_207 _b4 57 [(.bool true), (.int .i64 (ior ((bpT ta _p0 _p3).f) ((bpT tb ((bpT ta _p0 _p3).L) ((bpT ta _p0 _p3).F)).f))), (.int .i64 (ior ((bpT ta _p0 _p3).l) ((bpT tb ((bpT ta _p0 _p3).L) ((bpT ta _p0 _p3).F)).l)))] := _m_208
      refine WL_nil ?_
      refine thn_nrm (_hK_203 _ _ ?_)
      clear _hK_203
      refine W_ret (inB_ret (thn_ret ?_))
      clear _hK_9
      have _f_209 := (((_m126.ch0 _cw_200).ch _cw_201 (ne1 (by omega))).ch _cw_207 (ne1 (by omega)))
      have _f_210 := (((_qz126_0.ch0 _cw_200).ch _cw_201 (fun g hg hm => by have _h0 := mSg.1 hm; have _h2 := _loz126_0 _ hg; have _h3 := hiz126_0 _ hg; omega)).ch _cw_207 (fun g hg hm => by have _h0 := mSg.1 hm; exact nQ126_0_4 (by first | exact hg | exact _h0 ▸ hg)))
      have _o_211 : Ol ics 3 1 _w_207 (.slice Az126_0 ((bpT tb ((bpT ta _p0 _p3).L) ((bpT ta _p0 _p3).F)).L).length Cz126_0) ((bpT t _p0 _p3).L) := by
        have hx := _f_210
        exact hx.eq (by rw [eb] <;> first | rfl | exact rbA _h84 | exact rbB _h84 | exact rbC _h84 | exact rbD _h84 | exact rbE _h84 | (rw [_h84]; simp; done) | exact rbA _h129 | exact rbB _h129 | exact rbC _h129 | exact rbD _h129 | exact rbE _h129 | (rw [_h129]; simp; done) | (rw [hte]; done))
      have _f_212 := (((_qz126_3.ch0 _cw_200).ch _cw_201 (fun g hg hm => by have _h0 := mSg.1 hm; have _h2 := _loz126_3 _ hg; have _h3 := hiz126_3 _ hg; omega)).ch _cw_207 (fun g hg hm => by have _h0 := mSg.1 hm; exact nQ126_3_4 (by first | exact hg | exact _h0 ▸ hg)))
      have _o_213 : Ol ics 3 1 _w_207 (.slice Az126_3 ((bpT tb ((bpT ta _p0 _p3).L) ((bpT ta _p0 _p3).F)).F).length Cz126_3) ((bpT t _p0 _p3).F) := by
        have hx := _f_212
        exact hx.eq (by rw [eb] <;> first | rfl | exact rbA _h84 | exact rbB _h84 | exact rbC _h84 | exact rbD _h84 | exact rbE _h84 | (rw [_h84]; simp; done) | exact rbA _h129 | exact rbB _h129 | exact rbC _h129 | exact rbD _h129 | exact rbE _h129 | (rw [_h129]; simp; done) | (rw [hte]; done))
      have _m_214 : Blk _w_207 b_p t_p [(.slice Az126_0 ((bpT tb ((bpT ta _p0 _p3).L) ((bpT ta _p0 _p3).F)).L).length Cz126_0), .int .i64 _p1, .int .i64 _p2, (.slice Az126_3 ((bpT tb ((bpT ta _p0 _p3).L) ((bpT ta _p0 _p3).F)).F).length Cz126_3), .bool _p4] := by
        have hx := _f_209
        exact hx
      exact ret_intro [_] (resOf_loadA _m_208 rfl agg57 sz57 trivial) ⟨(.slice Az126_0 ((bpT tb ((bpT ta _p0 _p3).L) ((bpT ta _p0 _p3).F)).L).length Cz126_0), (.slice Az126_3 ((bpT tb ((bpT ta _p0 _p3).L) ((bpT ta _p0 _p3).F)).F).length Cz126_3), (((congrArg (fun zq => (Value.agg #[.bool zq, .int .i64 (ior ((bpT ta _p0 _p3).f) ((bpT tb ((bpT ta _p0 _p3).L) ((bpT ta _p0 _p3).F)).f)), .int .i64 (ior ((bpT ta _p0 _p3).l) ((bpT tb ((bpT ta _p0 _p3).L) ((bpT ta _p0 _p3).F)).l))])) (by rw [eb] <;> first | rfl | exact rbA _h84 | exact rbB _h84 | exact rbC _h84 | exact rbD _h84 | exact rbE _h84 | (rw [_h84]; simp; done) | exact rbA _h129 | exact rbB _h129 | exact rbC _h129 | exact rbD _h129 | exact rbE _h129 | (rw [_h129]; simp; done) | (rw [hte]; done))).trans (congrArg (fun zq => (Value.agg #[.bool ((bpT t _p0 _p3).n), .int .i64 zq, .int .i64 (ior ((bpT ta _p0 _p3).l) ((bpT tb ((bpT ta _p0 _p3).L) ((bpT ta _p0 _p3).F)).l))])) (by rw [eb] <;> first | rfl | exact rbA _h84 | exact rbB _h84 | exact rbC _h84 | exact rbD _h84 | exact rbE _h84 | (rw [_h84]; simp; done) | exact rbA _h129 | exact rbB _h129 | exact rbC _h129 | exact rbD _h129 | exact rbE _h129 | (rw [_h129]; simp; done) | (rw [hte]; done)))).trans (congrArg (fun zq => (Value.agg #[.bool ((bpT t _p0 _p3).n), .int .i64 ((bpT t _p0 _p3).f), .int .i64 zq])) (by rw [eb] <;> first | rfl | exact rbA _h84 | exact rbB _h84 | exact rbC _h84 | exact rbD _h84 | exact rbE _h84 | (rw [_h84]; simp; done) | exact rbA _h129 | exact rbB _h129 | exact rbC _h129 | exact rbD _h129 | exact rbE _h129 | (rw [_h129]; simp; done) | (rw [hte]; done)))), _m_214, _o_211, iQ126_0, _nbz126_0, _o_213, iQ126_3, _nbz126_3, _djz126_0z126_3, E⟩
     ·have _kb_205 := _h129
      refine WL_step rfl rfl (r_fieldAddr fa57_0 rfl) ?_
      refine WL_step rfl rfl (r_loadAt _m_202.at_ agg4 rfl rfl) ?_
      refine WL_step rfl rfl (r_pickF rfl rfl) ?_
      refine WL_step rfl rfl (r_fieldAddr fa57_1 rfl) ?_
      refine WL_step rfl rfl (r_loadAt _f_204.at_ agg3 rfl rfl) ?_
      refine WL_step rfl rfl (r_fieldAddr fa57_1 rfl) ?_
      refine WL_step rfl rfl (r_loadAt _m_202.at_ agg3 rfl rfl) ?_
      refine WL_step rfl rfl (r_or rfl rfl) ?_
      refine WL_step rfl rfl (r_fieldAddr fa57_2 rfl) ?_
      refine WL_step rfl rfl (r_loadAt _f_204.at_ agg3 rfl rfl) ?_
      refine WL_step rfl rfl (r_fieldAddr fa57_2 rfl) ?_
      refine WL_step rfl rfl (r_loadAt _m_202.at_ agg3 rfl rfl) ?_
      refine WL_step rfl rfl (r_or rfl rfl) ?_
      refine WL_step rfl rfl (r_build (parts := [(0, .tmp 132), (1, .tmp 137), (2, .tmp 142)]) (cells := [(.bool ((bpT tb ((bpT ta _p0 _p3).L) ((bpT ta _p0 _p3).F)).n)), (.int .i64 (ior ((bpT ta _p0 _p3).f) ((bpT tb ((bpT ta _p0 _p3).L) ((bpT ta _p0 _p3).F)).f))), (.int .i64 (ior ((bpT ta _p0 _p3).l) ((bpT tb ((bpT ta _p0 _p3).L) ((bpT ta _p0 _p3).F)).l)))]) zr57 pl57 rfl rfl) ?_
      refine WL_s rfl rfl ?_
      have _f_215 := (((((((((_m4.ch0 _cw_6).ch _cw_7 (ne1 (by omega))).ch0 _cw_184).ch _cw_190 (nin3 (by omega) (no_hi _lt_p0 (by omega)) (no_hi _lt_p3 (by omega)))).ch0 _cw_191).ch _cw_192 (ne1 (by omega))).ch _cw_199 (nin3 (by omega) nQ120_0_4 nQ120_3_4)).ch0 _cw_200).ch _cw_201 (ne1 (by omega)))
      refine s_storeA (off := 0) 3 _f_215 sz57 rfl (us := [(.bool ((bpT tb ((bpT ta _p0 _p3).L) ((bpT ta _p0 _p3).F)).n)), (.int .i64 (ior ((bpT ta _p0 _p3).f) ((bpT tb ((bpT ta _p0 _p3).L) ((bpT ta _p0 _p3).F)).f))), (.int .i64 (ior ((bpT ta _p0 _p3).l) ((bpT tb ((bpT ta _p0 _p3).L) ((bpT ta _p0 _p3).F)).l)))]) rfl rfl rfl rfl fun _w_216 _m_217 _cw_216 => ?_
      have _cw_216z := _cw_216.size
      have E := E.step _cw_216 (oneL (by omega))
      replace _m_217 : Blk _w_216 _b4 57 [(.bool ((bpT tb ((bpT ta _p0 _p3).L) ((bpT ta _p0 _p3).F)).n)), (.int .i64 (ior ((bpT ta _p0 _p3).f) ((bpT tb ((bpT ta _p0 _p3).L) ((bpT ta _p0 _p3).F)).f))), (.int .i64 (ior ((bpT ta _p0 _p3).l) ((bpT tb ((bpT ta _p0 _p3).L) ((bpT ta _p0 _p3).F)).l)))] := _m_217
      refine WL_nil ?_
      refine thn_nrm (_hK_203 _ _ ?_)
      clear _hK_203
      refine W_ret (inB_ret (thn_ret ?_))
      clear _hK_9
      have _f_218 := (((_m126.ch0 _cw_200).ch _cw_201 (ne1 (by omega))).ch _cw_216 (ne1 (by omega)))
      have _f_219 := (((_qz126_0.ch0 _cw_200).ch _cw_201 (fun g hg hm => by have _h0 := mSg.1 hm; have _h2 := _loz126_0 _ hg; have _h3 := hiz126_0 _ hg; omega)).ch _cw_216 (fun g hg hm => by have _h0 := mSg.1 hm; exact nQ126_0_4 (by first | exact hg | exact _h0 ▸ hg)))
      have _o_220 : Ol ics 3 1 _w_216 (.slice Az126_0 ((bpT tb ((bpT ta _p0 _p3).L) ((bpT ta _p0 _p3).F)).L).length Cz126_0) ((bpT t _p0 _p3).L) := by
        have hx := _f_219
        exact hx.eq (by rw [eb] <;> first | rfl | exact rbA _h84 | exact rbB _h84 | exact rbC _h84 | exact rbD _h84 | exact rbE _h84 | (rw [_h84]; simp; done) | exact rbA _h129 | exact rbB _h129 | exact rbC _h129 | exact rbD _h129 | exact rbE _h129 | (rw [_h129]; simp; done) | (rw [hte]; done))
      have _f_221 := (((_qz126_3.ch0 _cw_200).ch _cw_201 (fun g hg hm => by have _h0 := mSg.1 hm; have _h2 := _loz126_3 _ hg; have _h3 := hiz126_3 _ hg; omega)).ch _cw_216 (fun g hg hm => by have _h0 := mSg.1 hm; exact nQ126_3_4 (by first | exact hg | exact _h0 ▸ hg)))
      have _o_222 : Ol ics 3 1 _w_216 (.slice Az126_3 ((bpT tb ((bpT ta _p0 _p3).L) ((bpT ta _p0 _p3).F)).F).length Cz126_3) ((bpT t _p0 _p3).F) := by
        have hx := _f_221
        exact hx.eq (by rw [eb] <;> first | rfl | exact rbA _h84 | exact rbB _h84 | exact rbC _h84 | exact rbD _h84 | exact rbE _h84 | (rw [_h84]; simp; done) | exact rbA _h129 | exact rbB _h129 | exact rbC _h129 | exact rbD _h129 | exact rbE _h129 | (rw [_h129]; simp; done) | (rw [hte]; done))
      have _m_223 : Blk _w_216 b_p t_p [(.slice Az126_0 ((bpT tb ((bpT ta _p0 _p3).L) ((bpT ta _p0 _p3).F)).L).length Cz126_0), .int .i64 _p1, .int .i64 _p2, (.slice Az126_3 ((bpT tb ((bpT ta _p0 _p3).L) ((bpT ta _p0 _p3).F)).F).length Cz126_3), .bool _p4] := by
        have hx := _f_218
        exact hx
      exact ret_intro [_] (resOf_loadA _m_217 rfl agg57 sz57 trivial) ⟨(.slice Az126_0 ((bpT tb ((bpT ta _p0 _p3).L) ((bpT ta _p0 _p3).F)).L).length Cz126_0), (.slice Az126_3 ((bpT tb ((bpT ta _p0 _p3).L) ((bpT ta _p0 _p3).F)).F).length Cz126_3), (((congrArg (fun zq => (Value.agg #[.bool zq, .int .i64 (ior ((bpT ta _p0 _p3).f) ((bpT tb ((bpT ta _p0 _p3).L) ((bpT ta _p0 _p3).F)).f)), .int .i64 (ior ((bpT ta _p0 _p3).l) ((bpT tb ((bpT ta _p0 _p3).L) ((bpT ta _p0 _p3).F)).l))])) (by rw [eb] <;> first | rfl | exact rbA _h84 | exact rbB _h84 | exact rbC _h84 | exact rbD _h84 | exact rbE _h84 | (rw [_h84]; simp; done) | exact rbA _h129 | exact rbB _h129 | exact rbC _h129 | exact rbD _h129 | exact rbE _h129 | (rw [_h129]; simp; done) | (rw [hte]; done))).trans (congrArg (fun zq => (Value.agg #[.bool ((bpT t _p0 _p3).n), .int .i64 zq, .int .i64 (ior ((bpT ta _p0 _p3).l) ((bpT tb ((bpT ta _p0 _p3).L) ((bpT ta _p0 _p3).F)).l))])) (by rw [eb] <;> first | rfl | exact rbA _h84 | exact rbB _h84 | exact rbC _h84 | exact rbD _h84 | exact rbE _h84 | (rw [_h84]; simp; done) | exact rbA _h129 | exact rbB _h129 | exact rbC _h129 | exact rbD _h129 | exact rbE _h129 | (rw [_h129]; simp; done) | (rw [hte]; done)))).trans (congrArg (fun zq => (Value.agg #[.bool ((bpT t _p0 _p3).n), .int .i64 ((bpT t _p0 _p3).f), .int .i64 zq])) (by rw [eb] <;> first | rfl | exact rbA _h84 | exact rbB _h84 | exact rbC _h84 | exact rbD _h84 | exact rbE _h84 | (rw [_h84]; simp; done) | exact rbA _h129 | exact rbB _h129 | exact rbC _h129 | exact rbD _h129 | exact rbE _h129 | (rw [_h129]; simp; done) | (rw [hte]; done)))), _m_223, _o_220, iQ126_0, _nbz126_0, _o_222, iQ126_3, _nbz126_3, _djz126_0z126_3, E⟩
    ·have _kb_181 := _h110
     have _h110 := bf_d _h110
     refine W_seq fun _K_224 _hK_224 => ?_
     refine W_region ?_
     refine WL_step rfl rfl (r_eql rfl rfl) ?_
     refine WL_step rfl rfl (r_assign rfl) ?_
     refine WL_nil ?_
     refine thn_nrm (_hK_224 _ _ ?_)
     clear _hK_224
     refine W_cond rfl (fun _h144 => ?_) (fun _h144 => ?_)
     ·have _kb_225 := _h144
      have _h144 := bt_d _h144
      obtain ⟨ta, et, oa, hla, hn2⟩ := hok.k1 (by omega) _ht hl
      have _hk0 : t.kids[0]? = some ta := by rw [et]; rfl
      have ga := ta.flat_len
      have za := bpT_len ta _p0 _p3
      have eb := bp6 (L := _p0) (F := _p3) hok (by omega) _hk0
      refine W_seq fun _K_226 _hK_226 => ?_
      refine W_region ?_
      refine WL_step rfl rfl (r_move rfl) ?_
      refine WL_step rfl rfl (r_move rfl) ?_
      refine WL_step rfl rfl (r_move rfl) ?_
      refine WL_s rfl rfl ?_
      have _f_227 := ((_f_5.ch0 _cw_6).ch _cw_7 (tfr1 (by omega)))
      refine (s_cut (ys := ta.flat) 0 ((((l.length : Nat) : Int) - 1).toNat) _f_227 Token.len el28 sz55 rfl rfl ⟨_, _, rfl, by omega⟩ (by omega) (by omega) (show l.take _ = _ from cut_1 hla (by omega)) fun _v149 _q149 _bb149 _ln149 => ?_)
      obtain ⟨_A149, _C149, _e149⟩ := _q149.val
      subst _e149
      have _l149 := _q149.len
      refine WL_s rfl rfl ?_
      have _f_228 := (((m_p.ch0 _cw_2).ch0 _cw_6).ch _cw_7 (ne1 (by omega)))
      have _f_229 := (((_h_p0.ch0 _cw_2).ch0 _cw_6).ch _cw_7 (fun g hg hm => by have _h0 := mSg.1 hm; have _h2 := _ll_p0 _ hg; have _h3 := _lt_p0 _ hg; omega))
      have _f_230 := (((_h_p3.ch0 _cw_2).ch0 _cw_6).ch _cw_7 (fun g hg hm => by have _h0 := mSg.1 hm; have _h2 := _ll_p3 _ hg; have _h3 := _lt_p3 _ hg; omega))
      refine Step.call (r_call (xs := [.tmp 146, .tmp 149]) fk29 rfl) (ih _f_228 (by omega) _f_229 _nb_p0 (Lo.down _ll_p0 (by omega)) _f_230 _nb_p3 (Lo.down _ll_p3 (by omega)) _dj_p0_p3 _q149 ta oa rfl (by omega) ⟨by omega, by omega⟩ (L_p := L_p) (by omega)) fun _v150 _w_231 _q150 => ?_
      obtain ⟨_z150_0, _z150_3, rfl, _m150, _qz150_0, _inz150_0, _nbz150_0, _qz150_3, _inz150_3, _nbz150_3, _djz150_0z150_3, _cw_231⟩ := _q150
      have _cw_231z := _cw_231.size
      have E := E.step _cw_231 (fun i hm => by rcases List.mem_cons.1 hm with _h0 | hm; (right; exact _h0 ▸ List.mem_cons_self ..); (rcases List.mem_append.1 hm with hm | hm; (exact (.inr (mCo _ (mAL _ hm)))); (exact (.inr (mCo _ (mAR _ hm))))))
      obtain ⟨Az150_0, Cz150_0, ez150_0⟩ := _qz150_0.val
      subst ez150_0
      have lz150_0 := _qz150_0.len
      have hiz150_0 := _qz150_0.lt
      have _loz150_0 : Lo L_p (.slice Az150_0 ((bpT ta _p0 _p3).L).length Cz150_0) := loOld _inz150_0 _nbz150_0 (by omega) (all2 _ll_p0 _ll_p3)
      obtain ⟨Az150_3, Cz150_3, ez150_3⟩ := _qz150_3.val
      subst ez150_3
      have lz150_3 := _qz150_3.len
      have hiz150_3 := _qz150_3.lt
      have _loz150_3 : Lo L_p (.slice Az150_3 ((bpT ta _p0 _p3).F).length Cz150_3) := loOld _inz150_3 _nbz150_3 (by omega) (all2 _ll_p0 _ll_p3)
      have nQ150_0_4 := nbOld _inz150_0 _nbz150_0 (show _b4 < _ by omega) (nin2 (no_in _ll_p0 _lt_p0 (by omega)) (no_in _ll_p3 _lt_p3 (by omega)))
      have nQ150_0_6 := nbOld _inz150_0 _nbz150_0 (show _b6 < _ by omega) (nin2 (no_in _ll_p0 _lt_p0 (by omega)) (no_in _ll_p3 _lt_p3 (by omega)))
      have iQ150_0 := inOldE E _inz150_0 _nbz150_0 (by omega) (all2 (fun g hm => (.inr (mCo _ (mAL _ hm)))) (fun g hm => (.inr (mCo _ (mAR _ hm)))))
      have nQ150_3_4 := nbOld _inz150_3 _nbz150_3 (show _b4 < _ by omega) (nin2 (no_in _ll_p0 _lt_p0 (by omega)) (no_in _ll_p3 _lt_p3 (by omega)))
      have nQ150_3_6 := nbOld _inz150_3 _nbz150_3 (show _b6 < _ by omega) (nin2 (no_in _ll_p0 _lt_p0 (by omega)) (no_in _ll_p3 _lt_p3 (by omega)))
      have iQ150_3 := inOldE E _inz150_3 _nbz150_3 (by omega) (all2 (fun g hm => (.inr (mCo _ (mAL _ hm)))) (fun g hm => (.inr (mCo _ (mAR _ hm)))))
      replace _m150 : Blk _w_231 b_p t_p [(.slice Az150_0 ((bpT ta _p0 _p3).L).length Cz150_0), (.int .i64 _p1), (.int .i64 _p2), (.slice Az150_3 ((bpT ta _p0 _p3).F).length Cz150_3), (.bool _p4)] := _m150
      refine WL_s rfl rfl ?_
      refine s_alloc zr57 fun _b15 _w_232 _m15 _cw_232 _e15 => ?_
      have _cw_232z := _cw_232.size
      have E := E.trans _cw_232.of_nil
      have _z15 := _m15.lt
      replace _m15 : Blk _w_232 _b15 57 [(.bool false), (.int .i64 0), (.int .i64 0)] := _m15
      refine WL_s rfl rfl ?_
      refine s_storeA (off := 0) 3 _m15 sz57 rfl (us := [(.bool ((bpT ta _p0 _p3).n)), (.int .i64 ((bpT ta _p0 _p3).f)), (.int .i64 ((bpT ta _p0 _p3).l))]) rfl rfl rfl rfl fun _w_233 _m_234 _cw_233 => ?_
      have _cw_233z := _cw_233.size
      have E := E.step _cw_233 (oneL (by omega))
      replace _m_234 : Blk _w_233 _b15 57 [(.bool ((bpT ta _p0 _p3).n)), (.int .i64 ((bpT ta _p0 _p3).f)), (.int .i64 ((bpT ta _p0 _p3).l))] := _m_234
      refine WL_nil ?_
      refine thn_nrm (_hK_226 _ _ ?_)
      clear _hK_226
      refine W_seq fun _K_235 _hK_235 => ?_
      refine W_region ?_
      refine WL_step rfl rfl (r_move rfl) ?_
      refine WL_step rfl rfl (r_fieldAddr fa57_2 rfl) ?_
      refine WL_step rfl rfl (r_loadAt _m_234.at_ agg3 rfl rfl) ?_
      refine WL_step rfl rfl (r_fieldAddr fa57_1 rfl) ?_
      refine WL_step rfl rfl (r_loadAt _m_234.at_ agg3 rfl rfl) ?_
      refine WL_s rfl rfl ?_
      have _f_236 := ((_m150.ch0 _cw_232).ch _cw_233 (ne1 (by omega)))
      have _f_237 := ((_qz150_0.ch0 _cw_232).ch _cw_233 (fun g hg hm => by have _h0 := mSg.1 hm; have _h2 := _loz150_0 _ hg; have _h3 := hiz150_0 _ hg; omega))
      have _f_238 := ((_qz150_3.ch0 _cw_232).ch _cw_233 (fun g hg hm => by have _h0 := mSg.1 hm; have _h2 := _loz150_3 _ hg; have _h3 := hiz150_3 _ hg; omega))
      refine Step.call (r_call (xs := [.tmp 151, .tmp 153, .tmp 155]) fk51 rfl) (c_spec_l10Link _f_236 (by omega) _f_237 _nbz150_0 (Lo.down _loz150_0 (by omega)) _f_238 _nbz150_3 (Lo.down _loz150_3 (by omega)) _djz150_0z150_3 _ _ (by omega) (L_p := L_p)) fun _v156 _w_239 _q156 => ?_
      obtain ⟨_z156_0, _z156_3, rfl, _m156, _qz156_0, _inz156_0, _nbz156_0, _qz156_3, _inz156_3, _nbz156_3, _djz156_0z156_3, _cw_239⟩ := _q156
      have _cw_239z := _cw_239.size
      have E := E.step _cw_239 (fun i hm => by rcases List.mem_cons.1 hm with _h0 | hm; (right; exact _h0 ▸ List.mem_cons_self ..); (rcases List.mem_append.1 hm with hm | hm; (exact (iQ150_0 _ hm)); (exact (iQ150_3 _ hm))))
      obtain ⟨Az156_0, Cz156_0, ez156_0⟩ := _qz156_0.val
      subst ez156_0
      have lz156_0 := _qz156_0.len
      have hiz156_0 := _qz156_0.lt
      have _loz156_0 : Lo L_p (.slice Az156_0 (((bpT ta _p0 _p3).L)).length Cz156_0) := loOld _inz156_0 _nbz156_0 (by omega) (all2 _loz150_0 _loz150_3)
      obtain ⟨Az156_3, Cz156_3, ez156_3⟩ := _qz156_3.val
      subst ez156_3
      have lz156_3 := _qz156_3.len
      have hiz156_3 := _qz156_3.lt
      have _loz156_3 : Lo L_p (.slice Az156_3 (lkL ((bpT ta _p0 _p3).l) ((bpT ta _p0 _p3).f) ((bpT ta _p0 _p3).F)).length Cz156_3) := loOld _inz156_3 _nbz156_3 (by omega) (all2 _loz150_0 _loz150_3)
      have nQ156_0_4 := nbOld _inz156_0 _nbz156_0 (show _b4 < _ by omega) (nin2 nQ150_0_4 nQ150_3_4)
      have nQ156_0_6 := nbOld _inz156_0 _nbz156_0 (show _b6 < _ by omega) (nin2 nQ150_0_6 nQ150_3_6)
      have nQ156_0_15 := nbOld _inz156_0 _nbz156_0 (show _b15 < _ by omega) (nin2 (no_in _loz150_0 hiz150_0 (by omega)) (no_in _loz150_3 hiz150_3 (by omega)))
      have iQ156_0 := inOldE E _inz156_0 _nbz156_0 (by omega) (all2 (fun g hm => (iQ150_0 _ hm)) (fun g hm => (iQ150_3 _ hm)))
      have nQ156_3_4 := nbOld _inz156_3 _nbz156_3 (show _b4 < _ by omega) (nin2 nQ150_0_4 nQ150_3_4)
      have nQ156_3_6 := nbOld _inz156_3 _nbz156_3 (show _b6 < _ by omega) (nin2 nQ150_0_6 nQ150_3_6)
      have nQ156_3_15 := nbOld _inz156_3 _nbz156_3 (show _b15 < _ by omega) (nin2 (no_in _loz150_0 hiz150_0 (by omega)) (no_in _loz150_3 hiz150_3 (by omega)))
      have iQ156_3 := inOldE E _inz156_3 _nbz156_3 (by omega) (all2 (fun g hm => (iQ150_0 _ hm)) (fun g hm => (iQ150_3 _ hm)))
      replace _m156 : Blk _w_239 b_p t_p [(.slice Az156_0 (((bpT ta _p0 _p3).L)).length Cz156_0), (.int .i64 _p1), (.int .i64 _p2), (.slice Az156_3 (lkL ((bpT ta _p0 _p3).l) ((bpT ta _p0 _p3).f) ((bpT ta _p0 _p3).F)).length Cz156_3), (.bool _p4)] := _m156
      refine WL_nil ?_
      refine thn_nrm (_hK_235 _ _ ?_)
      clear _hK_235
      refine W_seq fun _K_240 _hK_240 => ?_
      refine W_region ?_
      refine WL_step rfl rfl (r_fieldAddr fa57_1 rfl) ?_
      have _f_241 := (_m_234.ch _cw_239 (nin3 (by omega) (no_hi hiz150_0 (by omega)) (no_hi hiz150_3 (by omega))))
      refine WL_step rfl rfl (r_loadAt _f_241.at_ agg3 rfl rfl) ?_
      refine WL_step rfl rfl (r_fieldAddr fa57_2 rfl) ?_
      refine WL_step rfl rfl (r_loadAt _f_241.at_ agg3 rfl rfl) ?_
      refine WL_step rfl rfl (r_build (parts := [(0, .const (Go.Value.bool true)), (1, .tmp 158), (2, .tmp 160)]) (cells := [(.bool true), (.int .i64 ((bpT ta _p0 _p3).f)), (.int .i64 ((bpT ta _p0 _p3).l))]) zr57 pl57 rfl rfl) ?_
      refine WL_s rfl rfl ?_
      have _f_242 := ((((((_m4.ch0 _cw_6).ch _cw_7 (ne1 (by omega))).ch _cw_231 (nin3 (by omega) (no_hi _lt_p0 (by omega)) (no_hi _lt_p3 (by omega)))).ch0 _cw_232).ch _cw_233 (ne1 (by omega))).ch _cw_239 (nin3 (by omega) nQ150_0_4 nQ150_3_4))
      refine s_storeA (off := 0) 3 _f_242 sz57 rfl (us := [(.bool true), (.int .i64 ((bpT ta _p0 _p3).f)), (.int .i64 ((bpT ta _p0 _p3).l))]) rfl rfl rfl rfl fun _w_243 _m_244 _cw_243 => ?_
      have _cw_243z := _cw_243.size
      have E := E.step _cw_243 (oneL (by omega))
      replace _m_244 : Blk _w_243 _b4 57 [(.bool true), (.int .i64 ((bpT ta _p0 _p3).f)), (.int .i64 ((bpT ta _p0 _p3).l))] := _m_244
      refine WL_nil ?_
      refine thn_nrm (_hK_240 _ _ ?_)
      clear _hK_240
      refine W_ret (inB_ret (thn_ret ?_))
      clear _hK_9
      have _f_245 := (_m156.ch _cw_243 (ne1 (by omega)))
      have _f_246 := (_qz156_0.ch _cw_243 (fun g hg hm => by have _h0 := mSg.1 hm; exact nQ156_0_4 (by first | exact hg | exact _h0 ▸ hg)))
      have _o_247 : Ol ics 3 1 _w_243 (.slice Az156_0 (((bpT ta _p0 _p3).L)).length Cz156_0) ((bpT t _p0 _p3).L) := by
        have hx := _f_246
        exact hx.eq (by rw [eb] <;> first | rfl | exact rbA _h84 | exact rbB _h84 | exact rbC _h84 | exact rbD _h84 | exact rbE _h84 | (rw [_h84]; simp; done) | exact rbA _h129 | exact rbB _h129 | exact rbC _h129 | exact rbD _h129 | exact rbE _h129 | (rw [_h129]; simp; done) | (rw [hte]; done))
      have _f_248 := (_qz156_3.ch _cw_243 (fun g hg hm => by have _h0 := mSg.1 hm; exact nQ156_3_4 (by first | exact hg | exact _h0 ▸ hg)))
      have _o_249 : Ol ics 3 1 _w_243 (.slice Az156_3 (lkL ((bpT ta _p0 _p3).l) ((bpT ta _p0 _p3).f) ((bpT ta _p0 _p3).F)).length Cz156_3) ((bpT t _p0 _p3).F) := by
        have hx := _f_248
        exact hx.eq (by rw [eb] <;> first | rfl | exact rbA _h84 | exact rbB _h84 | exact rbC _h84 | exact rbD _h84 | exact rbE _h84 | (rw [_h84]; simp; done) | exact rbA _h129 | exact rbB _h129 | exact rbC _h129 | exact rbD _h129 | exact rbE _h129 | (rw [_h129]; simp; done) | (rw [hte]; done))
      have _m_250 : Blk _w_243 b_p t_p [(.slice Az156_0 (((bpT ta _p0 _p3).L)).length Cz156_0), .int .i64 _p1, .int .i64 _p2, (.slice Az156_3 (lkL ((bpT ta _p0 _p3).l) ((bpT ta _p0 _p3).f) ((bpT ta _p0 _p3).F)).length Cz156_3), .bool _p4] := by
        have hx := _f_245
        exact hx
      exact ret_intro [_] (resOf_loadA _m_244 rfl agg57 sz57 trivial) ⟨(.slice Az156_0 (((bpT ta _p0 _p3).L)).length Cz156_0), (.slice Az156_3 (lkL ((bpT ta _p0 _p3).l) ((bpT ta _p0 _p3).f) ((bpT ta _p0 _p3).F)).length Cz156_3), (((congrArg (fun zq => (Value.agg #[.bool zq, .int .i64 ((bpT ta _p0 _p3).f), .int .i64 ((bpT ta _p0 _p3).l)])) (by rw [eb] <;> first | rfl | exact rbA _h84 | exact rbB _h84 | exact rbC _h84 | exact rbD _h84 | exact rbE _h84 | (rw [_h84]; simp; done) | exact rbA _h129 | exact rbB _h129 | exact rbC _h129 | exact rbD _h129 | exact rbE _h129 | (rw [_h129]; simp; done) | (rw [hte]; done))).trans (congrArg (fun zq => (Value.agg #[.bool ((bpT t _p0 _p3).n), .int .i64 zq, .int .i64 ((bpT ta _p0 _p3).l)])) (by rw [eb] <;> first | rfl | exact rbA _h84 | exact rbB _h84 | exact rbC _h84 | exact rbD _h84 | exact rbE _h84 | (rw [_h84]; simp; done) | exact rbA _h129 | exact rbB _h129 | exact rbC _h129 | exact rbD _h129 | exact rbE _h129 | (rw [_h129]; simp; done) | (rw [hte]; done)))).trans (congrArg (fun zq => (Value.agg #[.bool ((bpT t _p0 _p3).n), .int .i64 ((bpT t _p0 _p3).f), .int .i64 zq])) (by rw [eb] <;> first | rfl | exact rbA _h84 | exact rbB _h84 | exact rbC _h84 | exact rbD _h84 | exact rbE _h84 | (rw [_h84]; simp; done) | exact rbA _h129 | exact rbB _h129 | exact rbC _h129 | exact rbD _h129 | exact rbE _h129 | (rw [_h129]; simp; done) | (rw [hte]; done)))), _m_250, _o_247, iQ156_0, _nbz156_0, _o_249, iQ156_3, _nbz156_3, _djz156_0z156_3, E⟩
     ·have _kb_225 := _h144
      have _h144 := bf_d _h144
      have eb := bp0 (t := t) (L := _p0) (F := _p3) ⟨by omega, by omega, by omega, by omega, by omega⟩
      refine W_skip ?_
      refine inB_nrm ?_
      refine thn_nrm (_hK_9 _ _ ?_)
      clear _hK_9
      refine W_seq fun _K_251 _hK_251 => ?_
      refine W_region ?_
      refine WL_step rfl rfl (r_build (parts := []) (cells := [(.bool false), (.int .i64 0), (.int .i64 0)]) zr57 pl57 rfl rfl) ?_
      refine WL_s rfl rfl ?_
      have _f_252 := ((_m4.ch0 _cw_6).ch _cw_7 (ne1 (by omega)))
      refine s_storeA (off := 0) 3 _f_252 sz57 rfl (us := [(.bool false), (.int .i64 0), (.int .i64 0)]) rfl rfl rfl rfl fun _w_253 _m_254 _cw_253 => ?_
      have _cw_253z := _cw_253.size
      have E := E.step _cw_253 (oneL (by omega))
      replace _m_254 : Blk _w_253 _b4 57 [(.bool false), (.int .i64 0), (.int .i64 0)] := _m_254
      refine WL_nil ?_
      refine thn_nrm (_hK_251 _ _ ?_)
      clear _hK_251
      refine W_ret ?_
      have _f_255 := ((((m_p.ch0 _cw_2).ch0 _cw_6).ch _cw_7 (ne1 (by omega))).ch _cw_253 (ne1 (by omega)))
      have _f_256 := ((((_h_p0.ch0 _cw_2).ch0 _cw_6).ch _cw_7 (fun g hg hm => by have _h0 := mSg.1 hm; have _h2 := _ll_p0 _ hg; have _h3 := _lt_p0 _ hg; omega)).ch _cw_253 (fun g hg hm => by have _h0 := mSg.1 hm; have _h2 := _ll_p0 _ hg; have _h3 := _lt_p0 _ hg; omega))
      have _o_257 : Ol ics 3 1 _w_253 (.slice _A_p0 _p0.length _C_p0) ((bpT t _p0 _p3).L) := by
        have hx := _f_256
        exact hx.eq (by rw [eb] <;> first | rfl | exact rbA _h84 | exact rbB _h84 | exact rbC _h84 | exact rbD _h84 | exact rbE _h84 | (rw [_h84]; simp; done) | exact rbA _h129 | exact rbB _h129 | exact rbC _h129 | exact rbD _h129 | exact rbE _h129 | (rw [_h129]; simp; done) | (rw [hte]; done))
      have _f_258 := ((((_h_p3.ch0 _cw_2).ch0 _cw_6).ch _cw_7 (fun g hg hm => by have _h0 := mSg.1 hm; have _h2 := _ll_p3 _ hg; have _h3 := _lt_p3 _ hg; omega)).ch _cw_253 (fun g hg hm => by have _h0 := mSg.1 hm; have _h2 := _ll_p3 _ hg; have _h3 := _lt_p3 _ hg; omega))
      have _o_259 : Ol ics 3 1 _w_253 (.slice _A_p3 _p3.length _C_p3) ((bpT t _p0 _p3).F) := by
        have hx := _f_258
        exact hx.eq (by rw [eb] <;> first | rfl | exact rbA _h84 | exact rbB _h84 | exact rbC _h84 | exact rbD _h84 | exact rbE _h84 | (rw [_h84]; simp; done) | exact rbA _h129 | exact rbB _h129 | exact rbC _h129 | exact rbD _h129 | exact rbE _h129 | (rw [_h129]; simp; done) | (rw [hte]; done))
      have _m_260 : Blk _w_253 b_p t_p [(.slice _A_p0 _p0.length _C_p0), .int .i64 _p1, .int .i64 _p2, (.slice _A_p3 _p3.length _C_p3), .bool _p4] := by
        have hx := _f_255
        exact hx
      exact ret_intro [_] (resOf_loadA _m_254 rfl agg57 sz57 trivial) ⟨(.slice _A_p0 _p0.length _C_p0), (.slice _A_p3 _p3.length _C_p3), (((congrArg (fun zq => (Value.agg #[.bool zq, .int .i64 0, .int .i64 0])) (by rw [eb] <;> first | rfl | exact rbA _h84 | exact rbB _h84 | exact rbC _h84 | exact rbD _h84 | exact rbE _h84 | (rw [_h84]; simp; done) | exact rbA _h129 | exact rbB _h129 | exact rbC _h129 | exact rbD _h129 | exact rbE _h129 | (rw [_h129]; simp; done) | (rw [hte]; done))).trans (congrArg (fun zq => (Value.agg #[.bool ((bpT t _p0 _p3).n), .int .i64 zq, .int .i64 0])) (by rw [eb] <;> first | rfl | exact rbA _h84 | exact rbB _h84 | exact rbC _h84 | exact rbD _h84 | exact rbE _h84 | (rw [_h84]; simp; done) | exact rbA _h129 | exact rbB _h129 | exact rbC _h129 | exact rbD _h129 | exact rbE _h129 | (rw [_h129]; simp; done) | (rw [hte]; done)))).trans (congrArg (fun zq => (Value.agg #[.bool ((bpT t _p0 _p3).n), .int .i64 ((bpT t _p0 _p3).f), .int .i64 zq])) (by rw [eb] <;> first | rfl | exact rbA _h84 | exact rbB _h84 | exact rbC _h84 | exact rbD _h84 | exact rbE _h84 | (rw [_h84]; simp; done) | exact rbA _h129 | exact rbB _h129 | exact rbC _h129 | exact rbD _h129 | exact rbE _h129 | (rw [_h129]; simp; done) | (rw [hte]; done)))), _m_260, _o_257, (fun g hm => by exact (.inr (mCo _ (mAL _ hm)))), _nb_p0, _o_259, (fun g hm => by exact (.inr (mCo _ (mAR _ hm)))), _nb_p3, _dj_p0_p3, E⟩
theorem c_spec_l10Build {w : World} {b_p t_p L_p : Nat} {_v_p0 : Value} {_p0 : List Int} {_p1 : Int} {_p2 : Int} {_v_p3 : Value} {_p3 : List Int} {_p4 : Bool} (m_p : Blk w b_p t_p [_v_p0, (.int .i64 _p1), (.int .i64 _p2), _v_p3, (.bool _p4)]) (_lb_p : L_p ≤ b_p) (_h_p0 : Ol ics 3 1 w _v_p0 _p0) (_nb_p0 : b_p ∉ bl _v_p0) (_ll_p0 : Lo L_p _v_p0) (_h_p3 : Ol ics 3 1 w _v_p3 _p3) (_nb_p3 : b_p ∉ bl _v_p3) (_ll_p3 : Lo L_p _v_p3) (_dj_p0_p3 : ∀ g ∈ bl _v_p0, g ∉ bl _v_p3) {LL_l _B_l : Nat} {_v_l : Value} {l : List Token} (_h_l : Ls Token.cs 4 w LL_l _B_l _v_l l) (t : Tr) (hok : Okd t) (hl : l = t.flat) (hbl : _B_l ≤ L_p) (hb : _p0.length + l.length ≤ 100000 ∧ _p3.length + l.length ≤ 100000) :
    Ctr Try.prog 29 #[(.pointer (some ⟨b_p, 0, none⟩)), _v_l] w (fun v w' => ∃ (zp0 zp3 : Value), v = .agg #[.bool ((bpT t _p0 _p3).n), .int .i64 ((bpT t _p0 _p3).f), .int .i64 ((bpT t _p0 _p3).l)] ∧ Blk w' b_p t_p [zp0, .int .i64 _p1, .int .i64 _p2, zp3, .bool _p4] ∧ Ol ics 3 1 w' zp0 ((bpT t _p0 _p3).L) ∧ (∀ g ∈ bl zp0, w.heap.size ≤ g ∨ g ∈ (b_p :: (bl _v_p0 ++ bl _v_p3))) ∧ b_p ∉ bl zp0 ∧ Ol ics 3 1 w' zp3 ((bpT t _p0 _p3).F) ∧ (∀ g ∈ bl zp3, w.heap.size ≤ g ∨ g ∈ (b_p :: (bl _v_p0 ++ bl _v_p3))) ∧ b_p ∉ bl zp3 ∧ (∀ g ∈ bl zp0, g ∉ bl zp3) ∧ Ch (b_p :: (bl _v_p0 ++ bl _v_p3)) w w') := c_spec_l10Build_n _ m_p _lb_p _h_p0 _nb_p0 _ll_p0 _h_p3 _nb_p3 _ll_p3 _dj_p0_p3 _h_l t hok hl hbl hb (Nat.lt_succ_self _)

/-- spec.BuildPositions -/
theorem c_spec_BuildPositions {w : World} {LL_e _B_e : Nat} {_v_e : Value} {e : List Token} (_h_e : Ls Token.cs 4 w LL_e _B_e _v_e e) (hb : e.length ≤ 1048576) :
    Ctr Try.prog 12 #[(.agg #[_v_e])] w (fun v w' => ∃ (u0x0 : Value) (u0x3 : Value), v = .tuple #[.agg #[u0x0, .int .i64 ((bpE e).1.f), .int .i64 ((bpE e).1.l), u0x3, .bool ((bpE e).1.n)], .bool ((bpE e).2)] ∧ Ol ics 3 1 w' u0x0 ((bpE e).1.L) ∧ Lo w.heap.size u0x0 ∧ Ol ics 3 1 w' u0x3 ((bpE e).1.F) ∧ Lo w.heap.size u0x3 ∧ (∀ g ∈ bl u0x0, g ∉ bl u0x3) ∧ Ch [] w w') := by
 obtain ⟨_A_e, _C_e, _e1_e⟩ := _h_e.val
 subst _e1_e
 have _l_e := _h_e.len
 have _h_e := _h_e.here (by decide)
 have E := Ch.refl [] w
 have sl := expE_len e
 refine Ctr_of_W (N := 51) (vs0 := [(.agg #[(.slice _A_e e.length _C_e)])]) Try.func12 rfl rfl rfl ?_
 refine W_seq fun _K_1 _hK_1 => ?_
 refine W_region ?_
 refine WL_s rfl rfl ?_
 refine s_box rfl fun _b1 _w_2 _m1 _cw_2 _e1 => ?_
 have _cw_2z := _cw_2.size
 have E := E.trans _cw_2
 have _z1 := _m1.lt
 replace _m1 : Blk _w_2 _b1 30 [(.slice _A_e e.length _C_e)] := _m1
 refine WL_s rfl rfl ?_
 refine s_alloc zr37 fun _b2 _w_3 _m2 _cw_3 _e2 => ?_
 have _cw_3z := _cw_3.size
 have E := E.trans _cw_3
 have _z2 := _m2.lt
 replace _m2 : Blk _w_3 _b2 37 [(.slice none 0 0), (.int .i64 0), (.int .i64 0), (.slice none 0 0), (.bool false)] := _m2
 refine WL_step rfl rfl (r_assign rfl) ?_
 refine WL_nil ?_
 refine thn_nrm (_hK_1 _ _ ?_)
 clear _hK_1
 refine W_seq fun _K_4 _hK_4 => ?_
 refine W_region ?_
 have _f_5 := (_m1.ch0 _cw_3)
 refine WL_step rfl rfl (r_loadAtA0 _f_5.at_ agg30 sz30 rfl) ?_
 refine WL_s rfl rfl ?_
 have _f_6 := ((_h_e.ch0 _cw_2).ch0 _cw_3)
 refine Step.call (r_call (xs := [.tmp 11]) fk28 rfl) (c_spec_ExpandExpr _f_6 (by omega)) fun _v12 _w_7 _q12 => ?_
 obtain ⟨u12_0x0, rfl, _q_u12_0x0, _lo_u12_0x0, _cw_7⟩ := _q12
 have _cw_7z := _cw_7.size
 have E := E.trans _cw_7
 obtain ⟨Au12_0x0, Cu12_0x0, eu12_0x0⟩ := _q_u12_0x0.val
 subst eu12_0x0
 have lu12_0x0 := _q_u12_0x0.len
 have _hiu12_0x0 := _q_u12_0x0.lt
 refine WL_step rfl rfl (r_move rfl) ?_
 refine WL_step rfl rfl (r_extract rfl rfl) ?_
 refine WL_step rfl rfl (r_extract rfl rfl) ?_
 refine WL_s rfl rfl ?_
 refine s_alloc zr30 fun _b4 _w_8 _m4 _cw_8 _e4 => ?_
 have _cw_8z := _cw_8.size
 have E := E.trans _cw_8
 have _z4 := _m4.lt
 replace _m4 : Blk _w_8 _b4 30 [(.slice none 0 0)] := _m4
 refine WL_s rfl rfl ?_
 refine s_storeA (off := 0) 1 _m4 sz30 rfl (us := [(.slice Au12_0x0 ((expE e).1).length Cu12_0x0)]) rfl rfl rfl rfl fun _w_9 _m_10 _cw_9 => ?_
 have _cw_9z := _cw_9.size
 have E := E.step _cw_9 (fun i hi => .inl (by have _h1 := mSg.1 hi; omega))
 replace _m_10 : Blk _w_9 _b4 30 [(.slice Au12_0x0 ((expE e).1).length Cu12_0x0)] := _m_10
 refine WL_step rfl rfl (r_assign rfl) ?_
 refine WL_nil ?_
 refine thn_nrm (_hK_4 _ _ ?_)
 clear _hK_4
 refine W_seq fun _K_11 _hK_11 => ?_
 refine W_seq fun _K_12 _hK_12 => ?_
 refine W_region ?_
 refine WL_step rfl rfl (r_move rfl) ?_
 refine WL_step rfl rfl (r_not rfl) ?_
 refine WL_nil ?_
 refine thn_nrm (_hK_12 _ _ ?_)
 clear _hK_12
 refine W_cond rfl (fun _h16 => ?_) (fun _h16 => ?_)
 ·have _kb_13 := _h16
  have _h16 := bt_n _h16
  refine W_seq fun _K_14 _hK_14 => ?_
  refine W_region ?_
  refine WL_step rfl rfl (r_build (parts := []) (cells := [(.slice none 0 0), (.int .i64 0), (.int .i64 0), (.slice none 0 0), (.bool false)]) zr37 pl37 rfl rfl) ?_
  refine WL_s rfl rfl ?_
  have _f_15 := (((_m2.ch0 _cw_7).ch0 _cw_8).ch _cw_9 (ne1 (by omega)))
  refine s_storeA (off := 0) 5 _f_15 sz37 rfl (us := [(.slice none 0 0), (.int .i64 0), (.int .i64 0), (.slice none 0 0), (.bool false)]) rfl rfl rfl rfl fun _w_16 _m_17 _cw_16 => ?_
  have _cw_16z := _cw_16.size
  have E := E.step _cw_16 (fun i hi => .inl (by have _h1 := mSg.1 hi; omega))
  replace _m_17 : Blk _w_16 _b2 37 [(.slice none 0 0), (.int .i64 0), (.int .i64 0), (.slice none 0 0), (.bool false)] := _m_17
  refine WL_step rfl rfl (r_assign rfl) ?_
  refine WL_nil ?_
  refine thn_nrm (_hK_14 _ _ ?_)
  clear _hK_14
  refine W_ret (thn_ret ?_)
  clear _hK_11
  have _o_18 : Ol ics 3 1 _w_16 (.slice none 0 0) ((bpE e).1.L) := by
    have hx := (Ol.nil (cs := ics) (e := 3) (k := 1) _w_16)
    first | (rw [bpE_y _h16 (by omega) _e5]; exact hx) | (rw [bpE_n (fun q => by rw [_h16] at q; exact Bool.false_ne_true q.1)]; exact hx) | (rw [bpE_n (fun q => by have _q2 := q.2; omega)]; exact hx)
  have _o_19 : Ol ics 3 1 _w_16 (.slice none 0 0) ((bpE e).1.F) := by
    have hx := (Ol.nil (cs := ics) (e := 3) (k := 1) _w_16)
    first | (rw [bpE_y _h16 (by omega) _e5]; exact hx) | (rw [bpE_n (fun q => by rw [_h16] at q; exact Bool.false_ne_true q.1)]; exact hx) | (rw [bpE_n (fun q => by have _q2 := q.2; omega)]; exact hx)
  exact ret_intro [_, _] (resOf_loadA _m_17 rfl agg37 sz37 ⟨rfl, trivial⟩) ⟨(.slice none 0 0), (.slice none 0 0), ((((congrArg (fun zq => (Value.tuple #[.agg #[(.slice none 0 0), .int .i64 zq, .int .i64 0, (.slice none 0 0), .bool false], .bool false])) (by first | (rw [bpE_y _h16 (by omega) _e5]; done) | (rw [bpE_n (fun q => by rw [_h16] at q; exact Bool.false_ne_true q.1)]; done) | (rw [bpE_n (fun q => by have _q2 := q.2; omega)]; done))).trans (congrArg (fun zq => (Value.tuple #[.agg #[(.slice none 0 0), .int .i64 ((bpE e).1.f), .int .i64 zq, (.slice none 0 0), .bool false], .bool false])) (by first | (rw [bpE_y _h16 (by omega) _e5]; done) | (rw [bpE_n (fun q => by rw [_h16] at q; exact Bool.false_ne_true q.1)]; done) | (rw [bpE_n (fun q => by have _q2 := q.2; omega)]; done)))).trans (congrArg (fun zq => (Value.tuple #[.agg #[(.slice none 0 0), .int .i64 ((bpE e).1.f), .int .i64 ((bpE e).1.l), (.slice none 0 0), .bool zq], .bool false])) (by first | (rw [bpE_y _h16 (by omega) _e5]; done) | (rw [bpE_n (fun q => by rw [_h16] at q; exact Bool.false_ne_true q.1)]; done) | (rw [bpE_n (fun q => by have _q2 := q.2; omega)]; done)))).trans (congrArg (fun zq => (Value.tuple #[.agg #[(.slice none 0 0), .int .i64 ((bpE e).1.f), .int .i64 ((bpE e).1.l), (.slice none 0 0), .bool ((bpE e).1.n)], .bool zq])) (by first | (rw [bpE_y _h16 (by omega) _e5]; done) | (rw [bpE_n (fun q => by rw [_h16] at q; exact Bool.false_ne_true q.1)]; done) | (rw [bpE_n (fun q => by have _q2 := q.2; omega)]; done)))), _o_18, (Lo.nil _), _o_19, (Lo.nil _), (fun g hm hg => by cases hm), E⟩
 ·have _kb_13 := _h16
  have _h16 := bf_n _h16
  obtain ⟨_t5, _e5, ok5, f5, _n5⟩ := expE_tree _h16
  refine W_skip ?_
  refine thn_nrm (_hK_11 _ _ ?_)
  clear _hK_11
  refine W_seq fun _K_20 _hK_20 => ?_
  refine W_region ?_
  refine WL_step rfl rfl (r_assign rfl) ?_
  refine WL_nil ?_
  refine thn_nrm (_hK_20 _ _ ?_)
  clear _hK_20
  refine W_seq fun _K_21 _hK_21 => ?_
  refine W_seq fun _K_22 _hK_22 => ?_
  refine W_region ?_
  refine WL_step rfl rfl (r_assign rfl) ?_
  refine WL_nil ?_
  refine thn_nrm (_hK_22 _ _ ?_)
  clear _hK_22
  refine W_block ?_
  have _f_23 := (((_m2.ch0 _cw_7).ch0 _cw_8).ch _cw_9 (ne1 (by omega)))
  have _f_24 := ((_q_u12_0x0.ch0 _cw_8).ch _cw_9 (fun g hg hm => by have _h0 := mSg.1 hm; have _h2 := _lo_u12_0x0 _ hg; have _h3 := _hiu12_0x0 _ hg; omega))
  refine W_loop (σ := Nat × Int) (fun ⟨k, m⟩ => [(2, (.pointer (some ⟨_b2, 0, none⟩))), (3, (.bool false)), (4, (.pointer (some ⟨_b4, 0, none⟩))), (6, (.int .i64 m)), (7, (.int .i64 ((k : Nat) : Int)))]) (fun ⟨k, m⟩ wx => Ch [] w wx ∧ _w_9.heap.size ≤ wx.heap.size ∧ (k ≤ (expE e).1.length) ∧ (m = cntL ((expE e).1.take k)) ∧ Blk wx _b2 37 [(.slice none 0 0), (.int .i64 0), (.int .i64 0), (.slice none 0 0), (.bool false)] ∧ Blk wx _b4 30 [(.slice Au12_0x0 ((expE e).1).length Cu12_0x0)] ∧ Ol Token.cs 55 4 wx (.slice Au12_0x0 ((expE e).1).length Cu12_0x0) ((expE e).1)) (fun ⟨k, m⟩ => (expE e).1.length - k) (0, 0) (Sub.cons rfl (Sub.cons rfl (Sub.cons rfl (Sub.cons rfl (Sub.cons rfl (Sub.nil _)))))) ⟨E, (Nat.le_refl _), (by omega), (by simp [cntL]), _f_23, _m_10, _f_24⟩ ?_
  rintro ⟨k, m⟩ _wr_25 ⟨E, _zz0, _hk, hm, _F0_0, _F0_1, _F0_2⟩
  have _E0h := E
  have _E0hz := _E0h.size
  have _F0_0z := _F0_0.lt
  have _F0_1z := _F0_1.lt
  have _z9 := cntL_le ((expE e).1.take k)
  have _z8 : ((expE e).1.take k).length ≤ k := List.length_take_le ..
  refine W_seq fun _K_26 _hK_26 => ?_
  refine W_seq fun _K_27 _hK_27 => ?_
  refine W_region ?_
  refine WL_step rfl rfl (r_move rfl) ?_
  refine WL_step rfl rfl (r_fieldAddr fa30_0 rfl) ?_
  refine WL_step rfl rfl (r_loadAt _F0_1.at_ agg28 rfl rfl) ?_
  refine WL_step rfl rfl (r_len (by rw [el28]; rfl) rfl) ?_
  refine WL_step rfl rfl (r_lss rfl rfl) ?_
  refine WL_nil ?_
  refine thn_nrm (_hK_27 _ _ ?_)
  clear _hK_27
  refine W_cond rfl (fun _h22 => ?_) (fun _h22 => ?_)
  ·have _kb_28 := _h22
   have _h22 := bt_d _h22
   refine W_skip ?_
   refine thn_nrm (_hK_26 _ _ ?_)
   clear _hK_26
   refine W_seq fun _K_29 _hK_29 => ?_
   refine W_block ?_
   refine W_seq fun _K_30 _hK_30 => ?_
   refine W_region ?_
   refine WL_step rfl rfl (r_fieldAddr fa30_0 rfl) ?_
   refine WL_step rfl rfl (r_loadAt _F0_1.at_ agg28 rfl rfl) ?_
   refine WL_step rfl rfl (r_move rfl) ?_
   refine WL_s rfl rfl ?_
   refine (s_index _F0_2.ls Token.len el28 sz55 rfl rfl rfl (by omega) fun _p28 _y28 _hy28 _a28 => ?_)
   refine WL_step rfl rfl (r_fieldAddr fa55_0 rfl) ?_
   refine WL_step rfl rfl (r_loadAt _a28 agg3 rfl rfl) ?_
   refine WL_step rfl rfl (r_eql rfl rfl) ?_
   refine WL_nil ?_
   refine thn_nrm (_hK_30 _ _ ?_)
   clear _hK_30
   refine W_cond rfl (fun _h31 => ?_) (fun _h31 => ?_)
   ·have _kb_31 := _h31
    have _h31 := bt_d _h31
    refine W_region ?_
    refine WL_step rfl rfl (r_move rfl) ?_
    refine WL_step rfl rfl (r_add (by omega) rfl rfl) ?_
    refine WL_step rfl rfl (r_assign rfl) ?_
    refine WL_nil ?_
    refine inB_nrm ?_
    refine thn_nrm (_hK_29 _ _ ?_)
    clear _hK_29
    refine W_region ?_
    refine WL_step rfl rfl (r_move rfl) ?_
    refine WL_step rfl rfl (r_add (by omega) rfl rfl) ?_
    refine WL_step rfl rfl (r_assign rfl) ?_
    refine WL_nil ?_
    exact thn_nrm (Exists.intro ((k + 1), (m + 1)) ⟨⟨E, (by omega), (by omega), (by first | (rw [cntL_y _hy28 _h31]; omega) | (rw [cntL_n _hy28 _h31]; omega)), _F0_0, _F0_1, _F0_2⟩, Sub.cons rfl (Sub.cons rfl (Sub.cons rfl (Sub.cons rfl (Sub.cons rfl (Sub.nil _))))), (by first | omega | (dsimp only; omega))⟩)
   ·have _kb_31 := _h31
    have _h31 := bf_d _h31
    refine W_skip ?_
    refine inB_nrm ?_
    refine thn_nrm (_hK_29 _ _ ?_)
    clear _hK_29
    refine W_region ?_
    refine WL_step rfl rfl (r_move rfl) ?_
    refine WL_step rfl rfl (r_add (by omega) rfl rfl) ?_
    refine WL_step rfl rfl (r_assign rfl) ?_
    refine WL_nil ?_
    exact thn_nrm (Exists.intro ((k + 1), m) ⟨⟨E, (by omega), (by omega), (by first | (rw [cntL_y _hy28 _h31]; omega) | (rw [cntL_n _hy28 _h31]; omega)), _F0_0, _F0_1, _F0_2⟩, Sub.cons rfl (Sub.cons rfl (Sub.cons rfl (Sub.cons rfl (Sub.cons rfl (Sub.nil _))))), (by first | omega | (dsimp only; omega))⟩)
  ·have _kb_28 := _h22
   have _h22 := bf_d _h22
   have _y9 : cntL ((expE e).1.take k) = cntL (expE e).1 := by rw [List.take_of_length_le (by omega)]
   refine W_exit (thn_exit (thn_exit (inB_hit ?_)))
   refine thn_nrm (_hK_21 _ _ ?_)
   clear _hK_21
   refine W_seq fun _K_32 _hK_32 => ?_
   refine W_seq fun _K_33 _hK_33 => ?_
   refine W_region ?_
   refine WL_step rfl rfl (r_move rfl) ?_
   refine WL_step rfl rfl (r_gtr rfl rfl) ?_
   refine WL_nil ?_
   refine thn_nrm (_hK_33 _ _ ?_)
   clear _hK_33
   refine W_cond rfl (fun _h35 => ?_) (fun _h35 => ?_)
   ·have _kb_34 := _h35
    have _h35 := bt_d _h35
    refine W_seq fun _K_35 _hK_35 => ?_
    refine W_region ?_
    refine WL_step rfl rfl (r_build (parts := []) (cells := [(.slice none 0 0), (.int .i64 0), (.int .i64 0), (.slice none 0 0), (.bool false)]) zr37 pl37 rfl rfl) ?_
    refine WL_s rfl rfl ?_
    refine s_storeA (off := 0) 5 _F0_0 sz37 rfl (us := [(.slice none 0 0), (.int .i64 0), (.int .i64 0), (.slice none 0 0), (.bool false)]) rfl rfl rfl rfl fun _w_36 _m_37 _cw_36 => ?_
    have _cw_36z := _cw_36.size
    have E := E.step _cw_36 (fun i hi => .inl (by have _h1 := mSg.1 hi; omega))
    replace _m_37 : Blk _w_36 _b2 37 [(.slice none 0 0), (.int .i64 0), (.int .i64 0), (.slice none 0 0), (.bool false)] := _m_37
    refine WL_step rfl rfl (r_assign rfl) ?_
    refine WL_nil ?_
    refine thn_nrm (_hK_35 _ _ ?_)
    clear _hK_35
    refine W_ret (thn_ret ?_)
    clear _hK_26 _hK_32
    have _o_38 : Ol ics 3 1 _w_36 (.slice none 0 0) ((bpE e).1.L) := by
      have hx := (Ol.nil (cs := ics) (e := 3) (k := 1) _w_36)
      first | (rw [bpE_y _h16 (by omega) _e5]; exact hx) | (rw [bpE_n (fun q => by rw [_h16] at q; exact Bool.false_ne_true q.1)]; exact hx) | (rw [bpE_n (fun q => by have _q2 := q.2; omega)]; exact hx)
    have _o_39 : Ol ics 3 1 _w_36 (.slice none 0 0) ((bpE e).1.F) := by
      have hx := (Ol.nil (cs := ics) (e := 3) (k := 1) _w_36)
      first | (rw [bpE_y _h16 (by omega) _e5]; exact hx) | (rw [bpE_n (fun q => by rw [_h16] at q; exact Bool.false_ne_true q.1)]; exact hx) | (rw [bpE_n (fun q => by have _q2 := q.2; omega)]; exact hx)
    exact ret_intro [_, _] (resOf_loadA _m_37 rfl agg37 sz37 ⟨rfl, trivial⟩) ⟨(.slice none 0 0), (.slice none 0 0), ((((congrArg (fun zq => (Value.tuple #[.agg #[(.slice none 0 0), .int .i64 zq, .int .i64 0, (.slice none 0 0), .bool false], .bool false])) (by first | (rw [bpE_y _h16 (by omega) _e5]; done) | (rw [bpE_n (fun q => by rw [_h16] at q; exact Bool.false_ne_true q.1)]; done) | (rw [bpE_n (fun q => by have _q2 := q.2; omega)]; done))).trans (congrArg (fun zq => (Value.tuple #[.agg #[(.slice none 0 0), .int .i64 ((bpE e).1.f), .int .i64 zq, (.slice none 0 0), .bool false], .bool false])) (by first | (rw [bpE_y _h16 (by omega) _e5]; done) | (rw [bpE_n (fun q => by rw [_h16] at q; exact Bool.false_ne_true q.1)]; done) | (rw [bpE_n (fun q => by have _q2 := q.2; omega)]; done)))).trans (congrArg (fun zq => (Value.tuple #[.agg #[(.slice none 0 0), .int .i64 ((bpE e).1.f), .int .i64 ((bpE e).1.l), (.slice none 0 0), .bool zq], .bool false])) (by first | (rw [bpE_y _h16 (by omega) _e5]; done) | (rw [bpE_n (fun q => by rw [_h16] at q; exact Bool.false_ne_true q.1)]; done) | (rw [bpE_n (fun q => by have _q2 := q.2; omega)]; done)))).trans (congrArg (fun zq => (Value.tuple #[.agg #[(.slice none 0 0), .int .i64 ((bpE e).1.f), .int .i64 ((bpE e).1.l), (.slice none 0 0), .bool ((bpE e).1.n)], .bool zq])) (by first | (rw [bpE_y _h16 (by omega) _e5]; done) | (rw [bpE_n (fun q => by rw [_h16] at q; exact Bool.false_ne_true q.1)]; done) | (rw [bpE_n (fun q => by have _q2 := q.2; omega)]; done)))), _o_38, (Lo.nil _), _o_39, (Lo.nil _), (fun g hm hg => by cases hm), E⟩
   ·have _kb_34 := _h35
    have _h35 := bf_d _h35
    refine W_skip ?_
    refine thn_nrm (_hK_32 _ _ ?_)
    clear _hK_32
    refine W_seq fun _K_40 _hK_40 => ?_
    refine W_region ?_
    refine WL_step rfl rfl (r_build (parts := []) (cells := [(.slice none 0 0), (.int .i64 0), (.int .i64 0), (.slice none 0 0), (.bool false)]) zr37 pl37 rfl rfl) ?_
    refine WL_s rfl rfl ?_
    refine s_alloc zr37 fun _b8 _w_41 _m8 _cw_41 _e8 => ?_
    have _cw_41z := _cw_41.size
    have E := E.trans _cw_41
    have _z8 := _m8.lt
    replace _m8 : Blk _w_41 _b8 37 [(.slice none 0 0), (.int .i64 0), (.int .i64 0), (.slice none 0 0), (.bool false)] := _m8
    refine WL_s rfl rfl ?_
    refine s_storeA (off := 0) 5 _m8 sz37 rfl (us := [(.slice none 0 0), (.int .i64 0), (.int .i64 0), (.slice none 0 0), (.bool false)]) rfl rfl rfl rfl fun _w_42 _m_43 _cw_42 => ?_
    have _cw_42z := _cw_42.size
    have E := E.step _cw_42 (fun i hi => .inl (by have _h1 := mSg.1 hi; omega))
    replace _m_43 : Blk _w_42 _b8 37 [(.slice none 0 0), (.int .i64 0), (.int .i64 0), (.slice none 0 0), (.bool false)] := _m_43
    refine WL_nil ?_
    refine thn_nrm (_hK_40 _ _ ?_)
    clear _hK_40
    refine W_seq fun _K_44 _hK_44 => ?_
    refine W_region ?_
    refine WL_step rfl rfl (r_fieldAddr fa30_0 rfl) ?_
    have _f_45 := ((_F0_1.ch0 _cw_41).ch _cw_42 (ne1 (by omega)))
    refine WL_step rfl rfl (r_loadAt _f_45.at_ agg28 rfl rfl) ?_
    refine WL_s rfl rfl ?_
    have _f_46 := ((_F0_2.ch0 _cw_41).ch _cw_42 (fun g hg hm => by have _h0 := mSg.1 hm; have _h2 := _lo_u12_0x0 _ hg; have _h3 := _hiu12_0x0 _ hg; omega))
    refine Step.call (r_call (xs := [.tmp 8, .tmp 39]) fk29 rfl) (c_spec_l10Build _m_43 (by omega) (Ol.nil (cs := ics) (e := 3) (k := 1) _w_42) (fun hm => by cases hm) (Lo.nil _) (Ol.nil (cs := ics) (e := 3) (k := 1) _w_42) (fun hm => by cases hm) (Lo.nil _) (fun g hm hg => by cases hm) (Ol.lsB _f_46 _hiu12_0x0) _t5 ok5 f5 (by omega) ⟨by simp <;> omega, by simp <;> omega⟩ (L_p := _b8)) fun _v40 _w_47 _q40 => ?_
    obtain ⟨_z40_0, _z40_3, rfl, _m40, _qz40_0, _inz40_0, _nbz40_0, _qz40_3, _inz40_3, _nbz40_3, _djz40_0z40_3, _cw_47⟩ := _q40
    have _cw_47z := _cw_47.size
    have E := E.step _cw_47 (fun i hm => .inl (by rcases List.mem_cons.1 hm with _h0 | hm; (omega); (rcases List.mem_append.1 hm with hm | hm; (cases hm); (cases hm))))
    obtain ⟨Az40_0, Cz40_0, ez40_0⟩ := _qz40_0.val
    subst ez40_0
    have lz40_0 := _qz40_0.len
    have hiz40_0 := _qz40_0.lt
    have _loz40_0 : Lo _w_42.heap.size (.slice Az40_0 ((bpT _t5 [] []).L).length Cz40_0) := loOld _inz40_0 _nbz40_0 (by omega) (all2 (fun g hm => by cases hm) (fun g hm => by cases hm))
    obtain ⟨Az40_3, Cz40_3, ez40_3⟩ := _qz40_3.val
    subst ez40_3
    have lz40_3 := _qz40_3.len
    have hiz40_3 := _qz40_3.lt
    have _loz40_3 : Lo _w_42.heap.size (.slice Az40_3 ((bpT _t5 [] []).F).length Cz40_3) := loOld _inz40_3 _nbz40_3 (by omega) (all2 (fun g hm => by cases hm) (fun g hm => by cases hm))
    have nQ40_0_2 := nbOld _inz40_0 _nbz40_0 (show _b2 < _ by omega) (nin2 (fun hm => by cases hm) (fun hm => by cases hm))
    have nQ40_0_4 := nbOld _inz40_0 _nbz40_0 (show _b4 < _ by omega) (nin2 (fun hm => by cases hm) (fun hm => by cases hm))
    have nQ40_3_2 := nbOld _inz40_3 _nbz40_3 (show _b2 < _ by omega) (nin2 (fun hm => by cases hm) (fun hm => by cases hm))
    have nQ40_3_4 := nbOld _inz40_3 _nbz40_3 (show _b4 < _ by omega) (nin2 (fun hm => by cases hm) (fun hm => by cases hm))
    replace _m40 : Blk _w_47 _b8 37 [(.slice Az40_0 ((bpT _t5 [] []).L).length Cz40_0), (.int .i64 0), (.int .i64 0), (.slice Az40_3 ((bpT _t5 [] []).F).length Cz40_3), (.bool false)] := _m40
    refine WL_s rfl rfl ?_
    refine s_alloc zr57 fun _b9 _w_48 _m9 _cw_48 _e9 => ?_
    have _cw_48z := _cw_48.size
    have E := E.trans _cw_48
    have _z9 := _m9.lt
    replace _m9 : Blk _w_48 _b9 57 [(.bool false), (.int .i64 0), (.int .i64 0)] := _m9
    refine WL_s rfl rfl ?_
    refine s_storeA (off := 0) 3 _m9 sz57 rfl (us := [(.bool ((bpT _t5 [] []).n)), (.int .i64 ((bpT _t5 [] []).f)), (.int .i64 ((bpT _t5 [] []).l))]) rfl rfl rfl rfl fun _w_49 _m_50 _cw_49 => ?_
    have _cw_49z := _cw_49.size
    have E := E.step _cw_49 (fun i hi => .inl (by have _h1 := mSg.1 hi; omega))
    replace _m_50 : Blk _w_49 _b9 57 [(.bool ((bpT _t5 [] []).n)), (.int .i64 ((bpT _t5 [] []).f)), (.int .i64 ((bpT _t5 [] []).l))] := _m_50
    refine WL_nil ?_
    refine thn_nrm (_hK_44 _ _ ?_)
    clear _hK_44
    refine W_seq fun _K_51 _hK_51 => ?_
    refine W_region ?_
    refine WL_step rfl rfl (r_fieldAddr fa57_1 rfl) ?_
    refine WL_step rfl rfl (r_loadAt _m_50.at_ agg3 rfl rfl) ?_
    refine WL_step rfl rfl (r_fieldAddr fa37_1 rfl) ?_
    refine WL_s rfl rfl ?_
    have _f_52 := ((_m40.ch0 _cw_48).ch _cw_49 (ne1 (by omega)))
    refine s_store1 (off := 1) _f_52 sz3 rfl rfl rfl rfl fun _w_53 _m_54 _cw_53 => ?_
    have _cw_53z := _cw_53.size
    have E := E.step _cw_53 (fun i hi => .inl (by have _h1 := mSg.1 hi; omega))
    replace _m_54 : Blk _w_53 _b8 37 [(.slice Az40_0 ((bpT _t5 [] []).L).length Cz40_0), (.int .i64 ((bpT _t5 [] []).f)), (.int .i64 0), (.slice Az40_3 ((bpT _t5 [] []).F).length Cz40_3), (.bool false)] := _m_54
    refine WL_nil ?_
    refine thn_nrm (_hK_51 _ _ ?_)
    clear _hK_51
    refine W_seq fun _K_55 _hK_55 => ?_
    refine W_region ?_
    refine WL_step rfl rfl (r_fieldAddr fa57_2 rfl) ?_
    have _f_56 := (_m_50.ch _cw_53 (ne1 (by omega)))
    refine WL_step rfl rfl (r_loadAt _f_56.at_ agg3 rfl rfl) ?_
    refine WL_step rfl rfl (r_fieldAddr fa37_2 rfl) ?_
    refine WL_s rfl rfl ?_
    refine s_store1 (off := 2) _m_54 sz3 rfl rfl rfl rfl fun _w_57 _m_58 _cw_57 => ?_
    have _cw_57z := _cw_57.size
    have E := E.step _cw_57 (fun i hi => .inl (by have _h1 := mSg.1 hi; omega))
    replace _m_58 : Blk _w_57 _b8 37 [(.slice Az40_0 ((bpT _t5 [] []).L).length Cz40_0), (.int .i64 ((bpT _t5 [] []).f)), (.int .i64 ((bpT _t5 [] []).l)), (.slice Az40_3 ((bpT _t5 [] []).F).length Cz40_3), (.bool false)] := _m_58
    refine WL_nil ?_
    refine thn_nrm (_hK_55 _ _ ?_)
    clear _hK_55
    refine W_seq fun _K_59 _hK_59 => ?_
    refine W_region ?_
    refine WL_step rfl rfl (r_fieldAddr fa57_0 rfl) ?_
    have _f_60 := (_f_56.ch _cw_57 (ne1 (by omega)))
    refine WL_step rfl rfl (r_loadAt _f_60.at_ agg4 rfl rfl) ?_
    refine WL_step rfl rfl (r_fieldAddr fa37_4 rfl) ?_
    refine WL_s rfl rfl ?_
    refine s_store1 (off := 4) _m_58 sz4 rfl rfl rfl rfl fun _w_61 _m_62 _cw_61 => ?_
    have _cw_61z := _cw_61.size
    have E := E.step _cw_61 (fun i hi => .inl (by have _h1 := mSg.1 hi; omega))
    replace _m_62 : Blk _w_61 _b8 37 [(.slice Az40_0 ((bpT _t5 [] []).L).length Cz40_0), (.int .i64 ((bpT _t5 [] []).f)), (.int .i64 ((bpT _t5 [] []).l)), (.slice Az40_3 ((bpT _t5 [] []).F).length Cz40_3), (.bool ((bpT _t5 [] []).n))] := _m_62
    refine WL_nil ?_
    refine thn_nrm (_hK_59 _ _ ?_)
    clear _hK_59
    refine W_seq fun _K_63 _hK_63 => ?_
    refine W_region ?_
    refine WL_step rfl rfl (r_loadAtA0 _m_62.at_ agg37 sz37 rfl) ?_
    refine WL_s rfl rfl ?_
    have _f_64 := ((((((((_F0_0.ch0 _cw_41).ch _cw_42 (ne1 (by omega))).ch _cw_47 (fun hm => by rcases List.mem_cons.1 hm with _h0 | hm; (omega); (rcases List.mem_append.1 hm with hm | hm; (cases hm); (cases hm)))).ch0 _cw_48).ch _cw_49 (ne1 (by omega))).ch _cw_53 (ne1 (by omega))).ch _cw_57 (ne1 (by omega))).ch _cw_61 (ne1 (by omega)))
    refine s_storeA (off := 0) 5 _f_64 sz37 rfl (us := [(.slice Az40_0 ((bpT _t5 [] []).L).length Cz40_0), (.int .i64 ((bpT _t5 [] []).f)), (.int .i64 ((bpT _t5 [] []).l)), (.slice Az40_3 ((bpT _t5 [] []).F).length Cz40_3), (.bool ((bpT _t5 [] []).n))]) rfl rfl rfl rfl fun _w_65 _m_66 _cw_65 => ?_
    have _cw_65z := _cw_65.size
    have E := E.step _cw_65 (fun i hi => .inl (by have _h1 := mSg.1 hi; omega))
    replace _m_66 : Blk _w_65 _b2 37 [(.slice Az40_0 ((bpT _t5 [] []).L).length Cz40_0), (.int .i64 ((bpT _t5 [] []).f)), (.int .i64 ((bpT _t5 [] []).l)), (.slice Az40_3 ((bpT _t5 [] []).F).length Cz40_3), (.bool ((bpT _t5 [] []).n))] := _m_66
    refine WL_step rfl rfl (r_assign rfl) ?_
    refine WL_nil ?_
    refine thn_nrm (_hK_63 _ _ ?_)
    clear _hK_63
    refine W_ret ?_
    clear _hK_26
    have _f_67 := ((((((_qz40_0.ch0 _cw_48).ch _cw_49 (fun g hg hm => by have _h0 := mSg.1 hm; have _h2 := _loz40_0 _ hg; have _h3 := hiz40_0 _ hg; omega)).ch _cw_53 (fun g hg hm => by have _h0 := mSg.1 hm; exact _nbz40_0 (by first | exact hg | exact _h0 ▸ hg))).ch _cw_57 (fun g hg hm => by have _h0 := mSg.1 hm; exact _nbz40_0 (by first | exact hg | exact _h0 ▸ hg))).ch _cw_61 (fun g hg hm => by have _h0 := mSg.1 hm; exact _nbz40_0 (by first | exact hg | exact _h0 ▸ hg))).ch _cw_65 (fun g hg hm => by have _h0 := mSg.1 hm; exact nQ40_0_2 (by first | exact hg | exact _h0 ▸ hg)))
    have _o_68 : Ol ics 3 1 _w_65 (.slice Az40_0 ((bpT _t5 [] []).L).length Cz40_0) ((bpE e).1.L) := by
      have hx := _f_67
      first | (rw [bpE_y _h16 (by omega) _e5]; exact hx) | (rw [bpE_n (fun q => by rw [_h16] at q; exact Bool.false_ne_true q.1)]; exact hx) | (rw [bpE_n (fun q => by have _q2 := q.2; omega)]; exact hx)
    have _f_69 := ((((((_qz40_3.ch0 _cw_48).ch _cw_49 (fun g hg hm => by have _h0 := mSg.1 hm; have _h2 := _loz40_3 _ hg; have _h3 := hiz40_3 _ hg; omega)).ch _cw_53 (fun g hg hm => by have _h0 := mSg.1 hm; exact _nbz40_3 (by first | exact hg | exact _h0 ▸ hg))).ch _cw_57 (fun g hg hm => by have _h0 := mSg.1 hm; exact _nbz40_3 (by first | exact hg | exact _h0 ▸ hg))).ch _cw_61 (fun g hg hm => by have _h0 := mSg.1 hm; exact _nbz40_3 (by first | exact hg | exact _h0 ▸ hg))).ch _cw_65 (fun g hg hm => by have _h0 := mSg.1 hm; exact nQ40_3_2 (by first | exact hg | exact _h0 ▸ hg)))
    have _o_70 : Ol ics 3 1 _w_65 (.slice Az40_3 ((bpT _t5 [] []).F).length Cz40_3) ((bpE e).1.F) := by
      have hx := _f_69
      first | (rw [bpE_y _h16 (by omega) _e5]; exact hx) | (rw [bpE_n (fun q => by rw [_h16] at q; exact Bool.false_ne_true q.1)]; exact hx) | (rw [bpE_n (fun q => by have _q2 := q.2; omega)]; exact hx)
    exact ret_intro [_, _] (resOf_loadA _m_66 rfl agg37 sz37 ⟨rfl, trivial⟩) ⟨(.slice Az40_0 ((bpT _t5 [] []).L).length Cz40_0), (.slice Az40_3 ((bpT _t5 [] []).F).length Cz40_3), ((((congrArg (fun zq => (Value.tuple #[.agg #[(.slice Az40_0 ((bpT _t5 [] []).L).length Cz40_0), .int .i64 zq, .int .i64 ((bpT _t5 [] []).l), (.slice Az40_3 ((bpT _t5 [] []).F).length Cz40_3), .bool ((bpT _t5 [] []).n)], .bool true])) (by first | (rw [bpE_y _h16 (by omega) _e5]; done) | (rw [bpE_n (fun q => by rw [_h16] at q; exact Bool.false_ne_true q.1)]; done) | (rw [bpE_n (fun q => by have _q2 := q.2; omega)]; done))).trans (congrArg (fun zq => (Value.tuple #[.agg #[(.slice Az40_0 ((bpT _t5 [] []).L).length Cz40_0), .int .i64 ((bpE e).1.f), .int .i64 zq, (.slice Az40_3 ((bpT _t5 [] []).F).length Cz40_3), .bool ((bpT _t5 [] []).n)], .bool true])) (by first | (rw [bpE_y _h16 (by omega) _e5]; done) | (rw [bpE_n (fun q => by rw [_h16] at q; exact Bool.false_ne_true q.1)]; done) | (rw [bpE_n (fun q => by have _q2 := q.2; omega)]; done)))).trans (congrArg (fun zq => (Value.tuple #[.agg #[(.slice Az40_0 ((bpT _t5 [] []).L).length Cz40_0), .int .i64 ((bpE e).1.f), .int .i64 ((bpE e).1.l), (.slice Az40_3 ((bpT _t5 [] []).F).length Cz40_3), .bool zq], .bool true])) (by first | (rw [bpE_y _h16 (by omega) _e5]; done) | (rw [bpE_n (fun q => by rw [_h16] at q; exact Bool.false_ne_true q.1)]; done) | (rw [bpE_n (fun q => by have _q2 := q.2; omega)]; done)))).trans (congrArg (fun zq => (Value.tuple #[.agg #[(.slice Az40_0 ((bpT _t5 [] []).L).length Cz40_0), .int .i64 ((bpE e).1.f), .int .i64 ((bpE e).1.l), (.slice Az40_3 ((bpT _t5 [] []).F).length Cz40_3), .bool ((bpE e).1.n)], .bool zq])) (by first | (rw [bpE_y _h16 (by omega) _e5]; done) | (rw [bpE_n (fun q => by rw [_h16] at q; exact Bool.false_ne_true q.1)]; done) | (rw [bpE_n (fun q => by have _q2 := q.2; omega)]; done)))), _o_68, (Lo.down _loz40_0 (by omega)), _o_70, (Lo.down _loz40_3 (by omega)), _djz40_0z40_3, E⟩

end Go.Proofs.Ythcoliemlekojaa
