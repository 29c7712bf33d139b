/- Walks of functions that FnExactDerivativeWord reaches: what each returns, and that it leaves the memory that was there alone. -/
import Derived.Test.YtjjmjmbihonicaaKF
import Derived.Test.YtjjmjmbihonicaaKG
import Derived.Test.YtjjmjmbihonicaaKH
import Derived.Test.YtjjmjmbihonicaaKI
import Derived.Test.YtjjmjmbihonicaaKJ
import Derived.Test.YtjjmjmbihonicaaKM
import Derived.Test.YtjjmjmbihonicaaKN
import Derived.Test.YtjjmjmbihonicaaKO
import Derived.Test.YtjjmjmbihonicaaKP
import Derived.Test.YtjjmjmbihonicaaKQ
import Derived.Test.YtjjmjmbihonicaaKR
import Derived.Test.YtjjmjmbihonicaaKS
import Derived.Test.YtjjmjmbihonicaaKT
import Derived.Test.YtjjmjmbihonicaaKU
import Derived.Test.YtjjmjmbihonicaaKV
import Derived.Test.YtjjmjmbihonicaaKX
import Derived.Test.YtjjmjmbihonicaaKY
import Derived.Test.YtjjmjmbihonicaaWExactDerivativeWord
import Derived.Test.YtjjmjmbihonicaaWExactDerivativeWordb
import Derived.Test.YtjjmjmbihonicaaProg
namespace Go.Proofs.Ytjjmjmbihonicaa
open Go.KLib
set_option maxRecDepth 20000
set_option linter.unusedVariables false
set_option linter.unusedSimpArgs false
namespace TExactDerivativeWordc
theorem agg24 : aggB Try.prog 24 = some true := by kernel_rfl
theorem agg27 : aggB Try.prog 27 = some false := by kernel_rfl
theorem agg29 : aggB Try.prog 29 = some true := by kernel_rfl
theorem agg3 : aggB Try.prog 3 = some false := by kernel_rfl
theorem agg57 : aggB Try.prog 57 = some true := by kernel_rfl
theorem el27 : elB Try.prog 27 = some 57 := by kernel_rfl
theorem el40 : elB Try.prog 40 = some 3 := by kernel_rfl
theorem fa29_0 : faB Try.prog 29 0 = some 0 := by kernel_rfl
theorem fa57_0 : faB Try.prog 57 0 = some 0 := by kernel_rfl
theorem fa57_1 : faB Try.prog 57 1 = some 1 := by kernel_rfl
theorem fa57_2 : faB Try.prog 57 2 = some 2 := by kernel_rfl
theorem fa57_3 : faB Try.prog 57 3 = some 3 := by kernel_rfl
theorem fk112 : fnB Try.prog 112 = true := by kernel_rfl
theorem fk113 : fnB Try.prog 113 = true := by kernel_rfl
theorem fk14 : fnB Try.prog 14 = true := by kernel_rfl
theorem fk15 : fnB Try.prog 15 = true := by kernel_rfl
theorem fk16 : fnB Try.prog 16 = true := by kernel_rfl
theorem fk18 : fnB Try.prog 18 = true := by kernel_rfl
theorem fk25 : fnB Try.prog 25 = true := by kernel_rfl
theorem fk26 : fnB Try.prog 26 = true := by kernel_rfl
theorem fk29 : fnB Try.prog 29 = true := by kernel_rfl
theorem fk31 : fnB Try.prog 31 = true := by kernel_rfl
theorem fk32 : fnB Try.prog 32 = true := by kernel_rfl
theorem fk33 : fnB Try.prog 33 = true := by kernel_rfl
theorem fk34 : fnB Try.prog 34 = true := by kernel_rfl
theorem fk35 : fnB Try.prog 35 = true := by kernel_rfl
theorem fk49 : fnB Try.prog 49 = true := by kernel_rfl
theorem fk53 : fnB Try.prog 53 = true := by kernel_rfl
theorem fk55 : fnB Try.prog 55 = true := by kernel_rfl
theorem fk56 : fnB Try.prog 56 = true := by kernel_rfl
theorem fk62 : fnB Try.prog 62 = true := by kernel_rfl
theorem fk63 : fnB Try.prog 63 = true := by kernel_rfl
theorem fk88 : fnB Try.prog 88 = true := by kernel_rfl
theorem fk89 : fnB Try.prog 89 = true := by kernel_rfl
theorem fk90 : fnB Try.prog 90 = true := by kernel_rfl
theorem fk91 : fnB Try.prog 91 = true := by kernel_rfl
theorem fk97 : fnB Try.prog 97 = true := by kernel_rfl
theorem mixed : Try.prog.follows .mixedOrders = true := by kernel_rfl
theorem pl29 : placesB Try.prog 29 = some [(0, 1)] := by kernel_rfl
theorem pl57 : placesB Try.prog 57 = some [(0, 1), (1, 1), (2, 1), (3, 1)] := by kernel_rfl
theorem sz24 : sizeB Try.prog 24 = some 1 := by kernel_rfl
theorem sz29 : sizeB Try.prog 29 = some 1 := by kernel_rfl
theorem sz3 : sizeB Try.prog 3 = some 1 := by kernel_rfl
theorem sz57 : sizeB Try.prog 57 = some 4 := by kernel_rfl
theorem un4 : Try.prog.underlying 4 = some (.bool) := by kernel_rfl
theorem zr29 : zeroB Try.prog 29 = some (.agg #[.slice none 0 0]) := by kernel_rfl
theorem zr57 : zeroB Try.prog 57 = some (.agg #[.int .i64 0, .int .i64 0, .int .i64 0, .int .i64 0]) := by kernel_rfl
end TExactDerivativeWordc
open TExactDerivativeWordc

/-- spec.UnionExpr -/
theorem c_spec_UnionExpr {w : World} {LL_a _B_a : Nat} {_v_a : Value} {a : List Token} (_h_a : Ls Token.cs 4 w LL_a _B_a _v_a a) {LL_b _B_b : Nat} {_v_b : Value} {b : List Token} (_h_b : Ls Token.cs 4 w LL_b _B_b _v_b b) (hb : a.length + b.length ≤ 1048576) :
    Ctr Try.prog 90 #[(.agg #[_v_a]), (.agg #[_v_b])] w (fun v w' => ∃ u, v = .agg #[u] ∧ Ol Token.cs 57 4 w' u (uniE a b) ∧ Lo w.heap.size u ∧ Ch [] w w') := by
  obtain ⟨_A_a, _C_a, _e1_a⟩ := _h_a.val
  subst _e1_a
  have _l_a := _h_a.len
  have _h_a := _h_a.here (by decide)
  obtain ⟨_A_b, _C_b, _e1_b⟩ := _h_b.val
  subst _e1_b
  have _l_b := _h_b.len
  have _h_b := _h_b.here (by decide)
  have E := Ch.refl [] w
  refine Ctr_of_W (N := 26) (vs0 := [(.agg #[(.slice _A_a a.length _C_a)]), (.agg #[(.slice _A_b b.length _C_b)])]) Try.func90 rfl rfl rfl ?_
  refine W_seq fun _K_1 _hK_1 => ?_
  refine W_region ?_
  refine WL_s rfl rfl ?_
  refine s_box rfl fun _b2 _w_2 _m2 _cw_2 _e2 => ?_
  have _cw_2z := _cw_2.size
  have E := E.trans _cw_2
  have _z2 := _m2.lt
  replace _m2 : Blk _w_2 _b2 29 [(.slice _A_a a.length _C_a)] := _m2
  refine WL_s rfl rfl ?_
  refine s_box rfl fun _b3 _w_3 _m3 _cw_3 _e3 => ?_
  have _cw_3z := _cw_3.size
  have E := E.trans _cw_3
  have _z3 := _m3.lt
  replace _m3 : Blk _w_3 _b3 29 [(.slice _A_b b.length _C_b)] := _m3
  refine WL_s rfl rfl ?_
  refine s_alloc zr29 fun _b4 _w_4 _m4 _cw_4 _e4 => ?_
  have _cw_4z := _cw_4.size
  have E := E.trans _cw_4
  have _z4 := _m4.lt
  replace _m4 : Blk _w_4 _b4 29 [(.slice none 0 0)] := _m4
  refine WL_nil ?_
  refine thn_nrm (_hK_1 _ _ ?_)
  clear _hK_1
  refine W_seq fun _K_5 _hK_5 => ?_
  refine W_block ?_
  refine W_seq fun _K_6 _hK_6 => ?_
  refine W_region ?_
  have _f_7 := ((_m2.ch0 _cw_3).ch0 _cw_4)
  refine WL_step rfl rfl (r_loadAtA0 _f_7.at_ agg29 sz29 rfl) ?_
  refine WL_s rfl rfl ?_
  have _f_8 := (((_h_a.ch0 _cw_2).ch0 _cw_3).ch0 _cw_4)
  refine Step.call (r_call (xs := [.tmp 6, .const (Go.Value.int Go.IntKind.i64 1)]) fk112 rfl) (c_spec_l8Is _f_8 _ ) fun _v7 _w_9 _q7 => ?_
  obtain ⟨rfl, _cw_9⟩ := _q7
  have _cw_9z := _cw_9.size
  have E := E.trans _cw_9
  refine WL_step rfl rfl (r_move rfl) ?_
  refine WL_split (d := 8) rfl (fun _h8 => ?_) (fun _h8 => ?_)
  · have _kb_10 := _h8
    refine WL_skip rfl rfl ?_
    refine WL_skip rfl rfl ?_
    refine WL_skip rfl rfl ?_
    refine WL_step rfl rfl (r_pickT rfl rfl) ?_
    refine WL_step rfl rfl (r_assign rfl) ?_
    refine WL_nil ?_
    refine thn_nrm (_hK_6 _ _ ?_)
    clear _hK_6
    refine W_condT rfl ?_
    refine W_seq fun _K_11 _hK_11 => ?_
    refine W_region ?_
    refine WL_step rfl rfl (r_fieldAddr fa29_0 rfl) ?_
    have _f_12 := ((_m3.ch0 _cw_4).ch0 _cw_9)
    refine WL_step rfl rfl (r_loadAt _f_12.at_ agg27 rfl rfl) ?_
    refine WL_s rfl rfl ?_
    have _f_13 := ((((_h_b.ch0 _cw_2).ch0 _cw_3).ch0 _cw_4).ch0 _cw_9)
    refine Step.call (r_call (xs := [.tmp 14]) fk55 rfl) (c_spec_l8Copy _f_13 (by omega)) fun _v15 _w_14 _q15 => ?_
    obtain ⟨_u15, rfl, _q15, _lo15, _cw_14⟩ := _q15
    have _cw_14z := _cw_14.size
    have E := E.trans _cw_14
    obtain ⟨_Au15, _Cu15, _eu15⟩ := _q15.val
    subst _eu15
    have _lu15 := _q15.len
    have _hiu15 := _q15.lt
    refine WL_s rfl rfl ?_
    have _f_15 := ((_m4.ch0 _cw_9).ch0 _cw_14)
    refine s_storeA (off := 0) 1 _f_15 sz29 rfl (us := [(.slice _Au15 (b).length _Cu15)]) rfl rfl rfl rfl fun _w_16 _m_17 _cw_16 => ?_
    have _cw_16z := _cw_16.size
    have E := E.step _cw_16 (fun i hi => .inl (by have _h1 := List.mem_singleton.1 hi; omega))
    replace _m_17 : Blk _w_16 _b4 29 [(.slice _Au15 (b).length _Cu15)] := _m_17
    refine WL_nil ?_
    refine thn_nrm (_hK_11 _ _ ?_)
    clear _hK_11
    refine W_ret (inB_ret (thn_ret ?_))
    clear _hK_5
    have _f_19 := (_q15.ch _cw_16 (fun g hg hm => by have _h0 := List.mem_singleton.1 hm; have _h2 := _lo15 _ hg; have _h3 := _hiu15 _ hg; omega))
    have _o_18 : Ol Token.cs 57 4 _w_16 (.slice _Au15 (b).length _Cu15) (uniE a b) := by
      have hx := _f_19
      (unfold uniE; simp_all)
    exact ret_intro [_] (resOf_loadA _m_17 rfl agg29 sz29 trivial) ⟨_, rfl, _o_18, Lo.down _lo15 (by omega), E⟩
  · have _kb_10 := _h8
    have _f_20 := (_f_7.ch0 _cw_9)
    refine WL_step rfl rfl (r_loadAtA0 _f_20.at_ agg29 sz29 rfl) ?_
    have _f_21 := ((_m3.ch0 _cw_4).ch0 _cw_9)
    refine WL_step rfl rfl (r_loadAtA0 _f_21.at_ agg29 sz29 rfl) ?_
    refine WL_s rfl rfl ?_
    have _f_22 := (_f_8.ch0 _cw_9)
    have _f_23 := ((((_h_b.ch0 _cw_2).ch0 _cw_3).ch0 _cw_4).ch0 _cw_9)
    refine Step.call (r_call (xs := [.tmp 9, .tmp 10]) fk113 rfl) (c_spec_EqualExprs _f_22 _f_23 ) fun _v11 _w_24 _q11 => ?_
    obtain ⟨rfl, _cw_24⟩ := _q11
    have _cw_24z := _cw_24.size
    have E := E.trans _cw_24
    refine WL_step rfl rfl (r_pickF rfl rfl) ?_
    refine WL_step rfl rfl (r_assign rfl) ?_
    refine WL_nil ?_
    refine thn_nrm (_hK_6 _ _ ?_)
    clear _hK_6
    refine W_cond rfl (fun _h5 => ?_) (fun _h5 => ?_)
    · have _kb_25 := _h5
      have _h5 := bt_d _h5
      refine W_seq fun _K_26 _hK_26 => ?_
      refine W_region ?_
      refine WL_step rfl rfl (r_fieldAddr fa29_0 rfl) ?_
      have _f_27 := (_f_21.ch0 _cw_24)
      refine WL_step rfl rfl (r_loadAt _f_27.at_ agg27 rfl rfl) ?_
      refine WL_s rfl rfl ?_
      have _f_28 := (_f_23.ch0 _cw_24)
      refine Step.call (r_call (xs := [.tmp 14]) fk55 rfl) (c_spec_l8Copy _f_28 (by omega)) fun _v15 _w_29 _q15 => ?_
      obtain ⟨_u15, rfl, _q15, _lo15, _cw_29⟩ := _q15
      have _cw_29z := _cw_29.size
      have E := E.trans _cw_29
      obtain ⟨_Au15, _Cu15, _eu15⟩ := _q15.val
      subst _eu15
      have _lu15 := _q15.len
      have _hiu15 := _q15.lt
      refine WL_s rfl rfl ?_
      have _f_30 := (((_m4.ch0 _cw_9).ch0 _cw_24).ch0 _cw_29)
      refine s_storeA (off := 0) 1 _f_30 sz29 rfl (us := [(.slice _Au15 (b).length _Cu15)]) rfl rfl rfl rfl fun _w_31 _m_32 _cw_31 => ?_
      have _cw_31z := _cw_31.size
      have E := E.step _cw_31 (fun i hi => .inl (by have _h1 := List.mem_singleton.1 hi; omega))
      replace _m_32 : Blk _w_31 _b4 29 [(.slice _Au15 (b).length _Cu15)] := _m_32
      refine WL_nil ?_
      refine thn_nrm (_hK_26 _ _ ?_)
      clear _hK_26
      refine W_ret (inB_ret (thn_ret ?_))
      clear _hK_5
      have _f_34 := (_q15.ch _cw_31 (fun g hg hm => by have _h0 := List.mem_singleton.1 hm; have _h2 := _lo15 _ hg; have _h3 := _hiu15 _ hg; omega))
      have _o_33 : Ol Token.cs 57 4 _w_31 (.slice _Au15 (b).length _Cu15) (uniE a b) := by
        have hx := _f_34
        (unfold uniE; simp_all)
      exact ret_intro [_] (resOf_loadA _m_32 rfl agg29 sz29 trivial) ⟨_, rfl, _o_33, Lo.down _lo15 (by omega), E⟩
    · have _kb_25 := _h5
      have _h5 := bf_d _h5
      refine W_seq fun _K_35 _hK_35 => ?_
      refine W_region ?_
      have _f_36 := (_f_21.ch0 _cw_24)
      refine WL_step rfl rfl (r_loadAtA0 _f_36.at_ agg29 sz29 rfl) ?_
      refine WL_s rfl rfl ?_
      have _f_37 := (_f_23.ch0 _cw_24)
      refine Step.call (r_call (xs := [.tmp 17, .const (Go.Value.int Go.IntKind.i64 1)]) fk112 rfl) (c_spec_l8Is _f_37 _ ) fun _v18 _w_38 _q18 => ?_
      obtain ⟨rfl, _cw_38⟩ := _q18
      have _cw_38z := _cw_38.size
      have E := E.trans _cw_38
      refine WL_step rfl rfl (r_assign rfl) ?_
      refine WL_nil ?_
      refine thn_nrm (_hK_35 _ _ ?_)
      clear _hK_35
      refine W_cond rfl (fun _h16 => ?_) (fun _h16 => ?_)
      · have _kb_39 := _h16
        refine W_seq fun _K_40 _hK_40 => ?_
        refine W_region ?_
        refine WL_step rfl rfl (r_fieldAddr fa29_0 rfl) ?_
        have _f_41 := ((_f_20.ch0 _cw_24).ch0 _cw_38)
        refine WL_step rfl rfl (r_loadAt _f_41.at_ agg27 rfl rfl) ?_
        refine WL_s rfl rfl ?_
        have _f_42 := ((_f_22.ch0 _cw_24).ch0 _cw_38)
        refine Step.call (r_call (xs := [.tmp 20]) fk55 rfl) (c_spec_l8Copy _f_42 (by omega)) fun _v21 _w_43 _q21 => ?_
        obtain ⟨_u21, rfl, _q21, _lo21, _cw_43⟩ := _q21
        have _cw_43z := _cw_43.size
        have E := E.trans _cw_43
        obtain ⟨_Au21, _Cu21, _eu21⟩ := _q21.val
        subst _eu21
        have _lu21 := _q21.len
        have _hiu21 := _q21.lt
        refine WL_s rfl rfl ?_
        have _f_44 := ((((_m4.ch0 _cw_9).ch0 _cw_24).ch0 _cw_38).ch0 _cw_43)
        refine s_storeA (off := 0) 1 _f_44 sz29 rfl (us := [(.slice _Au21 (a).length _Cu21)]) rfl rfl rfl rfl fun _w_45 _m_46 _cw_45 => ?_
        have _cw_45z := _cw_45.size
        have E := E.step _cw_45 (fun i hi => .inl (by have _h1 := List.mem_singleton.1 hi; omega))
        replace _m_46 : Blk _w_45 _b4 29 [(.slice _Au21 (a).length _Cu21)] := _m_46
        refine WL_nil ?_
        refine thn_nrm (_hK_40 _ _ ?_)
        clear _hK_40
        refine W_ret (inB_ret (thn_ret ?_))
        clear _hK_5
        have _f_48 := (_q21.ch _cw_45 (fun g hg hm => by have _h0 := List.mem_singleton.1 hm; have _h2 := _lo21 _ hg; have _h3 := _hiu21 _ hg; omega))
        have _o_47 : Ol Token.cs 57 4 _w_45 (.slice _Au21 (a).length _Cu21) (uniE a b) := by
          have hx := _f_48
          (unfold uniE; simp_all)
        exact ret_intro [_] (resOf_loadA _m_46 rfl agg29 sz29 trivial) ⟨_, rfl, _o_47, Lo.down _lo21 (by omega), E⟩
      · have _kb_39 := _h16
        refine W_skip ?_
        refine inB_nrm ?_
        refine thn_nrm (_hK_5 _ _ ?_)
        clear _hK_5
        refine W_seq fun _K_49 _hK_49 => ?_
        refine W_region ?_
        have _f_50 := ((_f_20.ch0 _cw_24).ch0 _cw_38)
        refine WL_step rfl rfl (r_loadAtA0 _f_50.at_ agg29 sz29 rfl) ?_
        have _f_51 := (_f_36.ch0 _cw_38)
        refine WL_step rfl rfl (r_loadAtA0 _f_51.at_ agg29 sz29 rfl) ?_
        refine WL_step rfl rfl (r_build (parts := [(0, .const (Go.Value.int Go.IntKind.i64 5))]) (cells := [(.int .i64 5), (.int .i64 0), (.int .i64 0), (.int .i64 0)]) zr57 pl57 rfl rfl) ?_
        refine WL_s rfl rfl ?_
        have _f_52 := ((_f_22.ch0 _cw_24).ch0 _cw_38)
        have _f_53 := (_f_37.ch0 _cw_38)
        refine Step.call (r_call (xs := [.tmp 22, .tmp 23, .tmp 24]) fk97 rfl) (c_spec_l8Join _f_52 _f_53 ⟨5, 0, 0, 0⟩ (by omega)) fun _v25 _w_54 _q25 => ?_
        obtain ⟨_u25, rfl, _q25, _lo25, _cw_54⟩ := _q25
        have _cw_54z := _cw_54.size
        have E := E.trans _cw_54
        obtain ⟨_Au25, _Cu25, _eu25⟩ := _q25.val
        subst _eu25
        have _lu25 := _q25.len
        have _hiu25 := _q25.lt
        refine WL_s rfl rfl ?_
        have _f_55 := ((((_m4.ch0 _cw_9).ch0 _cw_24).ch0 _cw_38).ch0 _cw_54)
        refine s_storeA (off := 0) 1 _f_55 sz29 rfl (us := [(.slice _Au25 (a ++ b ++ [(⟨5, 0, 0, 0⟩ : Token)]).length _Cu25)]) rfl rfl rfl rfl fun _w_56 _m_57 _cw_56 => ?_
        have _cw_56z := _cw_56.size
        have E := E.step _cw_56 (fun i hi => .inl (by have _h1 := List.mem_singleton.1 hi; omega))
        replace _m_57 : Blk _w_56 _b4 29 [(.slice _Au25 (a ++ b ++ [(⟨5, 0, 0, 0⟩ : Token)]).length _Cu25)] := _m_57
        refine WL_nil ?_
        refine thn_nrm (_hK_49 _ _ ?_)
        clear _hK_49
        refine W_ret ?_
        have _f_59 := (_q25.ch _cw_56 (fun g hg hm => by have _h0 := List.mem_singleton.1 hm; have _h2 := _lo25 _ hg; have _h3 := _hiu25 _ hg; omega))
        have _o_58 : Ol Token.cs 57 4 _w_56 (.slice _Au25 (a ++ b ++ [(⟨5, 0, 0, 0⟩ : Token)]).length _Cu25) (uniE a b) := by
          have hx := _f_59
          (unfold uniE; simp_all)
        exact ret_intro [_] (resOf_loadA _m_57 rfl agg29 sz29 trivial) ⟨_, rfl, _o_58, Lo.down _lo25 (by omega), E⟩

/-- spec.l8Start -/
theorem c_spec_l8Start {w : World} {LL_l _B_l : Nat} {_v_l : Value} {l : List Token} (_h_l : Ls Token.cs 4 w LL_l _B_l _v_l l) (p : List Token) (t : Tr) (hok : Okd t) (hl : l = p ++ t.flat) :
    Ctr Try.prog 56 #[_v_l] w (fun v w' => v = .int .i64 (((p.length : Nat) : Int)) ∧ Ch [] w w') := by
  obtain ⟨_A_l, _C_l, _e1_l⟩ := _h_l.val
  subst _e1_l
  have _l_l := _h_l.len
  have _h_l := _h_l.here (by decide)
  have E := Ch.refl [] w
  refine Ctr_of_W (N := 20) (vs0 := [(.slice _A_l l.length _C_l)]) Try.func56 rfl rfl rfl ?_
  refine W_seq fun _K_1 _hK_1 => ?_
  refine W_region ?_
  refine WL_step rfl rfl (r_assign rfl) ?_
  refine WL_nil ?_
  refine thn_nrm (_hK_1 _ _ ?_)
  clear _hK_1
  refine W_seq fun _K_2 _hK_2 => ?_
  refine W_region ?_
  refine WL_step rfl rfl (r_assign rfl) ?_
  refine WL_nil ?_
  refine thn_nrm (_hK_2 _ _ ?_)
  clear _hK_2
  refine W_seq fun _K_3 _hK_3 => ?_
  refine W_region ?_
  refine WL_step rfl rfl (r_move rfl) ?_
  refine WL_step rfl rfl (r_len (by rw [el27]; rfl) rfl) ?_
  refine WL_step rfl rfl (r_assign rfl) ?_
  refine WL_nil ?_
  refine thn_nrm (_hK_3 _ _ ?_)
  clear _hK_3
  refine W_seq fun _K_4 _hK_4 => ?_
  refine W_block ?_
  refine W_loop (σ := Int × Int × List Tr) (fun ⟨n, k, ts⟩ => [(0, (.slice _A_l l.length _C_l)), (2, (.int .i64 0)), (3, (.int .i64 n)), (4, (.int .i64 k))]) (fun ⟨n, k, ts⟩ wx => Ch [] w wx ∧ w.heap.size ≤ wx.heap.size ∧ (0 ≤ k) ∧ (k ≤ l.length) ∧ (n = ts.length) ∧ (l.take k.toNat = p ++ flats ts) ∧ (∀ x ∈ ts, Okd x)) (fun ⟨n, k, ts⟩ => k.toNat) (1, (l.length : Int), [t]) (Sub.cons rfl (Sub.cons rfl (Sub.cons rfl (Sub.cons rfl (Sub.nil _))))) ⟨E, (Nat.le_refl _), (by omega), (by omega), rfl, (by rw [show ((l.length : Int)).toNat = l.length from by omega, List.take_length, hl]; simp [flats]), (fun x hx => by rw [List.mem_singleton.1 hx]; exact hok)⟩ ?_
  rintro ⟨n, k, ts⟩ _wr_5 ⟨E, _zz0, _h0, _hk, hn, hp, ho⟩
  have _E0h := E
  have _E0hz := _E0h.size
  have s1 := start_len hp _h0
  refine W_seq fun _K_6 _hK_6 => ?_
  refine W_seq fun _K_7 _hK_7 => ?_
  refine W_region ?_
  refine WL_step rfl rfl (r_move rfl) ?_
  refine WL_step rfl rfl (r_gtr rfl rfl) ?_
  refine WL_nil ?_
  refine thn_nrm (_hK_7 _ _ ?_)
  clear _hK_7
  refine W_cond rfl (fun _h8 => ?_) (fun _h8 => ?_)
  · have _kb_8 := _h8
    have _h8 := bt_d _h8
    refine W_skip ?_
    refine thn_nrm (_hK_6 _ _ ?_)
    clear _hK_6
    refine W_block ?_
    refine W_seq fun _K_9 _hK_9 => ?_
    refine W_region ?_
    refine WL_step rfl rfl (r_move rfl) ?_
    refine WL_step rfl rfl (r_sub (by omega) rfl rfl) ?_
    refine WL_step rfl rfl (r_assign rfl) ?_
    refine WL_nil ?_
    refine thn_nrm (_hK_9 _ _ ?_)
    clear _hK_9
    refine W_region ?_
    refine WL_step rfl rfl (r_move rfl) ?_
    refine WL_step rfl rfl (r_sub (by omega) rfl rfl) ?_
    refine WL_step rfl rfl (r_move rfl) ?_
    refine WL_step rfl rfl (r_move rfl) ?_
    refine WL_s rfl rfl ?_
    have _f_10 := (_h_l.ch0 _E0h)
    refine (s_index (j := (k - 1).toNat) _f_10 Token.len el27 sz57 rfl rfl (by omega) (by omega) fun _p15 _y15 _hy15 _a15 => ?_)
    refine WL_step rfl rfl (r_loadAtA0 _a15 agg57 sz57 rfl) ?_
    refine WL_s rfl rfl ?_
    refine Step.call (r_call (xs := [.tmp 16]) fk49 rfl) (c_spec_l8Arity _y15 ) fun _v17 _w_11 _q17 => ?_
    obtain ⟨rfl, _cw_11⟩ := _q17
    have _cw_11z := _cw_11.size
    have E := E.trans _cw_11
    have _a17 := arT_cases _y15
    obtain ⟨s2, _p2, _l2, _o2⟩ := start_step hp ho (by omega) _h0 _hk _hy15
    have s3 := start_len _p2 (by omega)
    refine WL_step rfl rfl (r_add (by omega) rfl rfl) ?_
    refine WL_step rfl rfl (r_assign rfl) ?_
    refine WL_nil ?_
    refine inB_nrm ?_
    exact thn_nrm (Exists.intro (((n - 1) + arT _y15), (k - 1), s2) ⟨⟨E, (by omega), (by omega), (by omega), (by omega), _p2, _o2⟩, Sub.cons rfl (Sub.cons rfl (Sub.cons rfl (Sub.cons rfl (Sub.nil _)))), (by first | omega | (dsimp only; omega))⟩)
  · have _kb_8 := _h8
    have _h8 := bf_d _h8
    refine W_exit (thn_exit (thn_exit (inB_hit ?_)))
    refine thn_nrm (_hK_4 _ _ ?_)
    clear _hK_4
    refine W_seq fun _K_12 _hK_12 => ?_
    refine W_region ?_
    refine WL_step rfl rfl (r_move rfl) ?_
    refine WL_step rfl rfl (r_assign rfl) ?_
    refine WL_nil ?_
    refine thn_nrm (_hK_12 _ _ ?_)
    clear _hK_12
    refine W_ret ?_
    clear _hK_6
    exact ret_intro [_] ⟨rfl, trivial⟩ ⟨congrArg (Value.int .i64) (start_end hp hn (by omega) _h0 _hk), E⟩

/-- spec.l9Null -/
theorem c_spec_l9Null_n : ∀ (n : Nat) {w : World} {LL_l _B_l : Nat} {_v_l : Value} {l : List Token} (_h_l : Ls Token.cs 4 w LL_l _B_l _v_l l) (t : Tr) (hok : Okd t) (hl : l = t.flat) (hsz : l.length < n),
    Ctr Try.prog 53 #[_v_l] w (fun v w' => v = .bool (nullT t) ∧ Ch [] w w') := by
  intro n
  induction n with
  | zero => intros; omega
  | succ n ih =>
  intro w LL_l _B_l _v_l l _h_l t hok hl hsz
  obtain ⟨_A_l, _C_l, _e1_l⟩ := _h_l.val
  subst _e1_l
  have _l_l := _h_l.len
  have _h_l := _h_l.here (by decide)
  have E := Ch.refl [] w
  have hn1 := t.flat_pos; rw [← hl] at hn1
  refine Ctr_of_W (N := 64) (vs0 := [(.slice _A_l l.length _C_l)]) Try.func53 rfl rfl rfl ?_
  refine W_seq fun _K_1 _hK_1 => ?_
  refine W_region ?_
  refine WL_step rfl rfl (r_assign rfl) ?_
  refine WL_nil ?_
  refine thn_nrm (_hK_1 _ _ ?_)
  clear _hK_1
  refine W_seq fun _K_2 _hK_2 => ?_
  refine W_region ?_
  refine WL_step rfl rfl (r_move rfl) ?_
  refine WL_step rfl rfl (r_len (by rw [el27]; rfl) rfl) ?_
  refine WL_step rfl rfl (r_sub (by omega) rfl rfl) ?_
  refine WL_step rfl rfl (r_assign rfl) ?_
  refine WL_nil ?_
  refine thn_nrm (_hK_2 _ _ ?_)
  clear _hK_2
  refine W_seq fun _K_3 _hK_3 => ?_
  refine W_region ?_
  refine WL_step rfl rfl (r_move rfl) ?_
  refine WL_step rfl rfl (r_move rfl) ?_
  refine WL_s rfl rfl ?_
  refine (s_index (j := (((l.length : Nat) : Int) - 1).toNat) _h_l Token.len el27 sz57 rfl rfl (by omega) (by omega) fun _p12 _y12 _hy12 _a12 => ?_)
  have _ht := last_tok hl (by omega) _hy12
  have htk := congrArg Token.kind _ht
  have htl := congrArg Token.low _ht
  have hth := congrArg Token.high _ht
  refine WL_step rfl rfl (r_loadAtA0 _a12 agg57 sz57 rfl) ?_
  refine WL_s rfl rfl ?_
  refine s_alloc zr57 fun _b4 _w_4 _m4 _cw_4 _e4 => ?_
  have _cw_4z := _cw_4.size
  have E := E.trans _cw_4
  have _z4 := _m4.lt
  replace _m4 : Blk _w_4 _b4 57 [(.int .i64 0), (.int .i64 0), (.int .i64 0), (.int .i64 0)] := _m4
  refine WL_s rfl rfl ?_
  refine s_storeA (off := 0) 4 _m4 sz57 rfl (us := [(.int .i64 _y12.kind), (.int .i64 _y12.letter), (.int .i64 _y12.low), (.int .i64 _y12.high)]) rfl rfl rfl rfl fun _w_5 _m_6 _cw_5 => ?_
  have _cw_5z := _cw_5.size
  have E := E.step _cw_5 (fun i hi => .inl (by have _h1 := List.mem_singleton.1 hi; omega))
  replace _m_6 : Blk _w_5 _b4 57 [(.int .i64 _y12.kind), (.int .i64 _y12.letter), (.int .i64 _y12.low), (.int .i64 _y12.high)] := _m_6
  refine WL_nil ?_
  refine thn_nrm (_hK_3 _ _ ?_)
  clear _hK_3
  refine W_seq fun _K_7 _hK_7 => ?_
  refine W_seq fun _K_8 _hK_8 => ?_
  refine W_region ?_
  refine WL_step rfl rfl (r_fieldAddr fa57_0 rfl) ?_
  refine WL_step rfl rfl (r_loadAt _m_6.at_ agg3 rfl rfl) ?_
  refine WL_nil ?_
  refine thn_nrm (_hK_8 _ _ ?_)
  clear _hK_8
  refine W_block ?_
  refine W_seq fun _K_9 _hK_9 => ?_
  refine W_seq fun _K_10 _hK_10 => ?_
  refine W_region ?_
  refine WL_step rfl rfl (r_eql rfl rfl) ?_
  refine WL_step rfl rfl (r_assign rfl) ?_
  refine WL_nil ?_
  refine thn_nrm (_hK_10 _ _ ?_)
  clear _hK_10
  refine W_cond rfl (fun _h16 => ?_) (fun _h16 => ?_)
  · have _kb_11 := _h16
    have _h16 := bt_d _h16
    refine W_skip ?_
    refine thn_nrm (_hK_9 _ _ ?_)
    clear _hK_9
    refine W_condTk rfl _kb_11 ?_
    refine W_seq fun _K_12 _hK_12 => ?_
    refine W_region ?_
    refine WL_step rfl rfl (r_assign rfl) ?_
    refine WL_nil ?_
    refine thn_nrm (_hK_12 _ _ ?_)
    clear _hK_12
    refine W_ret (inB_ret (thn_ret ?_))
    clear _hK_7
    exact ret_intro [_] ⟨rfl, trivial⟩ ⟨congrArg Value.bool (by first | exact null26 hok (by omega) | exact null0 hok (by omega) | exact null4f hok (by omega) rfl _h29 | exact null4t hok (by omega) rfl rfl _h29 | exact null5t hok (by omega) rfl _h46 | exact null5f hok (by omega) rfl rfl _h46 | exact null7t hok (by omega) (by omega) | exact null7f hok (by omega) rfl (by omega)), E⟩
  · have _kb_11 := _h16
    have _h16 := bf_d _h16
    refine W_region ?_
    refine WL_step rfl rfl (r_eql rfl rfl) ?_
    refine WL_step rfl rfl (r_assign rfl) ?_
    refine WL_nil ?_
    refine thn_nrm (_hK_9 _ _ ?_)
    clear _hK_9
    refine W_cond rfl (fun _h16 => ?_) (fun _h16 => ?_)
    · have _kb_13 := _h16
      have _h16 := bt_d _h16
      refine W_seq fun _K_14 _hK_14 => ?_
      refine W_region ?_
      refine WL_step rfl rfl (r_assign rfl) ?_
      refine WL_nil ?_
      refine thn_nrm (_hK_14 _ _ ?_)
      clear _hK_14
      refine W_ret (inB_ret (thn_ret ?_))
      clear _hK_7
      exact ret_intro [_] ⟨rfl, trivial⟩ ⟨congrArg Value.bool (by first | exact null26 hok (by omega) | exact null0 hok (by omega) | exact null4f hok (by omega) rfl _h29 | exact null4t hok (by omega) rfl rfl _h29 | exact null5t hok (by omega) rfl _h46 | exact null5f hok (by omega) rfl rfl _h46 | exact null7t hok (by omega) (by omega) | exact null7f hok (by omega) rfl (by omega)), E⟩
    · have _kb_13 := _h16
      have _h16 := bf_d _h16
      refine W_seq fun _K_15 _hK_15 => ?_
      refine W_region ?_
      refine WL_step rfl rfl (r_eql rfl rfl) ?_
      refine WL_step rfl rfl (r_assign rfl) ?_
      refine WL_nil ?_
      refine thn_nrm (_hK_15 _ _ ?_)
      clear _hK_15
      refine W_cond rfl (fun _h19 => ?_) (fun _h19 => ?_)
      · have _kb_16 := _h19
        have _h19 := bt_d _h19
        obtain ⟨kt, ta, tb, rfl⟩ := hok.two (by omega)
        have hla : l = ta.flat ++ tb.flat ++ [kt] := hl
        have hn2 := len_2 hla
        refine W_seq fun _K_17 _hK_17 => ?_
        refine W_region ?_
        refine WL_step rfl rfl (r_move rfl) ?_
        refine WL_step rfl rfl (r_move rfl) ?_
        refine WL_s rfl rfl ?_
        have _f_18 := ((_h_l.ch0 _cw_4).ch _cw_5 (fun i hi => by have _h1 := List.mem_singleton.1 hi; omega))
        refine (s_cut (ys := (l.take ((((l.length : Nat) : Int) - 1).toNat))) 0 ((((l.length : Nat) : Int) - 1).toNat) _f_18 Token.len el27 sz57 rfl rfl ⟨_, _, rfl, by omega⟩ (by omega) (by omega) rfl fun _v23 _q23 _bb23 _ln23 => ?_)
        obtain ⟨_A23, _C23, _e23⟩ := _q23.val
        subst _e23
        have _l23 := _q23.len
        refine WL_s rfl rfl ?_
        refine Step.call (r_call (xs := [.tmp 23]) fk56 rfl) (c_spec_l8Start _q23 ta.flat tb hok.2.2 (cut_ab hla (by omega))) fun _v24 _w_19 _q24 => ?_
        obtain ⟨rfl, _cw_19⟩ := _q24
        have _cw_19z := _cw_19.size
        have E := E.trans _cw_19
        refine WL_step rfl rfl (r_assign rfl) ?_
        refine WL_nil ?_
        refine thn_nrm (_hK_17 _ _ ?_)
        clear _hK_17
        refine W_seq fun _K_20 _hK_20 => ?_
        refine W_region ?_
        refine WL_step rfl rfl (r_move rfl) ?_
        refine WL_step rfl rfl (r_move rfl) ?_
        refine WL_s rfl rfl ?_
        have _f_21 := (_f_18.ch0 _cw_19)
        refine (s_cut (ys := (l.take ta.flat.length)) 0 ta.flat.length _f_21 Token.len el27 sz57 rfl rfl ⟨_, _, rfl, by omega⟩ (by omega) (by omega) rfl fun _v27 _q27 _bb27 _ln27 => ?_)
        obtain ⟨_A27, _C27, _e27⟩ := _q27.val
        subst _e27
        have _l27 := _q27.len
        refine WL_s rfl rfl ?_
        refine Step.call (r_call (xs := [.tmp 27]) fk53 rfl) (ih _q27 ta hok.2.1 (cut_a hla (by omega)) (by simp only [List.length_take, List.length_drop]; omega)) fun _v28 _w_22 _q28 => ?_
        obtain ⟨rfl, _cw_22⟩ := _q28
        have _cw_22z := _cw_22.size
        have E := E.trans _cw_22
        refine WL_step rfl rfl (r_move rfl) ?_
        refine WL_split (d := 29) rfl (fun _h29 => ?_) (fun _h29 => ?_)
        · have _kb_23 := _h29
          refine WL_step rfl rfl (r_move rfl) ?_
          refine WL_step rfl rfl (r_move rfl) ?_
          refine WL_step rfl rfl (r_move rfl) ?_
          refine WL_s rfl rfl ?_
          have _f_24 := (_f_21.ch0 _cw_22)
          refine (s_cut (ys := ((l.drop ta.flat.length).take ((((l.length : Nat) : Int) - 1).toNat - ta.flat.length))) ta.flat.length ((((l.length : Nat) : Int) - 1).toNat) _f_24 Token.len el27 sz57 rfl ⟨_, _, rfl, by omega⟩ ⟨_, _, rfl, by omega⟩ (by omega) (by omega) rfl fun _v33 _q33 _bb33 _ln33 => ?_)
          obtain ⟨_A33, _C33, _e33⟩ := _q33.val
          subst _e33
          have _l33 := _q33.len
          refine WL_s rfl rfl ?_
          refine Step.call (r_call (xs := [.tmp 33]) fk53 rfl) (ih _q33 tb hok.2.2 (cut_b hla (by omega) (by omega)) (by simp only [List.length_take, List.length_drop]; omega)) fun _v34 _w_25 _q34 => ?_
          obtain ⟨rfl, _cw_25⟩ := _q34
          have _cw_25z := _cw_25.size
          have E := E.trans _cw_25
          refine WL_step rfl rfl (r_pickT rfl rfl) ?_
          refine WL_step rfl rfl (r_assign rfl) ?_
          refine WL_nil ?_
          refine thn_nrm (_hK_20 _ _ ?_)
          clear _hK_20
          refine W_ret (inB_ret (thn_ret ?_))
          clear _hK_7
          exact ret_intro [_] ⟨rfl, trivial⟩ ⟨congrArg Value.bool (by first | exact null26 hok (by omega) | exact null0 hok (by omega) | exact null4f hok (by omega) rfl _h29 | exact null4t hok (by omega) rfl rfl _h29 | exact null5t hok (by omega) rfl _h46 | exact null5f hok (by omega) rfl rfl _h46 | exact null7t hok (by omega) (by omega) | exact null7f hok (by omega) rfl (by omega)), E⟩
        · have _kb_23 := _h29
          refine WL_skip rfl rfl ?_
          refine WL_skip rfl rfl ?_
          refine WL_skip rfl rfl ?_
          refine WL_skip rfl rfl ?_
          refine WL_skip rfl rfl ?_
          refine WL_step rfl rfl (r_pickF rfl rfl) ?_
          refine WL_step rfl rfl (r_assign rfl) ?_
          refine WL_nil ?_
          refine thn_nrm (_hK_20 _ _ ?_)
          clear _hK_20
          refine W_ret (inB_ret (thn_ret ?_))
          clear _hK_7
          exact ret_intro [_] ⟨rfl, trivial⟩ ⟨congrArg Value.bool (by first | exact null26 hok (by omega) | exact null0 hok (by omega) | exact null4f hok (by omega) rfl _h29 | exact null4t hok (by omega) rfl rfl _h29 | exact null5t hok (by omega) rfl _h46 | exact null5f hok (by omega) rfl rfl _h46 | exact null7t hok (by omega) (by omega) | exact null7f hok (by omega) rfl (by omega)), E⟩
      · have _kb_16 := _h19
        have _h19 := bf_d _h19
        refine W_seq fun _K_26 _hK_26 => ?_
        refine W_region ?_
        refine WL_step rfl rfl (r_eql rfl rfl) ?_
        refine WL_step rfl rfl (r_assign rfl) ?_
        refine WL_nil ?_
        refine thn_nrm (_hK_26 _ _ ?_)
        clear _hK_26
        refine W_cond rfl (fun _h36 => ?_) (fun _h36 => ?_)
        · have _kb_27 := _h36
          have _h36 := bt_d _h36
          obtain ⟨kt, ta, tb, rfl⟩ := hok.two (by omega)
          have hla : l = ta.flat ++ tb.flat ++ [kt] := hl
          have hn2 := len_2 hla
          refine W_seq fun _K_28 _hK_28 => ?_
          refine W_region ?_
          refine WL_step rfl rfl (r_move rfl) ?_
          refine WL_step rfl rfl (r_move rfl) ?_
          refine WL_s rfl rfl ?_
          have _f_29 := ((_h_l.ch0 _cw_4).ch _cw_5 (fun i hi => by have _h1 := List.mem_singleton.1 hi; omega))
          refine (s_cut (ys := (l.take ((((l.length : Nat) : Int) - 1).toNat))) 0 ((((l.length : Nat) : Int) - 1).toNat) _f_29 Token.len el27 sz57 rfl rfl ⟨_, _, rfl, by omega⟩ (by omega) (by omega) rfl fun _v40 _q40 _bb40 _ln40 => ?_)
          obtain ⟨_A40, _C40, _e40⟩ := _q40.val
          subst _e40
          have _l40 := _q40.len
          refine WL_s rfl rfl ?_
          refine Step.call (r_call (xs := [.tmp 40]) fk56 rfl) (c_spec_l8Start _q40 ta.flat tb hok.2.2 (cut_ab hla (by omega))) fun _v41 _w_30 _q41 => ?_
          obtain ⟨rfl, _cw_30⟩ := _q41
          have _cw_30z := _cw_30.size
          have E := E.trans _cw_30
          refine WL_step rfl rfl (r_assign rfl) ?_
          refine WL_nil ?_
          refine thn_nrm (_hK_28 _ _ ?_)
          clear _hK_28
          refine W_seq fun _K_31 _hK_31 => ?_
          refine W_region ?_
          refine WL_step rfl rfl (r_move rfl) ?_
          refine WL_step rfl rfl (r_move rfl) ?_
          refine WL_s rfl rfl ?_
          have _f_32 := (_f_29.ch0 _cw_30)
          refine (s_cut (ys := (l.take ta.flat.length)) 0 ta.flat.length _f_32 Token.len el27 sz57 rfl rfl ⟨_, _, rfl, by omega⟩ (by omega) (by omega) rfl fun _v44 _q44 _bb44 _ln44 => ?_)
          obtain ⟨_A44, _C44, _e44⟩ := _q44.val
          subst _e44
          have _l44 := _q44.len
          refine WL_s rfl rfl ?_
          refine Step.call (r_call (xs := [.tmp 44]) fk53 rfl) (ih _q44 ta hok.2.1 (cut_a hla (by omega)) (by simp only [List.length_take, List.length_drop]; omega)) fun _v45 _w_33 _q45 => ?_
          obtain ⟨rfl, _cw_33⟩ := _q45
          have _cw_33z := _cw_33.size
          have E := E.trans _cw_33
          refine WL_step rfl rfl (r_move rfl) ?_
          refine WL_split (d := 46) rfl (fun _h46 => ?_) (fun _h46 => ?_)
          · have _kb_34 := _h46
            refine WL_skip rfl rfl ?_
            refine WL_skip rfl rfl ?_
            refine WL_skip rfl rfl ?_
            refine WL_skip rfl rfl ?_
            refine WL_skip rfl rfl ?_
            refine WL_step rfl rfl (r_pickT rfl rfl) ?_
            refine WL_step rfl rfl (r_assign rfl) ?_
            refine WL_nil ?_
            refine thn_nrm (_hK_31 _ _ ?_)
            clear _hK_31
            refine W_ret (inB_ret (thn_ret ?_))
            clear _hK_7
            exact ret_intro [_] ⟨rfl, trivial⟩ ⟨congrArg Value.bool (by first | exact null26 hok (by omega) | exact null0 hok (by omega) | exact null4f hok (by omega) rfl _h29 | exact null4t hok (by omega) rfl rfl _h29 | exact null5t hok (by omega) rfl _h46 | exact null5f hok (by omega) rfl rfl _h46 | exact null7t hok (by omega) (by omega) | exact null7f hok (by omega) rfl (by omega)), E⟩
          · have _kb_34 := _h46
            refine WL_step rfl rfl (r_move rfl) ?_
            refine WL_step rfl rfl (r_move rfl) ?_
            refine WL_step rfl rfl (r_move rfl) ?_
            refine WL_s rfl rfl ?_
            have _f_35 := (_f_32.ch0 _cw_33)
            refine (s_cut (ys := ((l.drop ta.flat.length).take ((((l.length : Nat) : Int) - 1).toNat - ta.flat.length))) ta.flat.length ((((l.length : Nat) : Int) - 1).toNat) _f_35 Token.len el27 sz57 rfl ⟨_, _, rfl, by omega⟩ ⟨_, _, rfl, by omega⟩ (by omega) (by omega) rfl fun _v50 _q50 _bb50 _ln50 => ?_)
            obtain ⟨_A50, _C50, _e50⟩ := _q50.val
            subst _e50
            have _l50 := _q50.len
            refine WL_s rfl rfl ?_
            refine Step.call (r_call (xs := [.tmp 50]) fk53 rfl) (ih _q50 tb hok.2.2 (cut_b hla (by omega) (by omega)) (by simp only [List.length_take, List.length_drop]; omega)) fun _v51 _w_36 _q51 => ?_
            obtain ⟨rfl, _cw_36⟩ := _q51
            have _cw_36z := _cw_36.size
            have E := E.trans _cw_36
            refine WL_step rfl rfl (r_pickF rfl rfl) ?_
            refine WL_step rfl rfl (r_assign rfl) ?_
            refine WL_nil ?_
            refine thn_nrm (_hK_31 _ _ ?_)
            clear _hK_31
            refine W_ret (inB_ret (thn_ret ?_))
            clear _hK_7
            exact ret_intro [_] ⟨rfl, trivial⟩ ⟨congrArg Value.bool (by first | exact null26 hok (by omega) | exact null0 hok (by omega) | exact null4f hok (by omega) rfl _h29 | exact null4t hok (by omega) rfl rfl _h29 | exact null5t hok (by omega) rfl _h46 | exact null5f hok (by omega) rfl rfl _h46 | exact null7t hok (by omega) (by omega) | exact null7f hok (by omega) rfl (by omega)), E⟩
        · have _kb_27 := _h36
          have _h36 := bf_d _h36
          refine W_seq fun _K_37 _hK_37 => ?_
          refine W_region ?_
          refine WL_step rfl rfl (r_eql rfl rfl) ?_
          refine WL_step rfl rfl (r_assign rfl) ?_
          refine WL_nil ?_
          refine thn_nrm (_hK_37 _ _ ?_)
          clear _hK_37
          refine W_cond rfl (fun _h53 => ?_) (fun _h53 => ?_)
          · have _kb_38 := _h53
            have _h53 := bt_d _h53
            obtain ⟨kt, ta, rfl⟩ := hok.one (by omega)
            have hla : l = ta.flat ++ [kt] := hl
            have hn2 := len_1 hla
            refine W_seq fun _K_39 _hK_39 => ?_
            refine W_region ?_
            refine WL_step rfl rfl (r_fieldAddr fa57_2 rfl) ?_
            refine WL_step rfl rfl (r_loadAt _m_6.at_ agg3 rfl rfl) ?_
            refine WL_step rfl rfl (r_eql rfl rfl) ?_
            refine WL_step rfl rfl (r_move rfl) ?_
            refine WL_split (d := 58) rfl (fun _h58 => ?_) (fun _h58 => ?_)
            · have _kb_40 := _h58
              have _h58 := bt_d _h58
              refine WL_skip rfl rfl ?_
              refine WL_skip rfl rfl ?_
              refine WL_skip rfl rfl ?_
              refine WL_skip rfl rfl ?_
              refine WL_step rfl rfl (r_pickT rfl rfl) ?_
              refine WL_step rfl rfl (r_assign rfl) ?_
              refine WL_nil ?_
              refine thn_nrm (_hK_39 _ _ ?_)
              clear _hK_39
              refine W_ret (inB_ret (thn_ret ?_))
              clear _hK_7
              exact ret_intro [_] ⟨rfl, trivial⟩ ⟨congrArg Value.bool (by first | exact null26 hok (by omega) | exact null0 hok (by omega) | exact null4f hok (by omega) rfl _h29 | exact null4t hok (by omega) rfl rfl _h29 | exact null5t hok (by omega) rfl _h46 | exact null5f hok (by omega) rfl rfl _h46 | exact null7t hok (by omega) (by omega) | exact null7f hok (by omega) rfl (by omega)), E⟩
            · have _kb_40 := _h58
              have _h58 := bf_d _h58
              refine WL_step rfl rfl (r_move rfl) ?_
              refine WL_step rfl rfl (r_move rfl) ?_
              refine WL_s rfl rfl ?_
              have _f_41 := ((_h_l.ch0 _cw_4).ch _cw_5 (fun i hi => by have _h1 := List.mem_singleton.1 hi; omega))
              refine (s_cut (ys := (l.take ((((l.length : Nat) : Int) - 1).toNat))) 0 ((((l.length : Nat) : Int) - 1).toNat) _f_41 Token.len el27 sz57 rfl rfl ⟨_, _, rfl, by omega⟩ (by omega) (by omega) rfl fun _v61 _q61 _bb61 _ln61 => ?_)
              obtain ⟨_A61, _C61, _e61⟩ := _q61.val
              subst _e61
              have _l61 := _q61.len
              refine WL_s rfl rfl ?_
              refine Step.call (r_call (xs := [.tmp 61]) fk53 rfl) (ih _q61 ta hok.2 (cut_1 hla (by omega)) (by simp only [List.length_take, List.length_drop]; omega)) fun _v62 _w_42 _q62 => ?_
              obtain ⟨rfl, _cw_42⟩ := _q62
              have _cw_42z := _cw_42.size
              have E := E.trans _cw_42
              refine WL_step rfl rfl (r_pickF rfl rfl) ?_
              refine WL_step rfl rfl (r_assign rfl) ?_
              refine WL_nil ?_
              refine thn_nrm (_hK_39 _ _ ?_)
              clear _hK_39
              refine W_ret (inB_ret (thn_ret ?_))
              clear _hK_7
              exact ret_intro [_] ⟨rfl, trivial⟩ ⟨congrArg Value.bool (by first | exact null26 hok (by omega) | exact null0 hok (by omega) | exact null4f hok (by omega) rfl _h29 | exact null4t hok (by omega) rfl rfl _h29 | exact null5t hok (by omega) rfl _h46 | exact null5f hok (by omega) rfl rfl _h46 | exact null7t hok (by omega) (by omega) | exact null7f hok (by omega) rfl (by omega)), E⟩
          · have _kb_38 := _h53
            have _h53 := bf_d _h53
            refine W_skip ?_
            refine inB_nrm ?_
            refine thn_nrm (_hK_7 _ _ ?_)
            clear _hK_7
            refine W_seq fun _K_43 _hK_43 => ?_
            refine W_region ?_
            refine WL_step rfl rfl (r_assign rfl) ?_
            refine WL_nil ?_
            refine thn_nrm (_hK_43 _ _ ?_)
            clear _hK_43
            refine W_ret ?_
            exact ret_intro [_] ⟨rfl, trivial⟩ ⟨congrArg Value.bool (by first | exact null26 hok (by omega) | exact null0 hok (by omega) | exact null4f hok (by omega) rfl _h29 | exact null4t hok (by omega) rfl rfl _h29 | exact null5t hok (by omega) rfl _h46 | exact null5f hok (by omega) rfl rfl _h46 | exact null7t hok (by omega) (by omega) | exact null7f hok (by omega) rfl (by omega)), E⟩
theorem c_spec_l9Null {w : World} {LL_l _B_l : Nat} {_v_l : Value} {l : List Token} (_h_l : Ls Token.cs 4 w LL_l _B_l _v_l l) (t : Tr) (hok : Okd t) (hl : l = t.flat) :
    Ctr Try.prog 53 #[_v_l] w (fun v w' => v = .bool (nullT t) ∧ Ch [] w w') := c_spec_l9Null_n _ _h_l t hok hl (Nat.lt_succ_self _)

/-- spec.l9Deriv -/
theorem c_spec_l9Deriv_n : ∀ (n : Nat) {w : World} {LL_l _B_l : Nat} {_v_l : Value} {l : List Token} (_h_l : Ls Token.cs 4 w LL_l _B_l _v_l l) (letter : Int) (t : Tr) (hok : Okd t) (hl : l = t.flat) (hb : l.length ≤ 400) (hsz : l.length < n),
    Ctr Try.prog 63 #[_v_l, (.int .i64 letter)] w (fun v w' => ∃ u, v = .agg #[u] ∧ Ol Token.cs 57 4 w' u (derT letter t) ∧ Lo w.heap.size u ∧ Ch [] w w') := by
  intro n
  induction n with
  | zero => intros; omega
  | succ n ih =>
  intro w LL_l _B_l _v_l l _h_l letter t hok hl hb hsz
  obtain ⟨_A_l, _C_l, _e1_l⟩ := _h_l.val
  subst _e1_l
  have _l_l := _h_l.len
  have _h_l := _h_l.here (by decide)
  have E := Ch.refl [] w
  have hn1 := t.flat_pos; rw [← hl] at hn1; have k2 := hok.len
  refine Ctr_of_W (N := 105) (vs0 := [(.slice _A_l l.length _C_l), (.int .i64 letter)]) Try.func63 rfl rfl rfl ?_
  refine W_seq fun _K_1 _hK_1 => ?_
  refine W_region ?_
  refine WL_s rfl rfl ?_
  refine s_alloc zr29 fun _b4 _w_2 _m4 _cw_2 _e4 => ?_
  have _cw_2z := _cw_2.size
  have E := E.trans _cw_2
  have _z4 := _m4.lt
  replace _m4 : Blk _w_2 _b4 29 [(.slice none 0 0)] := _m4
  refine WL_nil ?_
  refine thn_nrm (_hK_1 _ _ ?_)
  clear _hK_1
  refine W_seq fun _K_3 _hK_3 => ?_
  refine W_region ?_
  refine WL_step rfl rfl (r_move rfl) ?_
  refine WL_step rfl rfl (r_len (by rw [el27]; rfl) rfl) ?_
  refine WL_step rfl rfl (r_sub (by omega) rfl rfl) ?_
  refine WL_step rfl rfl (r_assign rfl) ?_
  refine WL_nil ?_
  refine thn_nrm (_hK_3 _ _ ?_)
  clear _hK_3
  refine W_seq fun _K_4 _hK_4 => ?_
  refine W_region ?_
  refine WL_step rfl rfl (r_move rfl) ?_
  refine WL_step rfl rfl (r_move rfl) ?_
  refine WL_s rfl rfl ?_
  have _f_5 := (_h_l.ch0 _cw_2)
  refine (s_index (j := (((l.length : Nat) : Int) - 1).toNat) _f_5 Token.len el27 sz57 rfl rfl (by omega) (by omega) fun _p15 _y15 _hy15 _a15 => ?_)
  have _ht := last_tok hl (by omega) _hy15
  have htk := congrArg Token.kind _ht
  have hte := congrArg Token.letter _ht
  have htl := congrArg Token.low _ht
  have hth := congrArg Token.high _ht
  refine WL_step rfl rfl (r_loadAtA0 _a15 agg57 sz57 rfl) ?_
  refine WL_s rfl rfl ?_
  refine s_alloc zr57 fun _b6 _w_6 _m6 _cw_6 _e6 => ?_
  have _cw_6z := _cw_6.size
  have E := E.trans _cw_6
  have _z6 := _m6.lt
  replace _m6 : Blk _w_6 _b6 57 [(.int .i64 0), (.int .i64 0), (.int .i64 0), (.int .i64 0)] := _m6
  refine WL_s rfl rfl ?_
  refine s_storeA (off := 0) 4 _m6 sz57 rfl (us := [(.int .i64 _y15.kind), (.int .i64 _y15.letter), (.int .i64 _y15.low), (.int .i64 _y15.high)]) rfl rfl rfl rfl fun _w_7 _m_8 _cw_7 => ?_
  have _cw_7z := _cw_7.size
  have E := E.step _cw_7 (fun i hi => .inl (by have _h1 := List.mem_singleton.1 hi; omega))
  replace _m_8 : Blk _w_7 _b6 57 [(.int .i64 _y15.kind), (.int .i64 _y15.letter), (.int .i64 _y15.low), (.int .i64 _y15.high)] := _m_8
  refine WL_nil ?_
  refine thn_nrm (_hK_4 _ _ ?_)
  clear _hK_4
  refine W_seq fun _K_9 _hK_9 => ?_
  refine W_seq fun _K_10 _hK_10 => ?_
  refine W_region ?_
  refine WL_step rfl rfl (r_fieldAddr fa57_0 rfl) ?_
  refine WL_step rfl rfl (r_loadAt _m_8.at_ agg3 rfl rfl) ?_
  refine WL_nil ?_
  refine thn_nrm (_hK_10 _ _ ?_)
  clear _hK_10
  refine W_block ?_
  refine W_seq fun _K_11 _hK_11 => ?_
  refine W_region ?_
  refine WL_step rfl rfl (r_eql rfl rfl) ?_
  refine WL_step rfl rfl (r_assign rfl) ?_
  refine WL_nil ?_
  refine thn_nrm (_hK_11 _ _ ?_)
  clear _hK_11
  refine W_cond rfl (fun _h19 => ?_) (fun _h19 => ?_)
  · have _kb_12 := _h19
    have _h19 := bt_d _h19
    refine W_seq fun _K_13 _hK_13 => ?_
    refine W_region ?_
    refine WL_step rfl rfl (r_fieldAddr fa57_1 rfl) ?_
    refine WL_step rfl rfl (r_loadAt _m_8.at_ agg3 rfl rfl) ?_
    refine WL_step rfl rfl (r_move rfl) ?_
    refine WL_step rfl rfl (r_eql rfl rfl) ?_
    refine WL_nil ?_
    refine thn_nrm (_hK_13 _ _ ?_)
    clear _hK_13
    refine W_cond rfl (fun _h24 => ?_) (fun _h24 => ?_)
    · have _kb_14 := _h24
      have _h24 := bt_d _h24
      refine W_seq fun _K_15 _hK_15 => ?_
      refine W_region ?_
      refine WL_s rfl rfl ?_
      refine Step.call (r_call (xs := [.const (Go.Value.int Go.IntKind.i64 2)]) fk88 rfl) (c_spec_l8Leaf _ ) fun _v25 _w_16 _q25 => ?_
      obtain ⟨_u25, rfl, _q25, _lo25, _cw_16⟩ := _q25
      have _cw_16z := _cw_16.size
      have E := E.trans _cw_16
      obtain ⟨_Au25, _Cu25, _eu25⟩ := _q25.val
      subst _eu25
      have _lu25 := _q25.len
      have _hiu25 := _q25.lt
      refine WL_s rfl rfl ?_
      have _f_17 := (((_m4.ch0 _cw_6).ch _cw_7 (fun hm => by have _h1 := List.mem_singleton.1 hm; omega)).ch0 _cw_16)
      refine s_storeA (off := 0) 1 _f_17 sz29 rfl (us := [(.slice _Au25 ([(⟨2, 0, 0, 0⟩ : Token)]).length _Cu25)]) rfl rfl rfl rfl fun _w_18 _m_19 _cw_18 => ?_
      have _cw_18z := _cw_18.size
      have E := E.step _cw_18 (fun i hi => .inl (by have _h1 := List.mem_singleton.1 hi; omega))
      replace _m_19 : Blk _w_18 _b4 29 [(.slice _Au25 ([(⟨2, 0, 0, 0⟩ : Token)]).length _Cu25)] := _m_19
      refine WL_nil ?_
      refine thn_nrm (_hK_15 _ _ ?_)
      clear _hK_15
      refine W_ret (inB_ret (thn_ret ?_))
      clear _hK_9
      have _f_21 := (_q25.ch _cw_18 (fun g hg hm => by have _h0 := List.mem_singleton.1 hm; have _h2 := _lo25 _ hg; have _h3 := _hiu25 _ hg; omega))
      have _o_20 : Ol Token.cs 57 4 _w_18 (.slice _Au25 ([(⟨2, 0, 0, 0⟩ : Token)]).length _Cu25) (derT letter t) := by
        have hx := _f_21
        exact hx.eq (by first | exact der3 hok (by omega) (by omega) | exact der0 hok (by omega) (by omega) | exact der4t hok (by omega) _hk0 _hk1 _h46 | exact der4f hok (by omega) _hk0 _hk1 _h46 | exact der5 hok (by omega) _hk0 _hk1 | (rw [hl]; exact der6 hok (by omega) _hk0) | (rw [_ht]; exact der7 hok (by omega) _hk0))
      exact ret_intro [_] (resOf_loadA _m_19 rfl agg29 sz29 trivial) ⟨_, rfl, _o_20, Lo.down _lo25 (by omega), E⟩
    · have _kb_14 := _h24
      have _h24 := bf_d _h24
      refine W_skip ?_
      refine inB_nrm ?_
      refine thn_nrm (_hK_9 _ _ ?_)
      clear _hK_9
      refine W_seq fun _K_22 _hK_22 => ?_
      refine W_region ?_
      refine WL_s rfl rfl ?_
      refine Step.call (r_call (xs := [.const (Go.Value.int Go.IntKind.i64 1)]) fk88 rfl) (c_spec_l8Leaf _ ) fun _v104 _w_23 _q104 => ?_
      obtain ⟨_u104, rfl, _q104, _lo104, _cw_23⟩ := _q104
      have _cw_23z := _cw_23.size
      have E := E.trans _cw_23
      obtain ⟨_Au104, _Cu104, _eu104⟩ := _q104.val
      subst _eu104
      have _lu104 := _q104.len
      have _hiu104 := _q104.lt
      refine WL_s rfl rfl ?_
      have _f_24 := (((_m4.ch0 _cw_6).ch _cw_7 (fun hm => by have _h1 := List.mem_singleton.1 hm; omega)).ch0 _cw_23)
      refine s_storeA (off := 0) 1 _f_24 sz29 rfl (us := [(.slice _Au104 ([(⟨1, 0, 0, 0⟩ : Token)]).length _Cu104)]) rfl rfl rfl rfl fun _w_25 _m_26 _cw_25 => ?_
      have _cw_25z := _cw_25.size
      have E := E.step _cw_25 (fun i hi => .inl (by have _h1 := List.mem_singleton.1 hi; omega))
      replace _m_26 : Blk _w_25 _b4 29 [(.slice _Au104 ([(⟨1, 0, 0, 0⟩ : Token)]).length _Cu104)] := _m_26
      refine WL_nil ?_
      refine thn_nrm (_hK_22 _ _ ?_)
      clear _hK_22
      refine W_ret ?_
      have _f_28 := (_q104.ch _cw_25 (fun g hg hm => by have _h0 := List.mem_singleton.1 hm; have _h2 := _lo104 _ hg; have _h3 := _hiu104 _ hg; omega))
      have _o_27 : Ol Token.cs 57 4 _w_25 (.slice _Au104 ([(⟨1, 0, 0, 0⟩ : Token)]).length _Cu104) (derT letter t) := by
        have hx := _f_28
        exact hx.eq (by first | exact der3 hok (by omega) (by omega) | exact der0 hok (by omega) (by omega) | exact der4t hok (by omega) _hk0 _hk1 _h46 | exact der4f hok (by omega) _hk0 _hk1 _h46 | exact der5 hok (by omega) _hk0 _hk1 | (rw [hl]; exact der6 hok (by omega) _hk0) | (rw [_ht]; exact der7 hok (by omega) _hk0))
      exact ret_intro [_] (resOf_loadA _m_26 rfl agg29 sz29 trivial) ⟨_, rfl, _o_27, Lo.down _lo104 (by omega), E⟩
  · have _kb_12 := _h19
    have _h19 := bf_d _h19
    refine W_seq fun _K_29 _hK_29 => ?_
    refine W_region ?_
    refine WL_step rfl rfl (r_eql rfl rfl) ?_
    refine WL_step rfl rfl (r_assign rfl) ?_
    refine WL_nil ?_
    refine thn_nrm (_hK_29 _ _ ?_)
    clear _hK_29
    refine W_cond rfl (fun _h26 => ?_) (fun _h26 => ?_)
    · have _kb_30 := _h26
      have _h26 := bt_d _h26
      obtain ⟨ta, tb, et, oa, ob, hla, hn2⟩ := hok.k2 (by omega) _ht hl
      have _hk0 : t.kids[0]? = some ta := by rw [et]; rfl
      have _hk1 : t.kids[1]? = some tb := by rw [et]; rfl
      have ga := ta.flat_len
      have gb := tb.flat_len
      have da := derT_le letter ta (by omega)
      have db := derT_le letter tb (by omega)
      refine W_seq fun _K_31 _hK_31 => ?_
      refine W_region ?_
      refine WL_step rfl rfl (r_move rfl) ?_
      refine WL_step rfl rfl (r_move rfl) ?_
      refine WL_s rfl rfl ?_
      have _f_32 := ((_f_5.ch0 _cw_6).ch _cw_7 (fun i hi => by have _h1 := List.mem_singleton.1 hi; omega))
      refine (s_cut (ys := (ta.flat ++ tb.flat)) 0 ((((l.length : Nat) : Int) - 1).toNat) _f_32 Token.len el27 sz57 rfl rfl ⟨_, _, rfl, by omega⟩ (by omega) (by omega) (show l.take _ = _ from cut_ab hla (by omega)) fun _v30 _q30 _bb30 _ln30 => ?_)
      obtain ⟨_A30, _C30, _e30⟩ := _q30.val
      subst _e30
      have _l30 := _q30.len
      refine WL_s rfl rfl ?_
      refine Step.call (r_call (xs := [.tmp 30]) fk56 rfl) (c_spec_l8Start _q30 ta.flat tb ob rfl) fun _v31 _w_33 _q31 => ?_
      obtain ⟨rfl, _cw_33⟩ := _q31
      have _cw_33z := _cw_33.size
      have E := E.trans _cw_33
      refine WL_step rfl rfl (r_assign rfl) ?_
      refine WL_nil ?_
      refine thn_nrm (_hK_31 _ _ ?_)
      clear _hK_31
      refine W_seq fun _K_34 _hK_34 => ?_
      have _J_36 : ∀ (lj : KL) (_wj_35 : World) (jb8 : Nat) (ju8_0 : Value), Go.KLib.Sub [(0, (.slice _A_l l.length _C_l)), (1, (.int .i64 letter)), (4, (.pointer (some ⟨_b4, 0, none⟩))), (5, (.int .i64 (((l.length : Nat) : Int) - 1))), (6, (.pointer (some ⟨_b6, 0, none⟩))), (7, (.int .i64 ((ta.flat.length : Nat) : Int))), (8, (.pointer (some ⟨jb8, 0, none⟩))), (18, (.int .i64 _y15.kind))] lj → Ch [] _w_33 _wj_35 → Ol Token.cs 57 4 _wj_35 ju8_0 (catE (derT letter ta) tb.flat) → Lo _w_33.heap.size ju8_0 → Blk _wj_35 jb8 29 [ju8_0] → _w_33.heap.size ≤ jb8 → jb8 ∉ bl ju8_0 → _K_34 lj _wj_35 := by
        intro lj _wj_35 jb8 ju8_0 _jsub _cjK_34 _qju8_0 _loju8_0 _mjb8 _ejb8 _nbjb8ju8_0
        refine _hK_34 _ _ (W_sub _jsub ?_)
        clear _hK_34
        have _cjK_34z := _cjK_34.size
        have E := E.trans _cjK_34
        obtain ⟨_Aju8_0, _Cju8_0, _eju8_0⟩ := _qju8_0.val
        subst _eju8_0
        have _lju8_0 := _qju8_0.len
        have _hiju8_0 := _qju8_0.lt
        have _zjb8 := _mjb8.lt
        refine W_seq fun _K_37 _hK_37 => ?_
        refine W_seq fun _K_38 _hK_38 => ?_
        refine W_region ?_
        refine WL_step rfl rfl (r_move rfl) ?_
        refine WL_step rfl rfl (r_move rfl) ?_
        refine WL_s rfl rfl ?_
        have _f_39 := ((_f_32.ch0 _cw_33).ch0 _cjK_34)
        refine (s_cut (ys := ta.flat) 0 ta.flat.length _f_39 Token.len el27 sz57 rfl rfl ⟨_, _, rfl, by omega⟩ (by omega) (by omega) (show l.take _ = _ from cut_a hla (by omega)) fun _v45 _q45 _bb45 _ln45 => ?_)
        obtain ⟨_A45, _C45, _e45⟩ := _q45.val
        subst _e45
        have _l45 := _q45.len
        refine WL_s rfl rfl ?_
        refine Step.call (r_call (xs := [.tmp 45]) fk53 rfl) (c_spec_l9Null _q45 ta oa rfl) fun _v46 _w_40 _q46 => ?_
        obtain ⟨rfl, _cw_40⟩ := _q46
        have _cw_40z := _cw_40.size
        have E := E.trans _cw_40
        refine WL_nil ?_
        refine thn_nrm (_hK_38 _ _ ?_)
        clear _hK_38
        refine W_cond rfl (fun _h46 => ?_) (fun _h46 => ?_)
        · have _kb_41 := _h46
          refine W_seq fun _K_42 _hK_42 => ?_
          refine W_drawC [_b4] 9 mixed rfl fun _w_43 _cw_43 => ?_
          have _cw_43z := _cw_43.size
          have E := E.trans _cw_43
          have _f_44 := ((_mjb8.ch0 _cw_40).ch0 _cw_43)
          refine DR_s 0 rfl (by kernel_rfl) rfl rfl (t_loadAtA0 _f_44.at_ (fun i hm => by have _h1 := List.mem_singleton.1 hm; omega) agg29 sz29 rfl ?_)
          refine DR_s 1 rfl (by kernel_rfl) rfl rfl (t_v (fun _ => (r_move rfl)) ?_)
          refine DR_s 2 rfl (by kernel_rfl) rfl rfl (t_v (fun _ => (r_move rfl)) ?_)
          refine DR_s 3 rfl (by kernel_rfl) rfl rfl (t_v (fun _ => (r_move rfl)) ?_)
          have _f_45 := ((_f_39.ch0 _cw_40).ch0 _cw_43)
          refine DR_s 4 rfl (by kernel_rfl) rfl rfl (t_cut (ys := tb.flat) ta.flat.length ((((l.length : Nat) : Int) - 1).toNat) _f_45 Token.len el27 sz57 rfl ⟨_, _, rfl, by omega⟩ ⟨_, _, rfl, by omega⟩ (by omega) (by omega) (cut_b hla (by omega) (by omega)) fun _v51 _q51 _bb51 _ln51 => ?_)
          obtain ⟨_A51, _C51, _e51⟩ := _q51.val
          subst _e51
          have _l51 := _q51.len
          refine DR_s 5 rfl (by kernel_rfl) rfl rfl (t_v (fun _ => (r_move rfl)) ?_)
          refine DR_one 6 (by kernel_rfl) ?_
          refine DO_s rfl rfl rfl ?_
          refine Step.call (r_call (xs := [.tmp 51, .tmp 52]) fk63 rfl) (ih _q51 _ tb ob rfl (by omega) (by omega)) fun _v53 _w_46 _q53 => ?_
          obtain ⟨_u53, rfl, _q53, _lo53, _cw_46⟩ := _q53
          have _cw_46z := _cw_46.size
          have E := E.trans _cw_46
          obtain ⟨_Au53, _Cu53, _eu53⟩ := _q53.val
          subst _eu53
          have _lu53 := _q53.len
          have _hiu53 := _q53.lt
          have _S_47 : Ch [_b4] _w_43 _w_46 := ((Ch.refl _ _).trans _cw_46.of_nil)
          refine ⟨_S_47, ?_⟩
          refine DR_one 7 (by kernel_rfl) ?_
          refine DO_s rfl rfl rfl ?_
          have _f_48 := (((_qju8_0.ch0 _cw_40).ch0 _cw_43).ch0 _cw_46)
          refine Step.call (r_call (xs := [.tmp 47, .tmp 53]) fk90 rfl) (c_spec_UnionExpr _f_48.ls _q53.ls (by have _h129 := catE_len (derT letter ta) tb.flat; omega)) fun _v54 _w_49 _q54 => ?_
          obtain ⟨_u54, rfl, _q54, _lo54, _cw_49⟩ := _q54
          have _cw_49z := _cw_49.size
          have E := E.trans _cw_49
          obtain ⟨_Au54, _Cu54, _eu54⟩ := _q54.val
          subst _eu54
          have _lu54 := _q54.len
          have _hiu54 := _q54.lt
          have _S_50 : Ch [_b4] _w_43 _w_49 := (_S_47.trans _cw_49.of_nil)
          refine ⟨_S_50, ?_⟩
          refine DR_one 8 (by kernel_rfl) ?_
          refine DO_s rfl rfl rfl ?_
          have _f_51 := ((((((((_m4.ch0 _cw_6).ch _cw_7 (fun hm => by have _h1 := List.mem_singleton.1 hm; omega)).ch0 _cw_33).ch0 _cjK_34).ch0 _cw_40).ch0 _cw_43).ch0 _cw_46).ch0 _cw_49)
          refine s_storeA (off := 0) 1 _f_51 sz29 rfl (us := [(.slice _Au54 (uniE (catE (derT letter ta) tb.flat) (derT letter tb)).length _Cu54)]) rfl rfl rfl rfl fun _w_52 _m_53 _cw_52 => ?_
          have _cw_52z := _cw_52.size
          have E := E.step _cw_52 (fun i hi => .inl (by have _h1 := List.mem_singleton.1 hi; omega))
          replace _m_53 : Blk _w_52 _b4 29 [(.slice _Au54 (uniE (catE (derT letter ta) tb.flat) (derT letter tb)).length _Cu54)] := _m_53
          have _S_54 : Ch [_b4] _w_43 _w_52 := (_S_50.step _cw_52 (fun i hm => by have _h0 := List.mem_singleton.1 hm; exact .inr (by rw [_h0]; exact (List.mem_singleton.2 rfl))))
          refine ⟨_S_54, ?_⟩
          refine DR_done (by kernel_rfl) ?_
          refine thn_nrm (_hK_42 _ _ ?_)
          clear _hK_42
          refine W_ret (thn_ret (inB_ret (thn_ret ?_)))
          clear _hK_9 _hK_37
          have _f_56 := (_q54.ch _cw_52 (fun g hg hm => by have _h0 := List.mem_singleton.1 hm; have _h2 := _lo54 _ hg; have _h3 := _hiu54 _ hg; omega))
          have _o_55 : Ol Token.cs 57 4 _w_52 (.slice _Au54 (uniE (catE (derT letter ta) tb.flat) (derT letter tb)).length _Cu54) (derT letter t) := by
            have hx := _f_56
            exact hx.eq (by first | exact der3 hok (by omega) (by omega) | exact der0 hok (by omega) (by omega) | exact der4t hok (by omega) _hk0 _hk1 _h46 | exact der4f hok (by omega) _hk0 _hk1 _h46 | exact der5 hok (by omega) _hk0 _hk1 | (rw [hl]; exact der6 hok (by omega) _hk0) | (rw [_ht]; exact der7 hok (by omega) _hk0))
          exact ret_intro [_] (resOf_loadA _m_53 rfl agg29 sz29 trivial) ⟨_, rfl, _o_55, Lo.down _lo54 (by omega), E⟩
        · have _kb_41 := _h46
          refine W_skip ?_
          refine thn_nrm (_hK_37 _ _ ?_)
          clear _hK_37
          refine W_seq fun _K_57 _hK_57 => ?_
          refine W_region ?_
          have _f_58 := (_mjb8.ch0 _cw_40)
          refine WL_step rfl rfl (r_loadAtA0 _f_58.at_ agg29 sz29 rfl) ?_
          refine WL_s rfl rfl ?_
          have _f_59 := (((((_m4.ch0 _cw_6).ch _cw_7 (fun hm => by have _h1 := List.mem_singleton.1 hm; omega)).ch0 _cw_33).ch0 _cjK_34).ch0 _cw_40)
          refine s_storeA (off := 0) 1 _f_59 sz29 rfl (us := [(.slice _Aju8_0 (catE (derT letter ta) tb.flat).length _Cju8_0)]) rfl rfl rfl rfl fun _w_60 _m_61 _cw_60 => ?_
          have _cw_60z := _cw_60.size
          have E := E.step _cw_60 (fun i hi => .inl (by have _h1 := List.mem_singleton.1 hi; omega))
          replace _m_61 : Blk _w_60 _b4 29 [(.slice _Aju8_0 (catE (derT letter ta) tb.flat).length _Cju8_0)] := _m_61
          refine WL_nil ?_
          refine thn_nrm (_hK_57 _ _ ?_)
          clear _hK_57
          refine W_ret (inB_ret (thn_ret ?_))
          clear _hK_9
          have _f_63 := ((_qju8_0.ch0 _cw_40).ch _cw_60 (fun g hg hm => by have _h0 := List.mem_singleton.1 hm; have _h2 := _loju8_0 _ hg; have _h3 := _hiju8_0 _ hg; omega))
          have _o_62 : Ol Token.cs 57 4 _w_60 (.slice _Aju8_0 (catE (derT letter ta) tb.flat).length _Cju8_0) (derT letter t) := by
            have hx := _f_63
            exact hx.eq (by first | exact der3 hok (by omega) (by omega) | exact der0 hok (by omega) (by omega) | exact der4t hok (by omega) _hk0 _hk1 _h46 | exact der4f hok (by omega) _hk0 _hk1 _h46 | exact der5 hok (by omega) _hk0 _hk1 | (rw [hl]; exact der6 hok (by omega) _hk0) | (rw [_ht]; exact der7 hok (by omega) _hk0))
          exact ret_intro [_] (resOf_loadA _m_61 rfl agg29 sz29 trivial) ⟨_, rfl, _o_62, Lo.down _loju8_0 (by omega), E⟩
      clear _hK_34
      refine W_drawC [] 13 mixed rfl fun _w_64 _cw_64 => ?_
      have _cw_64z := _cw_64.size
      have E := E.trans _cw_64
      refine DR_s 0 rfl (by kernel_rfl) rfl rfl (t_v (fun _ => (r_move rfl)) ?_)
      refine DR_s 1 rfl (by kernel_rfl) rfl rfl (t_v (fun _ => (r_move rfl)) ?_)
      have _f_65 := ((_f_32.ch0 _cw_33).ch0 _cw_64)
      refine DR_s 2 rfl (by kernel_rfl) rfl rfl (t_cut (ys := ta.flat) 0 ta.flat.length _f_65 Token.len el27 sz57 rfl rfl ⟨_, _, rfl, by omega⟩ (by omega) (by omega) (show l.take _ = _ from cut_a hla (by omega)) fun _v34 _q34 _bb34 _ln34 => ?_)
      obtain ⟨_A34, _C34, _e34⟩ := _q34.val
      subst _e34
      have _l34 := _q34.len
      refine DR_s 3 rfl (by kernel_rfl) rfl rfl (t_v (fun _ => (r_move rfl)) ?_)
      refine DR_s 5 rfl (by kernel_rfl) rfl rfl (t_v (fun _ => (r_move rfl)) ?_)
      refine DR_s 6 rfl (by kernel_rfl) rfl rfl (t_v (fun _ => (r_move rfl)) ?_)
      refine DR_s 7 rfl (by kernel_rfl) rfl rfl (t_v (fun _ => (r_move rfl)) ?_)
      refine DR_s 8 rfl (by kernel_rfl) rfl rfl (t_cut (ys := tb.flat) ta.flat.length ((((l.length : Nat) : Int) - 1).toNat) _f_65 Token.len el27 sz57 rfl ⟨_, _, rfl, by omega⟩ ⟨_, _, rfl, by omega⟩ (by omega) (by omega) (cut_b hla (by omega) (by omega)) fun _v40 _q40 _bb40 _ln40 => ?_)
      obtain ⟨_A40, _C40, _e40⟩ := _q40.val
      subst _e40
      have _l40 := _q40.len
      refine DR_s 9 rfl (by kernel_rfl) rfl rfl (t_v (fun _ => (r_build (parts := [(0, .tmp 40)]) (cells := [(.slice _A40 (tb.flat).length _C40)]) zr29 pl29 rfl rfl)) ?_)
      refine DR_two 4 11 (by kernel_rfl) ?_ ?_
      · refine DO_s rfl rfl rfl ?_
        refine Step.call (r_call (xs := [.tmp 34, .tmp 35]) fk63 rfl) (ih _q34 _ ta oa rfl (by omega) (by omega)) fun _v36 _w_66 _q36 => ?_
        obtain ⟨_u36, rfl, _q36, _lo36, _cw_66⟩ := _q36
        have _cw_66z := _cw_66.size
        have E := E.trans _cw_66
        obtain ⟨_Au36, _Cu36, _eu36⟩ := _q36.val
        subst _eu36
        have _lu36 := _q36.len
        have _hiu36 := _q36.lt
        have _S_67 : Ch [] _w_64 _w_66 := ((Ch.refl _ _).trans _cw_66)
        refine ⟨_S_67, ?_⟩
        refine DR_two 10 11 (by kernel_rfl) ?_ ?_
        · refine DO_s rfl rfl rfl ?_
          have _f_68 := (_q40.ch0 _cw_66)
          refine Step.call (r_call (xs := [.tmp 36, .tmp 41]) fk89 rfl) (c_spec_ConcatExpr _q36.ls _f_68 (by omega)) fun _v42 _w_69 _q42 => ?_
          obtain ⟨_u42, rfl, _q42, _lo42, _cw_69⟩ := _q42
          have _cw_69z := _cw_69.size
          have E := E.trans _cw_69
          obtain ⟨_Au42, _Cu42, _eu42⟩ := _q42.val
          subst _eu42
          have _lu42 := _q42.len
          have _hiu42 := _q42.lt
          have _S_70 : Ch [] _w_64 _w_69 := (_S_67.trans _cw_69)
          refine ⟨_S_70, ?_⟩
          refine DR_one 11 (by kernel_rfl) ?_
          refine DO_s rfl rfl rfl ?_
          refine s_alloc zr29 fun _b8 _w_71 _m8 _cw_71 _e8 => ?_
          have _cw_71z := _cw_71.size
          have E := E.trans _cw_71
          have _z8 := _m8.lt
          replace _m8 : Blk _w_71 _b8 29 [(.slice none 0 0)] := _m8
          have _S_72 : Ch [] _w_64 _w_71 := (_S_70.trans _cw_71)
          refine ⟨_S_72, ?_⟩
          refine DR_one 12 (by kernel_rfl) ?_
          refine DO_s rfl rfl rfl ?_
          refine s_storeA (off := 0) 1 _m8 sz29 rfl (us := [(.slice _Au42 (catE (derT letter ta) tb.flat).length _Cu42)]) rfl rfl rfl rfl fun _w_73 _m_74 _cw_73 => ?_
          have _cw_73z := _cw_73.size
          have E := E.step _cw_73 (fun i hi => .inl (by have _h1 := List.mem_singleton.1 hi; omega))
          replace _m_74 : Blk _w_73 _b8 29 [(.slice _Au42 (catE (derT letter ta) tb.flat).length _Cu42)] := _m_74
          have _S_75 : Ch [] _w_64 _w_73 := (_S_72.step _cw_73 (fun i hm => by have _h0 := List.mem_singleton.1 hm; left; omega))
          refine ⟨_S_75, ?_⟩
          refine DR_done (by kernel_rfl) ?_
          refine thn_nrm ?_
          have _f_76 := ((_q42.ch0 _cw_71).ch _cw_73 (fun g hg hm => by have _h0 := List.mem_singleton.1 hm; have _h2 := _lo42 _ hg; have _h3 := _hiu42 _ hg; omega))
          exact _J_36 _ _ _b8 (.slice _Au42 (catE (derT letter ta) tb.flat).length _Cu42) (Sub.cons rfl (Sub.cons rfl (Sub.cons rfl (Sub.cons rfl (Sub.cons rfl (Sub.cons rfl (Sub.cons rfl (Sub.cons rfl (Sub.nil _))))))))) ((((((Ch.refl [] _w_33).trans _cw_64).trans _cw_66).trans _cw_69).trans _cw_71).step _cw_73 (fun i hi => .inl (by have _h1 := List.mem_singleton.1 hi; omega))) _f_76 (Lo.down _lo42 (by omega)) _m_74 (by omega) (fun hm => by have _h1 := _lo42 _ hm; have _h2 := _hiu42 _ hm; omega)
        · refine DO_s rfl rfl rfl ?_
          refine s_alloc zr29 fun _b8 _w_77 _m8 _cw_77 _e8 => ?_
          have _cw_77z := _cw_77.size
          have E := E.trans _cw_77
          have _z8 := _m8.lt
          replace _m8 : Blk _w_77 _b8 29 [(.slice none 0 0)] := _m8
          have _S_78 : Ch [] _w_64 _w_77 := (_S_67.trans _cw_77)
          refine ⟨_S_78, ?_⟩
          refine DR_one 10 (by kernel_rfl) ?_
          refine DO_s rfl rfl rfl ?_
          have _f_79 := (_q36.ch0 _cw_77)
          have _f_80 := ((_q40.ch0 _cw_66).ch0 _cw_77)
          refine Step.call (r_call (xs := [.tmp 36, .tmp 41]) fk89 rfl) (c_spec_ConcatExpr _f_79.ls _f_80 (by omega)) fun _v42 _w_81 _q42 => ?_
          obtain ⟨_u42, rfl, _q42, _lo42, _cw_81⟩ := _q42
          have _cw_81z := _cw_81.size
          have E := E.trans _cw_81
          obtain ⟨_Au42, _Cu42, _eu42⟩ := _q42.val
          subst _eu42
          have _lu42 := _q42.len
          have _hiu42 := _q42.lt
          have _S_82 : Ch [] _w_64 _w_81 := (_S_78.trans _cw_81)
          refine ⟨_S_82, ?_⟩
          refine DR_one 12 (by kernel_rfl) ?_
          refine DO_s rfl rfl rfl ?_
          have _f_83 := (_m8.ch0 _cw_81)
          refine s_storeA (off := 0) 1 _f_83 sz29 rfl (us := [(.slice _Au42 (catE (derT letter ta) tb.flat).length _Cu42)]) rfl rfl rfl rfl fun _w_84 _m_85 _cw_84 => ?_
          have _cw_84z := _cw_84.size
          have E := E.step _cw_84 (fun i hi => .inl (by have _h1 := List.mem_singleton.1 hi; omega))
          replace _m_85 : Blk _w_84 _b8 29 [(.slice _Au42 (catE (derT letter ta) tb.flat).length _Cu42)] := _m_85
          have _S_86 : Ch [] _w_64 _w_84 := (_S_82.step _cw_84 (fun i hm => by have _h0 := List.mem_singleton.1 hm; left; omega))
          refine ⟨_S_86, ?_⟩
          refine DR_done (by kernel_rfl) ?_
          refine thn_nrm ?_
          have _f_87 := (_q42.ch _cw_84 (fun g hg hm => by have _h0 := List.mem_singleton.1 hm; have _h2 := _lo42 _ hg; have _h3 := _hiu42 _ hg; omega))
          exact _J_36 _ _ _b8 (.slice _Au42 (catE (derT letter ta) tb.flat).length _Cu42) (Sub.cons rfl (Sub.cons rfl (Sub.cons rfl (Sub.cons rfl (Sub.cons rfl (Sub.cons rfl (Sub.cons rfl (Sub.cons rfl (Sub.nil _))))))))) ((((((Ch.refl [] _w_33).trans _cw_64).trans _cw_66).trans _cw_77).trans _cw_81).step _cw_84 (fun i hi => .inl (by have _h1 := List.mem_singleton.1 hi; omega))) _f_87 (Lo.down _lo42 (by omega)) _m_85 (by omega) (fun hm => by have _h1 := _lo42 _ hm; have _h2 := _hiu42 _ hm; omega)
      · refine DO_s rfl rfl rfl ?_
        refine s_alloc zr29 fun _b8 _w_88 _m8 _cw_88 _e8 => ?_
        have _cw_88z := _cw_88.size
        have E := E.trans _cw_88
        have _z8 := _m8.lt
        replace _m8 : Blk _w_88 _b8 29 [(.slice none 0 0)] := _m8
        have _S_89 : Ch [] _w_64 _w_88 := ((Ch.refl _ _).trans _cw_88)
        refine ⟨_S_89, ?_⟩
        refine DR_one 4 (by kernel_rfl) ?_
        refine DO_s rfl rfl rfl ?_
        have _f_90 := (_q34.ch0 _cw_88)
        refine Step.call (r_call (xs := [.tmp 34, .tmp 35]) fk63 rfl) (ih _f_90 _ ta oa rfl (by omega) (by omega)) fun _v36 _w_91 _q36 => ?_
        obtain ⟨_u36, rfl, _q36, _lo36, _cw_91⟩ := _q36
        have _cw_91z := _cw_91.size
        have E := E.trans _cw_91
        obtain ⟨_Au36, _Cu36, _eu36⟩ := _q36.val
        subst _eu36
        have _lu36 := _q36.len
        have _hiu36 := _q36.lt
        have _S_92 : Ch [] _w_64 _w_91 := (_S_89.trans _cw_91)
        refine ⟨_S_92, ?_⟩
        refine DR_one 10 (by kernel_rfl) ?_
        refine DO_s rfl rfl rfl ?_
        have _f_93 := ((_q40.ch0 _cw_88).ch0 _cw_91)
        refine Step.call (r_call (xs := [.tmp 36, .tmp 41]) fk89 rfl) (c_spec_ConcatExpr _q36.ls _f_93 (by omega)) fun _v42 _w_94 _q42 => ?_
        obtain ⟨_u42, rfl, _q42, _lo42, _cw_94⟩ := _q42
        have _cw_94z := _cw_94.size
        have E := E.trans _cw_94
        obtain ⟨_Au42, _Cu42, _eu42⟩ := _q42.val
        subst _eu42
        have _lu42 := _q42.len
        have _hiu42 := _q42.lt
        have _S_95 : Ch [] _w_64 _w_94 := (_S_92.trans _cw_94)
        refine ⟨_S_95, ?_⟩
        refine DR_one 12 (by kernel_rfl) ?_
        refine DO_s rfl rfl rfl ?_
        have _f_96 := ((_m8.ch0 _cw_91).ch0 _cw_94)
        refine s_storeA (off := 0) 1 _f_96 sz29 rfl (us := [(.slice _Au42 (catE (derT letter ta) tb.flat).length _Cu42)]) rfl rfl rfl rfl fun _w_97 _m_98 _cw_97 => ?_
        have _cw_97z := _cw_97.size
        have E := E.step _cw_97 (fun i hi => .inl (by have _h1 := List.mem_singleton.1 hi; omega))
        replace _m_98 : Blk _w_97 _b8 29 [(.slice _Au42 (catE (derT letter ta) tb.flat).length _Cu42)] := _m_98
        have _S_99 : Ch [] _w_64 _w_97 := (_S_95.step _cw_97 (fun i hm => by have _h0 := List.mem_singleton.1 hm; left; omega))
        refine ⟨_S_99, ?_⟩
        refine DR_done (by kernel_rfl) ?_
        refine thn_nrm ?_
        have _f_100 := (_q42.ch _cw_97 (fun g hg hm => by have _h0 := List.mem_singleton.1 hm; have _h2 := _lo42 _ hg; have _h3 := _hiu42 _ hg; omega))
        exact _J_36 _ _ _b8 (.slice _Au42 (catE (derT letter ta) tb.flat).length _Cu42) (Sub.cons rfl (Sub.cons rfl (Sub.cons rfl (Sub.cons rfl (Sub.cons rfl (Sub.cons rfl (Sub.cons rfl (Sub.cons rfl (Sub.nil _))))))))) ((((((Ch.refl [] _w_33).trans _cw_64).trans _cw_88).trans _cw_91).trans _cw_94).step _cw_97 (fun i hi => .inl (by have _h1 := List.mem_singleton.1 hi; omega))) _f_100 (Lo.down _lo42 (by omega)) _m_98 (by omega) (fun hm => by have _h1 := _lo42 _ hm; have _h2 := _hiu42 _ hm; omega)
    · have _kb_30 := _h26
      have _h26 := bf_d _h26
      refine W_seq fun _K_101 _hK_101 => ?_
      refine W_region ?_
      refine WL_step rfl rfl (r_eql rfl rfl) ?_
      refine WL_step rfl rfl (r_assign rfl) ?_
      refine WL_nil ?_
      refine thn_nrm (_hK_101 _ _ ?_)
      clear _hK_101
      refine W_cond rfl (fun _h56 => ?_) (fun _h56 => ?_)
      · have _kb_102 := _h56
        have _h56 := bt_d _h56
        obtain ⟨ta, tb, et, oa, ob, hla, hn2⟩ := hok.k2 (by omega) _ht hl
        have _hk0 : t.kids[0]? = some ta := by rw [et]; rfl
        have _hk1 : t.kids[1]? = some tb := by rw [et]; rfl
        have ga := ta.flat_len
        have gb := tb.flat_len
        have da := derT_le letter ta (by omega)
        have db := derT_le letter tb (by omega)
        refine W_seq fun _K_103 _hK_103 => ?_
        refine W_region ?_
        refine WL_step rfl rfl (r_move rfl) ?_
        refine WL_step rfl rfl (r_move rfl) ?_
        refine WL_s rfl rfl ?_
        have _f_104 := ((_f_5.ch0 _cw_6).ch _cw_7 (fun i hi => by have _h1 := List.mem_singleton.1 hi; omega))
        refine (s_cut (ys := (ta.flat ++ tb.flat)) 0 ((((l.length : Nat) : Int) - 1).toNat) _f_104 Token.len el27 sz57 rfl rfl ⟨_, _, rfl, by omega⟩ (by omega) (by omega) (show l.take _ = _ from cut_ab hla (by omega)) fun _v60 _q60 _bb60 _ln60 => ?_)
        obtain ⟨_A60, _C60, _e60⟩ := _q60.val
        subst _e60
        have _l60 := _q60.len
        refine WL_s rfl rfl ?_
        refine Step.call (r_call (xs := [.tmp 60]) fk56 rfl) (c_spec_l8Start _q60 ta.flat tb ob rfl) fun _v61 _w_105 _q61 => ?_
        obtain ⟨rfl, _cw_105⟩ := _q61
        have _cw_105z := _cw_105.size
        have E := E.trans _cw_105
        refine WL_step rfl rfl (r_assign rfl) ?_
        refine WL_nil ?_
        refine thn_nrm (_hK_103 _ _ ?_)
        clear _hK_103
        refine W_seq fun _K_106 _hK_106 => ?_
        refine W_drawC [_b4] 13 mixed rfl fun _w_107 _cw_107 => ?_
        have _cw_107z := _cw_107.size
        have E := E.trans _cw_107
        refine DR_s 0 rfl (by kernel_rfl) rfl rfl (t_v (fun _ => (r_move rfl)) ?_)
        refine DR_s 1 rfl (by kernel_rfl) rfl rfl (t_v (fun _ => (r_move rfl)) ?_)
        have _f_108 := ((_f_104.ch0 _cw_105).ch0 _cw_107)
        refine DR_s 2 rfl (by kernel_rfl) rfl rfl (t_cut (ys := ta.flat) 0 ta.flat.length _f_108 Token.len el27 sz57 rfl rfl ⟨_, _, rfl, by omega⟩ (by omega) (by omega) (show l.take _ = _ from cut_a hla (by omega)) fun _v64 _q64 _bb64 _ln64 => ?_)
        obtain ⟨_A64, _C64, _e64⟩ := _q64.val
        subst _e64
        have _l64 := _q64.len
        refine DR_s 3 rfl (by kernel_rfl) rfl rfl (t_v (fun _ => (r_move rfl)) ?_)
        refine DR_s 5 rfl (by kernel_rfl) rfl rfl (t_v (fun _ => (r_move rfl)) ?_)
        refine DR_s 6 rfl (by kernel_rfl) rfl rfl (t_v (fun _ => (r_move rfl)) ?_)
        refine DR_s 7 rfl (by kernel_rfl) rfl rfl (t_v (fun _ => (r_move rfl)) ?_)
        refine DR_s 8 rfl (by kernel_rfl) rfl rfl (t_cut (ys := tb.flat) ta.flat.length ((((l.length : Nat) : Int) - 1).toNat) _f_108 Token.len el27 sz57 rfl ⟨_, _, rfl, by omega⟩ ⟨_, _, rfl, by omega⟩ (by omega) (by omega) (cut_b hla (by omega) (by omega)) fun _v70 _q70 _bb70 _ln70 => ?_)
        obtain ⟨_A70, _C70, _e70⟩ := _q70.val
        subst _e70
        have _l70 := _q70.len
        refine DR_s 9 rfl (by kernel_rfl) rfl rfl (t_v (fun _ => (r_move rfl)) ?_)
        refine DR_one 4 (by kernel_rfl) ?_
        refine DO_s rfl rfl rfl ?_
        refine Step.call (r_call (xs := [.tmp 64, .tmp 65]) fk63 rfl) (ih _q64 _ ta oa rfl (by omega) (by omega)) fun _v66 _w_109 _q66 => ?_
        obtain ⟨_u66, rfl, _q66, _lo66, _cw_109⟩ := _q66
        have _cw_109z := _cw_109.size
        have E := E.trans _cw_109
        obtain ⟨_Au66, _Cu66, _eu66⟩ := _q66.val
        subst _eu66
        have _lu66 := _q66.len
        have _hiu66 := _q66.lt
        have _S_110 : Ch [_b4] _w_107 _w_109 := ((Ch.refl _ _).trans _cw_109.of_nil)
        refine ⟨_S_110, ?_⟩
        refine DR_one 10 (by kernel_rfl) ?_
        refine DO_s rfl rfl rfl ?_
        have _f_111 := (_q70.ch0 _cw_109)
        refine Step.call (r_call (xs := [.tmp 70, .tmp 71]) fk63 rfl) (ih _f_111 _ tb ob rfl (by omega) (by omega)) fun _v72 _w_112 _q72 => ?_
        obtain ⟨_u72, rfl, _q72, _lo72, _cw_112⟩ := _q72
        have _cw_112z := _cw_112.size
        have E := E.trans _cw_112
        obtain ⟨_Au72, _Cu72, _eu72⟩ := _q72.val
        subst _eu72
        have _lu72 := _q72.len
        have _hiu72 := _q72.lt
        have _S_113 : Ch [_b4] _w_107 _w_112 := (_S_110.trans _cw_112.of_nil)
        refine ⟨_S_113, ?_⟩
        refine DR_one 11 (by kernel_rfl) ?_
        refine DO_s rfl rfl rfl ?_
        have _f_114 := (_q66.ch0 _cw_112)
        refine Step.call (r_call (xs := [.tmp 66, .tmp 72]) fk90 rfl) (c_spec_UnionExpr _f_114.ls _q72.ls (by omega)) fun _v73 _w_115 _q73 => ?_
        obtain ⟨_u73, rfl, _q73, _lo73, _cw_115⟩ := _q73
        have _cw_115z := _cw_115.size
        have E := E.trans _cw_115
        obtain ⟨_Au73, _Cu73, _eu73⟩ := _q73.val
        subst _eu73
        have _lu73 := _q73.len
        have _hiu73 := _q73.lt
        have _S_116 : Ch [_b4] _w_107 _w_115 := (_S_113.trans _cw_115.of_nil)
        refine ⟨_S_116, ?_⟩
        refine DR_one 12 (by kernel_rfl) ?_
        refine DO_s rfl rfl rfl ?_
        have _f_117 := (((((((_m4.ch0 _cw_6).ch _cw_7 (fun hm => by have _h1 := List.mem_singleton.1 hm; omega)).ch0 _cw_105).ch0 _cw_107).ch0 _cw_109).ch0 _cw_112).ch0 _cw_115)
        refine s_storeA (off := 0) 1 _f_117 sz29 rfl (us := [(.slice _Au73 (uniE (derT letter ta) (derT letter tb)).length _Cu73)]) rfl rfl rfl rfl fun _w_118 _m_119 _cw_118 => ?_
        have _cw_118z := _cw_118.size
        have E := E.step _cw_118 (fun i hi => .inl (by have _h1 := List.mem_singleton.1 hi; omega))
        replace _m_119 : Blk _w_118 _b4 29 [(.slice _Au73 (uniE (derT letter ta) (derT letter tb)).length _Cu73)] := _m_119
        have _S_120 : Ch [_b4] _w_107 _w_118 := (_S_116.step _cw_118 (fun i hm => by have _h0 := List.mem_singleton.1 hm; exact .inr (by rw [_h0]; exact (List.mem_singleton.2 rfl))))
        refine ⟨_S_120, ?_⟩
        refine DR_done (by kernel_rfl) ?_
        refine thn_nrm (_hK_106 _ _ ?_)
        clear _hK_106
        refine W_ret (inB_ret (thn_ret ?_))
        clear _hK_9
        have _f_122 := (_q73.ch _cw_118 (fun g hg hm => by have _h0 := List.mem_singleton.1 hm; have _h2 := _lo73 _ hg; have _h3 := _hiu73 _ hg; omega))
        have _o_121 : Ol Token.cs 57 4 _w_118 (.slice _Au73 (uniE (derT letter ta) (derT letter tb)).length _Cu73) (derT letter t) := by
          have hx := _f_122
          exact hx.eq (by first | exact der3 hok (by omega) (by omega) | exact der0 hok (by omega) (by omega) | exact der4t hok (by omega) _hk0 _hk1 _h46 | exact der4f hok (by omega) _hk0 _hk1 _h46 | exact der5 hok (by omega) _hk0 _hk1 | (rw [hl]; exact der6 hok (by omega) _hk0) | (rw [_ht]; exact der7 hok (by omega) _hk0))
        exact ret_intro [_] (resOf_loadA _m_119 rfl agg29 sz29 trivial) ⟨_, rfl, _o_121, Lo.down _lo73 (by omega), E⟩
      · have _kb_102 := _h56
        have _h56 := bf_d _h56
        refine W_seq fun _K_123 _hK_123 => ?_
        refine W_region ?_
        refine WL_step rfl rfl (r_eql rfl rfl) ?_
        refine WL_step rfl rfl (r_assign rfl) ?_
        refine WL_nil ?_
        refine thn_nrm (_hK_123 _ _ ?_)
        clear _hK_123
        refine W_cond rfl (fun _h74 => ?_) (fun _h74 => ?_)
        · have _kb_124 := _h74
          have _h74 := bt_d _h74
          obtain ⟨ta, et, oa, hla, hn2⟩ := hok.k1 (by omega) _ht hl
          have _hk0 : t.kids[0]? = some ta := by rw [et]; rfl
          have ga := ta.flat_len
          have da := derT_le letter ta (by omega)
          refine W_seq fun _K_125 _hK_125 => ?_
          refine W_region ?_
          refine WL_step rfl rfl (r_move rfl) ?_
          refine WL_step rfl rfl (r_move rfl) ?_
          refine WL_s rfl rfl ?_
          have _f_126 := ((_f_5.ch0 _cw_6).ch _cw_7 (fun i hi => by have _h1 := List.mem_singleton.1 hi; omega))
          refine (s_cut (ys := ta.flat) 0 ((((l.length : Nat) : Int) - 1).toNat) _f_126 Token.len el27 sz57 rfl rfl ⟨_, _, rfl, by omega⟩ (by omega) (by omega) (show l.take _ = _ from cut_1 hla (by omega)) fun _v78 _q78 _bb78 _ln78 => ?_)
          obtain ⟨_A78, _C78, _e78⟩ := _q78.val
          subst _e78
          have _l78 := _q78.len
          refine WL_step rfl rfl (r_move rfl) ?_
          refine WL_s rfl rfl ?_
          refine Step.call (r_call (xs := [.tmp 78, .tmp 79]) fk63 rfl) (ih _q78 _ ta oa rfl (by omega) (by omega)) fun _v80 _w_127 _q80 => ?_
          obtain ⟨_u80, rfl, _q80, _lo80, _cw_127⟩ := _q80
          have _cw_127z := _cw_127.size
          have E := E.trans _cw_127
          obtain ⟨_Au80, _Cu80, _eu80⟩ := _q80.val
          subst _eu80
          have _lu80 := _q80.len
          have _hiu80 := _q80.lt
          refine WL_step rfl rfl (r_move rfl) ?_
          refine WL_step rfl rfl (r_build (parts := [(0, .tmp 81)]) (cells := [(.slice _A_l l.length _C_l)]) zr29 pl29 rfl rfl) ?_
          refine WL_s rfl rfl ?_
          have _f_128 := (_f_126.ch0 _cw_127)
          refine Step.call (r_call (xs := [.tmp 80, .tmp 82]) fk89 rfl) (c_spec_ConcatExpr _q80.ls _f_128 (by omega)) fun _v83 _w_129 _q83 => ?_
          obtain ⟨_u83, rfl, _q83, _lo83, _cw_129⟩ := _q83
          have _cw_129z := _cw_129.size
          have E := E.trans _cw_129
          obtain ⟨_Au83, _Cu83, _eu83⟩ := _q83.val
          subst _eu83
          have _lu83 := _q83.len
          have _hiu83 := _q83.lt
          refine WL_s rfl rfl ?_
          have _f_130 := ((((_m4.ch0 _cw_6).ch _cw_7 (fun hm => by have _h1 := List.mem_singleton.1 hm; omega)).ch0 _cw_127).ch0 _cw_129)
          refine s_storeA (off := 0) 1 _f_130 sz29 rfl (us := [(.slice _Au83 (catE (derT letter ta) l).length _Cu83)]) rfl rfl rfl rfl fun _w_131 _m_132 _cw_131 => ?_
          have _cw_131z := _cw_131.size
          have E := E.step _cw_131 (fun i hi => .inl (by have _h1 := List.mem_singleton.1 hi; omega))
          replace _m_132 : Blk _w_131 _b4 29 [(.slice _Au83 (catE (derT letter ta) l).length _Cu83)] := _m_132
          refine WL_nil ?_
          refine thn_nrm (_hK_125 _ _ ?_)
          clear _hK_125
          refine W_ret (inB_ret (thn_ret ?_))
          clear _hK_9
          have _f_134 := (_q83.ch _cw_131 (fun g hg hm => by have _h0 := List.mem_singleton.1 hm; have _h2 := _lo83 _ hg; have _h3 := _hiu83 _ hg; omega))
          have _o_133 : Ol Token.cs 57 4 _w_131 (.slice _Au83 (catE (derT letter ta) l).length _Cu83) (derT letter t) := by
            have hx := _f_134
            exact hx.eq (by first | exact der3 hok (by omega) (by omega) | exact der0 hok (by omega) (by omega) | exact der4t hok (by omega) _hk0 _hk1 _h46 | exact der4f hok (by omega) _hk0 _hk1 _h46 | exact der5 hok (by omega) _hk0 _hk1 | (rw [hl]; exact der6 hok (by omega) _hk0) | (rw [_ht]; exact der7 hok (by omega) _hk0))
          exact ret_intro [_] (resOf_loadA _m_132 rfl agg29 sz29 trivial) ⟨_, rfl, _o_133, Lo.down _lo83 (by omega), E⟩
        · have _kb_124 := _h74
          have _h74 := bf_d _h74
          refine W_seq fun _K_135 _hK_135 => ?_
          refine W_region ?_
          refine WL_step rfl rfl (r_eql rfl rfl) ?_
          refine WL_step rfl rfl (r_assign rfl) ?_
          refine WL_nil ?_
          refine thn_nrm (_hK_135 _ _ ?_)
          clear _hK_135
          refine W_cond rfl (fun _h84 => ?_) (fun _h84 => ?_)
          · have _kb_136 := _h84
            have _h84 := bt_d _h84
            obtain ⟨ta, et, oa, hla, hn2⟩ := hok.k1 (by omega) _ht hl
            have _hk0 : t.kids[0]? = some ta := by rw [et]; rfl
            have ga := ta.flat_len
            have da := derT_le letter ta (by omega)
            have r7 := hok.r7 (by omega)
            refine W_seq fun _K_137 _hK_137 => ?_
            refine W_drawC [_b4] 19 mixed rfl fun _w_138 _cw_138 => ?_
            have _cw_138z := _cw_138.size
            have E := E.trans _cw_138
            refine DR_s 0 rfl (by kernel_rfl) rfl rfl (t_v (fun _ => (r_move rfl)) ?_)
            refine DR_s 1 rfl (by kernel_rfl) rfl rfl (t_v (fun _ => (r_move rfl)) ?_)
            have _f_139 := (((_f_5.ch0 _cw_6).ch _cw_7 (fun i hi => by have _h1 := List.mem_singleton.1 hi; omega)).ch0 _cw_138)
            refine DR_s 2 rfl (by kernel_rfl) rfl rfl (t_cut (ys := ta.flat) 0 ((((l.length : Nat) : Int) - 1).toNat) _f_139 Token.len el27 sz57 rfl rfl ⟨_, _, rfl, by omega⟩ (by omega) (by omega) (show l.take _ = _ from cut_1 hla (by omega)) fun _v88 _q88 _bb88 _ln88 => ?_)
            obtain ⟨_A88, _C88, _e88⟩ := _q88.val
            subst _e88
            have _l88 := _q88.len
            refine DR_s 3 rfl (by kernel_rfl) rfl rfl (t_v (fun _ => (r_move rfl)) ?_)
            refine DR_s 5 rfl (by kernel_rfl) rfl rfl (t_v (fun _ => (r_move rfl)) ?_)
            refine DR_s 6 rfl (by kernel_rfl) rfl rfl (t_v (fun _ => (r_move rfl)) ?_)
            refine DR_s 7 rfl (by kernel_rfl) rfl rfl (t_cut (ys := ta.flat) 0 ((((l.length : Nat) : Int) - 1).toNat) _f_139 Token.len el27 sz57 rfl rfl ⟨_, _, rfl, by omega⟩ (by omega) (by omega) (show l.take _ = _ from cut_1 hla (by omega)) fun _v93 _q93 _bb93 _ln93 => ?_)
            obtain ⟨_A93, _C93, _e93⟩ := _q93.val
            subst _e93
            have _l93 := _q93.len
            refine DR_s 8 rfl (by kernel_rfl) rfl rfl (t_v (fun _ => (r_build (parts := [(0, .tmp 93)]) (cells := [(.slice _A93 (ta.flat).length _C93)]) zr29 pl29 rfl rfl)) ?_)
            refine DR_s 9 rfl (by kernel_rfl) rfl rfl (t_v (fun _ => (r_fieldAddr fa57_2 rfl)) ?_)
            have _f_140 := (_m_8.ch0 _cw_138)
            refine DR_s 10 rfl (by kernel_rfl) rfl rfl (t_loadAt _f_140.at_ (fun i hm => by have _h1 := List.mem_singleton.1 hm; omega) agg3 rfl rfl ?_)
            refine DR_s 11 rfl (by kernel_rfl) rfl rfl (t_v (fun _ => (r_sub (by omega) rfl rfl)) ?_)
            refine DR_s 12 rfl (by kernel_rfl) rfl rfl (t_v (fun _ => (r_max rfl rfl)) ?_)
            refine DR_s 13 rfl (by kernel_rfl) rfl rfl (t_v (fun _ => (r_fieldAddr fa57_3 rfl)) ?_)
            refine DR_s 14 rfl (by kernel_rfl) rfl rfl (t_loadAt _f_140.at_ (fun i hm => by have _h1 := List.mem_singleton.1 hm; omega) agg3 rfl rfl ?_)
            refine DR_s 15 rfl (by kernel_rfl) rfl rfl (t_v (fun _ => (r_sub (by omega) rfl rfl)) ?_)
            refine DR_one 4 (by kernel_rfl) ?_
            refine DO_s rfl rfl rfl ?_
            refine Step.call (r_call (xs := [.tmp 88, .tmp 89]) fk63 rfl) (ih _q88 _ ta oa rfl (by omega) (by omega)) fun _v90 _w_141 _q90 => ?_
            obtain ⟨_u90, rfl, _q90, _lo90, _cw_141⟩ := _q90
            have _cw_141z := _cw_141.size
            have E := E.trans _cw_141
            obtain ⟨_Au90, _Cu90, _eu90⟩ := _q90.val
            subst _eu90
            have _lu90 := _q90.len
            have _hiu90 := _q90.lt
            have _S_142 : Ch [_b4] _w_138 _w_141 := ((Ch.refl _ _).trans _cw_141.of_nil)
            refine ⟨_S_142, ?_⟩
            refine DR_one 16 (by kernel_rfl) ?_
            refine DO_s rfl rfl rfl ?_
            have _f_143 := (_q93.ch0 _cw_141)
            refine Step.call (r_call (xs := [.tmp 94, .tmp 98, .tmp 101]) fk91 rfl) (c_spec_RepeatExpr _f_143 _ _ (by omega)) fun _v102 _w_144 _q102 => ?_
            obtain ⟨_u102, rfl, _q102, _lo102, _cw_144⟩ := _q102
            have _cw_144z := _cw_144.size
            have E := E.trans _cw_144
            obtain ⟨_Au102, _Cu102, _eu102⟩ := _q102.val
            subst _eu102
            have _lu102 := _q102.len
            have _hiu102 := _q102.lt
            have _S_145 : Ch [_b4] _w_138 _w_144 := (_S_142.trans _cw_144.of_nil)
            refine ⟨_S_145, ?_⟩
            refine DR_one 17 (by kernel_rfl) ?_
            refine DO_s rfl rfl rfl ?_
            have _f_146 := (_q90.ch0 _cw_144)
            refine Step.call (r_call (xs := [.tmp 90, .tmp 102]) fk89 rfl) (c_spec_ConcatExpr _f_146.ls _q102.ls (by have _h169 := repE_len ta.flat (if (_y15.low - 1) > 0 then (_y15.low - 1) else 0) (_y15.high - 1); omega)) fun _v103 _w_147 _q103 => ?_
            obtain ⟨_u103, rfl, _q103, _lo103, _cw_147⟩ := _q103
            have _cw_147z := _cw_147.size
            have E := E.trans _cw_147
            obtain ⟨_Au103, _Cu103, _eu103⟩ := _q103.val
            subst _eu103
            have _lu103 := _q103.len
            have _hiu103 := _q103.lt
            have _S_148 : Ch [_b4] _w_138 _w_147 := (_S_145.trans _cw_147.of_nil)
            refine ⟨_S_148, ?_⟩
            refine DR_one 18 (by kernel_rfl) ?_
            refine DO_s rfl rfl rfl ?_
            have _f_149 := ((((((_m4.ch0 _cw_6).ch _cw_7 (fun hm => by have _h1 := List.mem_singleton.1 hm; omega)).ch0 _cw_138).ch0 _cw_141).ch0 _cw_144).ch0 _cw_147)
            refine s_storeA (off := 0) 1 _f_149 sz29 rfl (us := [(.slice _Au103 (catE (derT letter ta) (repE ta.flat (if (_y15.low - 1) > 0 then (_y15.low - 1) else 0) (_y15.high - 1))).length _Cu103)]) rfl rfl rfl rfl fun _w_150 _m_151 _cw_150 => ?_
            have _cw_150z := _cw_150.size
            have E := E.step _cw_150 (fun i hi => .inl (by have _h1 := List.mem_singleton.1 hi; omega))
            replace _m_151 : Blk _w_150 _b4 29 [(.slice _Au103 (catE (derT letter ta) (repE ta.flat (if (_y15.low - 1) > 0 then (_y15.low - 1) else 0) (_y15.high - 1))).length _Cu103)] := _m_151
            have _S_152 : Ch [_b4] _w_138 _w_150 := (_S_148.step _cw_150 (fun i hm => by have _h0 := List.mem_singleton.1 hm; exact .inr (by rw [_h0]; exact (List.mem_singleton.2 rfl))))
            refine ⟨_S_152, ?_⟩
            refine DR_done (by kernel_rfl) ?_
            refine thn_nrm (_hK_137 _ _ ?_)
            clear _hK_137
            refine W_ret (inB_ret (thn_ret ?_))
            clear _hK_9
            have _f_154 := (_q103.ch _cw_150 (fun g hg hm => by have _h0 := List.mem_singleton.1 hm; have _h2 := _lo103 _ hg; have _h3 := _hiu103 _ hg; omega))
            have _o_153 : Ol Token.cs 57 4 _w_150 (.slice _Au103 (catE (derT letter ta) (repE ta.flat (if (_y15.low - 1) > 0 then (_y15.low - 1) else 0) (_y15.high - 1))).length _Cu103) (derT letter t) := by
              have hx := _f_154
              exact hx.eq (by first | exact der3 hok (by omega) (by omega) | exact der0 hok (by omega) (by omega) | exact der4t hok (by omega) _hk0 _hk1 _h46 | exact der4f hok (by omega) _hk0 _hk1 _h46 | exact der5 hok (by omega) _hk0 _hk1 | (rw [hl]; exact der6 hok (by omega) _hk0) | (rw [_ht]; exact der7 hok (by omega) _hk0))
            exact ret_intro [_] (resOf_loadA _m_151 rfl agg29 sz29 trivial) ⟨_, rfl, _o_153, Lo.down _lo103 (by omega), E⟩
          · have _kb_136 := _h84
            have _h84 := bf_d _h84
            refine W_skip ?_
            refine inB_nrm ?_
            refine thn_nrm (_hK_9 _ _ ?_)
            clear _hK_9
            refine W_seq fun _K_155 _hK_155 => ?_
            refine W_region ?_
            refine WL_s rfl rfl ?_
            refine Step.call (r_call (xs := [.const (Go.Value.int Go.IntKind.i64 1)]) fk88 rfl) (c_spec_l8Leaf _ ) fun _v104 _w_156 _q104 => ?_
            obtain ⟨_u104, rfl, _q104, _lo104, _cw_156⟩ := _q104
            have _cw_156z := _cw_156.size
            have E := E.trans _cw_156
            obtain ⟨_Au104, _Cu104, _eu104⟩ := _q104.val
            subst _eu104
            have _lu104 := _q104.len
            have _hiu104 := _q104.lt
            refine WL_s rfl rfl ?_
            have _f_157 := (((_m4.ch0 _cw_6).ch _cw_7 (fun hm => by have _h1 := List.mem_singleton.1 hm; omega)).ch0 _cw_156)
            refine s_storeA (off := 0) 1 _f_157 sz29 rfl (us := [(.slice _Au104 ([(⟨1, 0, 0, 0⟩ : Token)]).length _Cu104)]) rfl rfl rfl rfl fun _w_158 _m_159 _cw_158 => ?_
            have _cw_158z := _cw_158.size
            have E := E.step _cw_158 (fun i hi => .inl (by have _h1 := List.mem_singleton.1 hi; omega))
            replace _m_159 : Blk _w_158 _b4 29 [(.slice _Au104 ([(⟨1, 0, 0, 0⟩ : Token)]).length _Cu104)] := _m_159
            refine WL_nil ?_
            refine thn_nrm (_hK_155 _ _ ?_)
            clear _hK_155
            refine W_ret ?_
            have _f_161 := (_q104.ch _cw_158 (fun g hg hm => by have _h0 := List.mem_singleton.1 hm; have _h2 := _lo104 _ hg; have _h3 := _hiu104 _ hg; omega))
            have _o_160 : Ol Token.cs 57 4 _w_158 (.slice _Au104 ([(⟨1, 0, 0, 0⟩ : Token)]).length _Cu104) (derT letter t) := by
              have hx := _f_161
              exact hx.eq (by first | exact der3 hok (by omega) (by omega) | exact der0 hok (by omega) (by omega) | exact der4t hok (by omega) _hk0 _hk1 _h46 | exact der4f hok (by omega) _hk0 _hk1 _h46 | exact der5 hok (by omega) _hk0 _hk1 | (rw [hl]; exact der6 hok (by omega) _hk0) | (rw [_ht]; exact der7 hok (by omega) _hk0))
            exact ret_intro [_] (resOf_loadA _m_159 rfl agg29 sz29 trivial) ⟨_, rfl, _o_160, Lo.down _lo104 (by omega), E⟩
theorem c_spec_l9Deriv {w : World} {LL_l _B_l : Nat} {_v_l : Value} {l : List Token} (_h_l : Ls Token.cs 4 w LL_l _B_l _v_l l) (letter : Int) (t : Tr) (hok : Okd t) (hl : l = t.flat) (hb : l.length ≤ 400) :
    Ctr Try.prog 63 #[_v_l, (.int .i64 letter)] w (fun v w' => ∃ u, v = .agg #[u] ∧ Ol Token.cs 57 4 w' u (derT letter t) ∧ Lo w.heap.size u ∧ Ch [] w w') := c_spec_l9Deriv_n _ _h_l letter t hok hl hb (Nat.lt_succ_self _)

/-- spec.Derivative -/
theorem c_spec_Derivative {w : World} {LL_e _B_e : Nat} {_v_e : Value} {e : List Token} (_h_e : Ls Token.cs 4 w LL_e _B_e _v_e e) (letter : Int) :
    Ctr Try.prog 29 #[(.agg #[_v_e]), (.int .i64 letter)] w (fun v w' => ∃ (u0x0 : Value), v = .tuple #[.agg #[u0x0], .bool ((derE e letter).2)] ∧ Ol Token.cs 57 4 w' u0x0 ((derE e letter).1) ∧ Lo w.heap.size u0x0 ∧ Ch [] w w') := by
  obtain ⟨_A_e, _C_e, _e1_e⟩ := _h_e.val
  subst _e1_e
  have _l_e := _h_e.len
  have _h_e := _h_e.here (by decide)
  have E := Ch.refl [] w
  refine Ctr_of_W (N := 32) (vs0 := [(.agg #[(.slice _A_e e.length _C_e)]), (.int .i64 letter)]) Try.func29 rfl rfl rfl ?_
  refine W_seq fun _K_1 _hK_1 => ?_
  refine W_region ?_
  refine WL_s rfl rfl ?_
  refine s_box rfl fun _b2 _w_2 _m2 _cw_2 _e2 => ?_
  have _cw_2z := _cw_2.size
  have E := E.trans _cw_2
  have _z2 := _m2.lt
  replace _m2 : Blk _w_2 _b2 29 [(.slice _A_e e.length _C_e)] := _m2
  refine WL_s rfl rfl ?_
  refine s_alloc zr29 fun _b4 _w_3 _m4 _cw_3 _e4 => ?_
  have _cw_3z := _cw_3.size
  have E := E.trans _cw_3
  have _z4 := _m4.lt
  replace _m4 : Blk _w_3 _b4 29 [(.slice none 0 0)] := _m4
  refine WL_step rfl rfl (r_assign rfl) ?_
  refine WL_nil ?_
  refine thn_nrm (_hK_1 _ _ ?_)
  clear _hK_1
  refine W_seq fun _K_4 _hK_4 => ?_
  refine W_seq fun _K_5 _hK_5 => ?_
  refine W_region ?_
  have _f_6 := (_m2.ch0 _cw_3)
  refine WL_step rfl rfl (r_loadAtA0 _f_6.at_ agg29 sz29 rfl) ?_
  refine WL_s rfl rfl ?_
  have _f_7 := ((_h_e.ch0 _cw_2).ch0 _cw_3)
  refine Step.call (r_call (xs := [.tmp 7]) fk15 rfl) (c_spec_IsExpr _f_7 ) fun _v8 _w_8 _q8 => ?_
  obtain ⟨rfl, _cw_8⟩ := _q8
  have _cw_8z := _cw_8.size
  have E := E.trans _cw_8
  refine WL_step rfl rfl (r_not rfl) ?_
  refine WL_step rfl rfl (r_move rfl) ?_
  refine WL_split (d := 10) rfl (fun _h10 => ?_) (fun _h10 => ?_)
  · have _kb_9 := _h10
    have _h10 := bt_n _h10
    refine WL_skip rfl rfl ?_
    refine WL_skip rfl rfl ?_
    refine WL_skip rfl rfl ?_
    refine WL_skip rfl rfl ?_
    refine WL_step rfl rfl (r_pickT rfl rfl) ?_
    refine WL_step rfl rfl (r_move rfl) ?_
    refine WL_skip rfl rfl ?_
    refine WL_skip rfl rfl ?_
    refine WL_skip rfl rfl ?_
    refine WL_step rfl rfl (r_pickT rfl rfl) ?_
    refine WL_nil ?_
    refine thn_nrm (_hK_5 _ _ ?_)
    clear _hK_5
    refine W_condT rfl ?_
    refine W_seq fun _K_10 _hK_10 => ?_
    refine W_region ?_
    refine WL_step rfl rfl (r_build (parts := []) (cells := [(.slice none 0 0)]) zr29 pl29 rfl rfl) ?_
    refine WL_s rfl rfl ?_
    have _f_11 := (_m4.ch0 _cw_8)
    refine s_storeA (off := 0) 1 _f_11 sz29 rfl (us := [(.slice none 0 0)]) rfl rfl rfl rfl fun _w_12 _m_13 _cw_12 => ?_
    have _cw_12z := _cw_12.size
    have E := E.step _cw_12 (fun i hi => .inl (by have _h1 := List.mem_singleton.1 hi; omega))
    replace _m_13 : Blk _w_12 _b4 29 [(.slice none 0 0)] := _m_13
    refine WL_step rfl rfl (r_assign rfl) ?_
    refine WL_nil ?_
    refine thn_nrm (_hK_10 _ _ ?_)
    clear _hK_10
    refine W_ret (thn_ret ?_)
    clear _hK_4
    have _o_14 : Ol Token.cs 57 4 _w_12 (.slice none 0 0) ((derE e letter).1) := by
      have hx := (Ol.nil (cs := Token.cs) (e := 57) (k := 4) _w_12)
      first | (rw [derE_n1 (isE_n _h10)]; exact hx) | (rw [derE_n2 (by omega)]; exact hx) | (rw [derE_n3 _e5 (by omega)]; exact hx) | (rw [derE_y _e5 (by omega) (by omega) (by omega)]; exact hx)
    exact ret_intro [_, _] (resOf_loadA _m_13 rfl agg29 sz29 ⟨rfl, trivial⟩) ⟨(.slice none 0 0), (congrArg (fun zq => (Value.tuple #[.agg #[(.slice none 0 0)], .bool zq])) (by first | (rw [derE_n1 (isE_n _h10)]; done) | (rw [derE_n2 (by omega)]; done) | (rw [derE_n3 _e5 (by omega)]; done) | (rw [derE_y _e5 (by omega) (by omega) (by omega)]; done))), _o_14, (Lo.nil _), E⟩
  · have _kb_9 := _h10
    have _h10 := bf_n _h10
    obtain ⟨_t5, _e5, hok, hl⟩ := isE_y _h10
    refine WL_step rfl rfl (r_fieldAddr fa29_0 rfl) ?_
    have _f_15 := (_f_6.ch0 _cw_8)
    refine WL_step rfl rfl (r_loadAt _f_15.at_ agg27 rfl rfl) ?_
    refine WL_step rfl rfl (r_len (by rw [el27]; rfl) rfl) ?_
    refine WL_step rfl rfl (r_gtr rfl rfl) ?_
    refine WL_step rfl rfl (r_pickF rfl rfl) ?_
    refine WL_step rfl rfl (r_move rfl) ?_
    refine WL_split (d := 16) rfl (fun _h16 => ?_) (fun _h16 => ?_)
    · have _kb_16 := _h16
      have _h16 := bt_d _h16
      refine WL_skip rfl rfl ?_
      refine WL_skip rfl rfl ?_
      refine WL_skip rfl rfl ?_
      refine WL_step rfl rfl (r_pickT rfl rfl) ?_
      refine WL_nil ?_
      refine thn_nrm (_hK_5 _ _ ?_)
      clear _hK_5
      refine W_condT rfl ?_
      refine W_seq fun _K_17 _hK_17 => ?_
      refine W_region ?_
      refine WL_step rfl rfl (r_build (parts := []) (cells := [(.slice none 0 0)]) zr29 pl29 rfl rfl) ?_
      refine WL_s rfl rfl ?_
      have _f_18 := (_m4.ch0 _cw_8)
      refine s_storeA (off := 0) 1 _f_18 sz29 rfl (us := [(.slice none 0 0)]) rfl rfl rfl rfl fun _w_19 _m_20 _cw_19 => ?_
      have _cw_19z := _cw_19.size
      have E := E.step _cw_19 (fun i hi => .inl (by have _h1 := List.mem_singleton.1 hi; omega))
      replace _m_20 : Blk _w_19 _b4 29 [(.slice none 0 0)] := _m_20
      refine WL_step rfl rfl (r_assign rfl) ?_
      refine WL_nil ?_
      refine thn_nrm (_hK_17 _ _ ?_)
      clear _hK_17
      refine W_ret (thn_ret ?_)
      clear _hK_4
      have _o_21 : Ol Token.cs 57 4 _w_19 (.slice none 0 0) ((derE e letter).1) := by
        have hx := (Ol.nil (cs := Token.cs) (e := 57) (k := 4) _w_19)
        first | (rw [derE_n1 (isE_n _h10)]; exact hx) | (rw [derE_n2 (by omega)]; exact hx) | (rw [derE_n3 _e5 (by omega)]; exact hx) | (rw [derE_y _e5 (by omega) (by omega) (by omega)]; exact hx)
      exact ret_intro [_, _] (resOf_loadA _m_20 rfl agg29 sz29 ⟨rfl, trivial⟩) ⟨(.slice none 0 0), (congrArg (fun zq => (Value.tuple #[.agg #[(.slice none 0 0)], .bool zq])) (by first | (rw [derE_n1 (isE_n _h10)]; done) | (rw [derE_n2 (by omega)]; done) | (rw [derE_n3 _e5 (by omega)]; done) | (rw [derE_y _e5 (by omega) (by omega) (by omega)]; done))), _o_21, (Lo.nil _), E⟩
    · have _kb_16 := _h16
      have _h16 := bf_d _h16
      refine WL_step rfl rfl (r_move rfl) ?_
      refine WL_s rfl rfl ?_
      refine Step.call (r_call (xs := [.tmp 17]) fk62 rfl) (c_spec_l2Letter _ ) fun _v18 _w_22 _q18 => ?_
      obtain ⟨rfl, _cw_22⟩ := _q18
      have _cw_22z := _cw_22.size
      have E := E.trans _cw_22
      refine WL_step rfl rfl (r_not rfl) ?_
      refine WL_step rfl rfl (r_pickF rfl rfl) ?_
      refine WL_nil ?_
      refine thn_nrm (_hK_5 _ _ ?_)
      clear _hK_5
      refine W_cond rfl (fun _h20 => ?_) (fun _h20 => ?_)
      · have _kb_23 := _h20
        have _h20 := bf_d (bt_n _h20)
        refine W_seq fun _K_24 _hK_24 => ?_
        refine W_region ?_
        refine WL_step rfl rfl (r_build (parts := []) (cells := [(.slice none 0 0)]) zr29 pl29 rfl rfl) ?_
        refine WL_s rfl rfl ?_
        have _f_25 := ((_m4.ch0 _cw_8).ch0 _cw_22)
        refine s_storeA (off := 0) 1 _f_25 sz29 rfl (us := [(.slice none 0 0)]) rfl rfl rfl rfl fun _w_26 _m_27 _cw_26 => ?_
        have _cw_26z := _cw_26.size
        have E := E.step _cw_26 (fun i hi => .inl (by have _h1 := List.mem_singleton.1 hi; omega))
        replace _m_27 : Blk _w_26 _b4 29 [(.slice none 0 0)] := _m_27
        refine WL_step rfl rfl (r_assign rfl) ?_
        refine WL_nil ?_
        refine thn_nrm (_hK_24 _ _ ?_)
        clear _hK_24
        refine W_ret (thn_ret ?_)
        clear _hK_4
        have _o_28 : Ol Token.cs 57 4 _w_26 (.slice none 0 0) ((derE e letter).1) := by
          have hx := (Ol.nil (cs := Token.cs) (e := 57) (k := 4) _w_26)
          first | (rw [derE_n1 (isE_n _h10)]; exact hx) | (rw [derE_n2 (by omega)]; exact hx) | (rw [derE_n3 _e5 (by omega)]; exact hx) | (rw [derE_y _e5 (by omega) (by omega) (by omega)]; exact hx)
        exact ret_intro [_, _] (resOf_loadA _m_27 rfl agg29 sz29 ⟨rfl, trivial⟩) ⟨(.slice none 0 0), (congrArg (fun zq => (Value.tuple #[.agg #[(.slice none 0 0)], .bool zq])) (by first | (rw [derE_n1 (isE_n _h10)]; done) | (rw [derE_n2 (by omega)]; done) | (rw [derE_n3 _e5 (by omega)]; done) | (rw [derE_y _e5 (by omega) (by omega) (by omega)]; done))), _o_28, (Lo.nil _), E⟩
      · have _kb_23 := _h20
        have _h20 := bt_d (bf_n _h20)
        refine W_skip ?_
        refine thn_nrm (_hK_4 _ _ ?_)
        clear _hK_4
        refine W_seq fun _K_29 _hK_29 => ?_
        refine W_region ?_
        refine WL_step rfl rfl (r_fieldAddr fa29_0 rfl) ?_
        have _f_30 := (_f_15.ch0 _cw_22)
        refine WL_step rfl rfl (r_loadAt _f_30.at_ agg27 rfl rfl) ?_
        refine WL_step rfl rfl (r_move rfl) ?_
        refine WL_s rfl rfl ?_
        have _f_31 := ((_f_7.ch0 _cw_8).ch0 _cw_22)
        refine Step.call (r_call (xs := [.tmp 23, .tmp 24]) fk63 rfl) (c_spec_l9Deriv _f_31 _ _t5 hok hl (by omega)) fun _v25 _w_32 _q25 => ?_
        obtain ⟨_u25, rfl, _q25, _lo25, _cw_32⟩ := _q25
        have _cw_32z := _cw_32.size
        have E := E.trans _cw_32
        obtain ⟨_Au25, _Cu25, _eu25⟩ := _q25.val
        subst _eu25
        have _lu25 := _q25.len
        have _hiu25 := _q25.lt
        refine WL_s rfl rfl ?_
        refine s_alloc zr29 fun _b6 _w_33 _m6 _cw_33 _e6 => ?_
        have _cw_33z := _cw_33.size
        have E := E.trans _cw_33
        have _z6 := _m6.lt
        replace _m6 : Blk _w_33 _b6 29 [(.slice none 0 0)] := _m6
        refine WL_s rfl rfl ?_
        refine s_storeA (off := 0) 1 _m6 sz29 rfl (us := [(.slice _Au25 (derT letter _t5).length _Cu25)]) rfl rfl rfl rfl fun _w_34 _m_35 _cw_34 => ?_
        have _cw_34z := _cw_34.size
        have E := E.step _cw_34 (fun i hi => .inl (by have _h1 := List.mem_singleton.1 hi; omega))
        replace _m_35 : Blk _w_34 _b6 29 [(.slice _Au25 (derT letter _t5).length _Cu25)] := _m_35
        refine WL_nil ?_
        refine thn_nrm (_hK_29 _ _ ?_)
        clear _hK_29
        refine W_seq fun _K_36 _hK_36 => ?_
        refine W_seq fun _K_37 _hK_37 => ?_
        refine W_region ?_
        refine WL_step rfl rfl (r_fieldAddr fa29_0 rfl) ?_
        refine WL_step rfl rfl (r_loadAt _m_35.at_ agg27 rfl rfl) ?_
        refine WL_step rfl rfl (r_len (by rw [el27]; rfl) rfl) ?_
        refine WL_step rfl rfl (r_gtr rfl rfl) ?_
        refine WL_nil ?_
        refine thn_nrm (_hK_37 _ _ ?_)
        clear _hK_37
        refine W_cond rfl (fun _h29 => ?_) (fun _h29 => ?_)
        · have _kb_38 := _h29
          have _h29 := bt_d _h29
          refine W_seq fun _K_39 _hK_39 => ?_
          refine W_region ?_
          refine WL_step rfl rfl (r_build (parts := []) (cells := [(.slice none 0 0)]) zr29 pl29 rfl rfl) ?_
          refine WL_s rfl rfl ?_
          have _f_40 := (((((_m4.ch0 _cw_8).ch0 _cw_22).ch0 _cw_32).ch0 _cw_33).ch _cw_34 (fun hm => by have _h1 := List.mem_singleton.1 hm; omega))
          refine s_storeA (off := 0) 1 _f_40 sz29 rfl (us := [(.slice none 0 0)]) rfl rfl rfl rfl fun _w_41 _m_42 _cw_41 => ?_
          have _cw_41z := _cw_41.size
          have E := E.step _cw_41 (fun i hi => .inl (by have _h1 := List.mem_singleton.1 hi; omega))
          replace _m_42 : Blk _w_41 _b4 29 [(.slice none 0 0)] := _m_42
          refine WL_step rfl rfl (r_assign rfl) ?_
          refine WL_nil ?_
          refine thn_nrm (_hK_39 _ _ ?_)
          clear _hK_39
          refine W_ret (thn_ret ?_)
          clear _hK_36
          have _o_43 : Ol Token.cs 57 4 _w_41 (.slice none 0 0) ((derE e letter).1) := by
            have hx := (Ol.nil (cs := Token.cs) (e := 57) (k := 4) _w_41)
            first | (rw [derE_n1 (isE_n _h10)]; exact hx) | (rw [derE_n2 (by omega)]; exact hx) | (rw [derE_n3 _e5 (by omega)]; exact hx) | (rw [derE_y _e5 (by omega) (by omega) (by omega)]; exact hx)
          exact ret_intro [_, _] (resOf_loadA _m_42 rfl agg29 sz29 ⟨rfl, trivial⟩) ⟨(.slice none 0 0), (congrArg (fun zq => (Value.tuple #[.agg #[(.slice none 0 0)], .bool zq])) (by first | (rw [derE_n1 (isE_n _h10)]; done) | (rw [derE_n2 (by omega)]; done) | (rw [derE_n3 _e5 (by omega)]; done) | (rw [derE_y _e5 (by omega) (by omega) (by omega)]; done))), _o_43, (Lo.nil _), E⟩
        · have _kb_38 := _h29
          have _h29 := bf_d _h29
          refine W_skip ?_
          refine thn_nrm (_hK_36 _ _ ?_)
          clear _hK_36
          refine W_seq fun _K_44 _hK_44 => ?_
          refine W_region ?_
          refine WL_step rfl rfl (r_loadAtA0 _m_35.at_ agg29 sz29 rfl) ?_
          refine WL_s rfl rfl ?_
          have _f_45 := (((((_m4.ch0 _cw_8).ch0 _cw_22).ch0 _cw_32).ch0 _cw_33).ch _cw_34 (fun hm => by have _h1 := List.mem_singleton.1 hm; omega))
          refine s_storeA (off := 0) 1 _f_45 sz29 rfl (us := [(.slice _Au25 (derT letter _t5).length _Cu25)]) rfl rfl rfl rfl fun _w_46 _m_47 _cw_46 => ?_
          have _cw_46z := _cw_46.size
          have E := E.step _cw_46 (fun i hi => .inl (by have _h1 := List.mem_singleton.1 hi; omega))
          replace _m_47 : Blk _w_46 _b4 29 [(.slice _Au25 (derT letter _t5).length _Cu25)] := _m_47
          refine WL_step rfl rfl (r_assign rfl) ?_
          refine WL_nil ?_
          refine thn_nrm (_hK_44 _ _ ?_)
          clear _hK_44
          refine W_ret ?_
          have _f_48 := (((_q25.ch0 _cw_33).ch _cw_34 (fun g hg hm => by have _h0 := List.mem_singleton.1 hm; have _h2 := _lo25 _ hg; have _h3 := _hiu25 _ hg; omega)).ch _cw_46 (fun g hg hm => by have _h0 := List.mem_singleton.1 hm; have _h2 := _lo25 _ hg; have _h3 := _hiu25 _ hg; omega))
          have _o_49 : Ol Token.cs 57 4 _w_46 (.slice _Au25 (derT letter _t5).length _Cu25) ((derE e letter).1) := by
            have hx := _f_48
            first | (rw [derE_n1 (isE_n _h10)]; exact hx) | (rw [derE_n2 (by omega)]; exact hx) | (rw [derE_n3 _e5 (by omega)]; exact hx) | (rw [derE_y _e5 (by omega) (by omega) (by omega)]; exact hx)
          exact ret_intro [_, _] (resOf_loadA _m_47 rfl agg29 sz29 ⟨rfl, trivial⟩) ⟨(.slice _Au25 (derT letter _t5).length _Cu25), (congrArg (fun zq => (Value.tuple #[.agg #[(.slice _Au25 (derT letter _t5).length _Cu25)], .bool zq])) (by first | (rw [derE_n1 (isE_n _h10)]; done) | (rw [derE_n2 (by omega)]; done) | (rw [derE_n3 _e5 (by omega)]; done) | (rw [derE_y _e5 (by omega) (by omega) (by omega)]; done))), _o_49, (Lo.down _lo25 (by omega)), E⟩

/-- spec.DerivativeWord -/
theorem c_spec_DerivativeWord {w : World} {LL_e _B_e : Nat} {_v_e : Value} {e : List Token} (_h_e : Ls Token.cs 4 w LL_e _B_e _v_e e) {LL_w9 _B_w9 : Nat} {_v_w9 : Value} {w9 : List Int} (_h_w9 : Ls ics 1 w LL_w9 _B_w9 _v_w9 w9) (hb : e.length ≤ 1048576) :
    Ctr Try.prog 31 #[(.agg #[_v_e]), _v_w9] w (fun v w' => ∃ (u0x0 : Value), v = .tuple #[.agg #[u0x0], .bool ((dwE e w9).2)] ∧ Ol Token.cs 57 4 w' u0x0 ((dwE e w9).1) ∧ Lo w.heap.size u0x0 ∧ Ch [] w w') := by
  obtain ⟨_A_e, _C_e, _e1_e⟩ := _h_e.val
  subst _e1_e
  have _l_e := _h_e.len
  have _h_e := _h_e.here (by decide)
  obtain ⟨_A_w9, _C_w9, _e1_w9⟩ := _h_w9.val
  subst _e1_w9
  have _l_w9 := _h_w9.len
  have _h_w9 := _h_w9.here (by decide)
  have E := Ch.refl [] w
  refine Ctr_of_W (N := 43) (vs0 := [(.agg #[(.slice _A_e e.length _C_e)]), (.slice _A_w9 w9.length _C_w9)]) Try.func31 rfl rfl rfl ?_
  refine W_seq fun _K_1 _hK_1 => ?_
  refine W_region ?_
  refine WL_s rfl rfl ?_
  refine s_box rfl fun _b2 _w_2 _m2 _cw_2 _e2 => ?_
  have _cw_2z := _cw_2.size
  have E := E.trans _cw_2
  have _z2 := _m2.lt
  replace _m2 : Blk _w_2 _b2 29 [(.slice _A_e e.length _C_e)] := _m2
  refine WL_s rfl rfl ?_
  refine s_alloc zr29 fun _b4 _w_3 _m4 _cw_3 _e4 => ?_
  have _cw_3z := _cw_3.size
  have E := E.trans _cw_3
  have _z4 := _m4.lt
  replace _m4 : Blk _w_3 _b4 29 [(.slice none 0 0)] := _m4
  refine WL_step rfl rfl (r_assign rfl) ?_
  refine WL_nil ?_
  refine thn_nrm (_hK_1 _ _ ?_)
  clear _hK_1
  refine W_seq fun _K_4 _hK_4 => ?_
  refine W_seq fun _K_5 _hK_5 => ?_
  refine W_region ?_
  have _f_6 := (_m2.ch0 _cw_3)
  refine WL_step rfl rfl (r_loadAtA0 _f_6.at_ agg29 sz29 rfl) ?_
  refine WL_s rfl rfl ?_
  have _f_7 := ((_h_e.ch0 _cw_2).ch0 _cw_3)
  refine Step.call (r_call (xs := [.tmp 10]) fk15 rfl) (c_spec_IsExpr _f_7 ) fun _v11 _w_8 _q11 => ?_
  obtain ⟨rfl, _cw_8⟩ := _q11
  have _cw_8z := _cw_8.size
  have E := E.trans _cw_8
  refine WL_step rfl rfl (r_not rfl) ?_
  refine WL_step rfl rfl (r_move rfl) ?_
  refine WL_split (d := 13) rfl (fun _h13 => ?_) (fun _h13 => ?_)
  · have _kb_9 := _h13
    have _h13 := bt_n _h13
    refine WL_skip rfl rfl ?_
    refine WL_skip rfl rfl ?_
    refine WL_skip rfl rfl ?_
    refine WL_skip rfl rfl ?_
    refine WL_step rfl rfl (r_pickT rfl rfl) ?_
    refine WL_nil ?_
    refine thn_nrm (_hK_5 _ _ ?_)
    clear _hK_5
    refine W_condT rfl ?_
    refine W_seq fun _K_10 _hK_10 => ?_
    refine W_region ?_
    refine WL_step rfl rfl (r_build (parts := []) (cells := [(.slice none 0 0)]) zr29 pl29 rfl rfl) ?_
    refine WL_s rfl rfl ?_
    have _f_11 := (_m4.ch0 _cw_8)
    refine s_storeA (off := 0) 1 _f_11 sz29 rfl (us := [(.slice none 0 0)]) rfl rfl rfl rfl fun _w_12 _m_13 _cw_12 => ?_
    have _cw_12z := _cw_12.size
    have E := E.step _cw_12 (fun i hi => .inl (by have _h1 := List.mem_singleton.1 hi; omega))
    replace _m_13 : Blk _w_12 _b4 29 [(.slice none 0 0)] := _m_13
    refine WL_step rfl rfl (r_assign rfl) ?_
    refine WL_nil ?_
    refine thn_nrm (_hK_10 _ _ ?_)
    clear _hK_10
    refine W_ret (thn_ret ?_)
    clear _hK_4
    have _o_14 : Ol Token.cs 57 4 _w_12 (.slice none 0 0) ((dwE e w9).1) := by
      have hx := (Ol.nil (cs := Token.cs) (e := 57) (k := 4) _w_12)
      first | (rw [dwE_n1 (fun c => by first | exact Bool.noConfusion (c.1.symm.trans _h13) | (have c2 := c.2; omega))]; exact hx) | (rw [dwE_n2 _h13 (by omega) (derW_none hw _hy33 _h39)]; exact hx) | (rw [dwE_y _h13 (by omega) (derW_end hw (by omega))]; exact hx)
    exact ret_intro [_, _] (resOf_loadA _m_13 rfl agg29 sz29 ⟨rfl, trivial⟩) ⟨(.slice none 0 0), (congrArg (fun zq => (Value.tuple #[.agg #[(.slice none 0 0)], .bool zq])) (by first | (rw [dwE_n1 (fun c => by first | exact Bool.noConfusion (c.1.symm.trans _h13) | (have c2 := c.2; omega))]; done) | (rw [dwE_n2 _h13 (by omega) (derW_none hw _hy33 _h39)]; done) | (rw [dwE_y _h13 (by omega) (derW_end hw (by omega))]; done))), _o_14, (Lo.nil _), E⟩
  · have _kb_9 := _h13
    have _h13 := bf_n _h13
    refine WL_step rfl rfl (r_fieldAddr fa29_0 rfl) ?_
    have _f_15 := (_f_6.ch0 _cw_8)
    refine WL_step rfl rfl (r_loadAt _f_15.at_ agg27 rfl rfl) ?_
    refine WL_step rfl rfl (r_len (by rw [el27]; rfl) rfl) ?_
    refine WL_step rfl rfl (r_gtr rfl rfl) ?_
    refine WL_step rfl rfl (r_pickF rfl rfl) ?_
    refine WL_nil ?_
    refine thn_nrm (_hK_5 _ _ ?_)
    clear _hK_5
    refine W_cond rfl (fun _h18 => ?_) (fun _h18 => ?_)
    · have _kb_16 := _h18
      have _h18 := bt_d _h18
      refine W_seq fun _K_17 _hK_17 => ?_
      refine W_region ?_
      refine WL_step rfl rfl (r_build (parts := []) (cells := [(.slice none 0 0)]) zr29 pl29 rfl rfl) ?_
      refine WL_s rfl rfl ?_
      have _f_18 := (_m4.ch0 _cw_8)
      refine s_storeA (off := 0) 1 _f_18 sz29 rfl (us := [(.slice none 0 0)]) rfl rfl rfl rfl fun _w_19 _m_20 _cw_19 => ?_
      have _cw_19z := _cw_19.size
      have E := E.step _cw_19 (fun i hi => .inl (by have _h1 := List.mem_singleton.1 hi; omega))
      replace _m_20 : Blk _w_19 _b4 29 [(.slice none 0 0)] := _m_20
      refine WL_step rfl rfl (r_assign rfl) ?_
      refine WL_nil ?_
      refine thn_nrm (_hK_17 _ _ ?_)
      clear _hK_17
      refine W_ret (thn_ret ?_)
      clear _hK_4
      have _o_21 : Ol Token.cs 57 4 _w_19 (.slice none 0 0) ((dwE e w9).1) := by
        have hx := (Ol.nil (cs := Token.cs) (e := 57) (k := 4) _w_19)
        first | (rw [dwE_n1 (fun c => by first | exact Bool.noConfusion (c.1.symm.trans _h13) | (have c2 := c.2; omega))]; exact hx) | (rw [dwE_n2 _h13 (by omega) (derW_none hw _hy33 _h39)]; exact hx) | (rw [dwE_y _h13 (by omega) (derW_end hw (by omega))]; exact hx)
      exact ret_intro [_, _] (resOf_loadA _m_20 rfl agg29 sz29 ⟨rfl, trivial⟩) ⟨(.slice none 0 0), (congrArg (fun zq => (Value.tuple #[.agg #[(.slice none 0 0)], .bool zq])) (by first | (rw [dwE_n1 (fun c => by first | exact Bool.noConfusion (c.1.symm.trans _h13) | (have c2 := c.2; omega))]; done) | (rw [dwE_n2 _h13 (by omega) (derW_none hw _hy33 _h39)]; done) | (rw [dwE_y _h13 (by omega) (derW_end hw (by omega))]; done))), _o_21, (Lo.nil _), E⟩
    · have _kb_16 := _h18
      have _h18 := bf_d _h18
      refine W_skip ?_
      refine thn_nrm (_hK_4 _ _ ?_)
      clear _hK_4
      refine W_seq fun _K_22 _hK_22 => ?_
      refine W_region ?_
      refine WL_step rfl rfl (r_fieldAddr fa29_0 rfl) ?_
      refine WL_step rfl rfl (r_loadAt _f_15.at_ agg27 rfl rfl) ?_
      refine WL_s rfl rfl ?_
      have _f_23 := (_f_7.ch0 _cw_8)
      refine Step.call (r_call (xs := [.tmp 21]) fk55 rfl) (c_spec_l8Copy _f_23 (by omega)) fun _v22 _w_24 _q22 => ?_
      obtain ⟨_u22, rfl, _q22, _lo22, _cw_24⟩ := _q22
      have _cw_24z := _cw_24.size
      have E := E.trans _cw_24
      obtain ⟨_Au22, _Cu22, _eu22⟩ := _q22.val
      subst _eu22
      have _lu22 := _q22.len
      have _hiu22 := _q22.lt
      refine WL_s rfl rfl ?_
      refine s_alloc zr29 fun _b6 _w_25 _m6 _cw_25 _e6 => ?_
      have _cw_25z := _cw_25.size
      have E := E.trans _cw_25
      have _z6 := _m6.lt
      replace _m6 : Blk _w_25 _b6 29 [(.slice none 0 0)] := _m6
      refine WL_s rfl rfl ?_
      refine s_storeA (off := 0) 1 _m6 sz29 rfl (us := [(.slice _Au22 (e).length _Cu22)]) rfl rfl rfl rfl fun _w_26 _m_27 _cw_26 => ?_
      have _cw_26z := _cw_26.size
      have E := E.step _cw_26 (fun i hi => .inl (by have _h1 := List.mem_singleton.1 hi; omega))
      replace _m_27 : Blk _w_26 _b6 29 [(.slice _Au22 (e).length _Cu22)] := _m_27
      refine WL_nil ?_
      refine thn_nrm (_hK_22 _ _ ?_)
      clear _hK_22
      refine W_seq fun _K_28 _hK_28 => ?_
      refine W_seq fun _K_29 _hK_29 => ?_
      refine W_region ?_
      refine WL_step rfl rfl (r_assign rfl) ?_
      refine WL_nil ?_
      refine thn_nrm (_hK_29 _ _ ?_)
      clear _hK_29
      refine W_block ?_
      have _f_30 := ((_q22.ch0 _cw_25).ch _cw_26 (fun g hg hm => by have _h0 := List.mem_singleton.1 hm; have _h2 := _lo22 _ hg; have _h3 := _hiu22 _ hg; omega))
      have _oi_31 : Ol Token.cs 57 4 _w_26 (.slice _Au22 (e).length _Cu22) (e) := by
        have hx := _f_30
        exact hx
      have _f_32 := ((((_m4.ch0 _cw_8).ch0 _cw_24).ch0 _cw_25).ch _cw_26 (fun hm => by have _h1 := List.mem_singleton.1 hm; omega))
      refine W_loop (σ := Nat × List Token × Value) (fun ⟨k, r, sv⟩ => [(1, (.slice _A_w9 w9.length _C_w9)), (4, (.pointer (some ⟨_b4, 0, none⟩))), (6, (.pointer (some ⟨_b6, 0, none⟩))), (7, (.int .i64 ((k : Nat) : Int)))]) (fun ⟨k, r, sv⟩ wx => Ch [] w wx ∧ _w_26.heap.size ≤ wx.heap.size ∧ (k ≤ w9.length) ∧ (derW e (w9.take k) = some r) ∧ Blk wx _b4 29 [(.slice none 0 0)] ∧ Ol Token.cs 57 4 wx sv r ∧ Lo _w_8.heap.size sv ∧ Blk wx _b6 29 [sv] ∧ (_b6 ∉ bl sv)) (fun ⟨k, r, sv⟩ => w9.length - k) (0, e, (.slice _Au22 (e).length _Cu22)) (Sub.cons rfl (Sub.cons rfl (Sub.cons rfl (Sub.cons rfl (Sub.nil _))))) ⟨E, (Nat.le_refl _), (by omega), rfl, _f_32, _oi_31, _lo22, _m_27, (fun hm => by have _h1 := _lo22 _ hm; have _h2 := _hiu22 _ hm; omega)⟩ ?_
      rintro ⟨k, r, sv⟩ _wr_33 ⟨E, _zz0, _hk, hw, _F0_1, _o0_6, _lo0_6, _m0_6, _nb0_6⟩
      have _E0h := E
      have _E0hz := _E0h.size
      have _F0_1z := _F0_1.lt
      obtain ⟨Asv, Csv, esv⟩ := _o0_6.val
      subst esv
      have lsv := _o0_6.len
      have hisv := _o0_6.lt
      refine W_seq fun _K_34 _hK_34 => ?_
      refine W_seq fun _K_35 _hK_35 => ?_
      refine W_region ?_
      refine WL_step rfl rfl (r_move rfl) ?_
      refine WL_step rfl rfl (r_move rfl) ?_
      refine WL_step rfl rfl (r_len (by rw [el40]; rfl) rfl) ?_
      refine WL_step rfl rfl (r_lss rfl rfl) ?_
      refine WL_nil ?_
      refine thn_nrm (_hK_35 _ _ ?_)
      clear _hK_35
      refine W_cond rfl (fun _h26 => ?_) (fun _h26 => ?_)
      · have _kb_36 := _h26
        have _h26 := bt_d _h26
        refine W_skip ?_
        refine thn_nrm (_hK_34 _ _ ?_)
        clear _hK_34
        refine W_seq fun _K_37 _hK_37 => ?_
        refine W_block ?_
        refine W_seq fun _K_38 _hK_38 => ?_
        refine W_drawC [] 12 mixed rfl fun _w_39 _cw_39 => ?_
        have _cw_39z := _cw_39.size
        have E := E.trans _cw_39
        have _f_40 := (_m0_6.ch0 _cw_39)
        refine DR_s 0 rfl (by kernel_rfl) rfl rfl (t_loadAtA0 _f_40.at_ (fun i hi => absurd hi List.not_mem_nil) agg29 sz29 rfl ?_)
        refine DR_s 1 rfl (by kernel_rfl) rfl rfl (t_v (fun _ => (r_move rfl)) ?_)
        refine DR_s 2 rfl (by kernel_rfl) rfl rfl (t_v (fun _ => (r_move rfl)) ?_)
        have _f_41 := ((_h_w9.ch0 _E0h).ch0 _cw_39)
        refine DR_s 3 rfl (by kernel_rfl) rfl rfl (t_index _f_41 ics_len el40 sz3 rfl rfl rfl (by omega) fun _p33 _y33 _hy33 _a33 => ?_)
        refine DR_s 4 rfl (by kernel_rfl) rfl rfl (t_loadAt0 _a33 (fun i hi => absurd hi List.not_mem_nil) agg3 rfl rfl ?_)
        refine DR_two 5 9 (by kernel_rfl) ?_ ?_
        · refine DO_s rfl rfl rfl ?_
          have _f_42 := (_o0_6.ch0 _cw_39)
          refine Step.call (r_call (xs := [.tmp 30, .tmp 34]) fk29 rfl) (c_spec_Derivative _f_42.ls _ ) fun _v35 _w_43 _q35 => ?_
          obtain ⟨u35_0x0, rfl, _q_u35_0x0, _lo_u35_0x0, _cw_43⟩ := _q35
          have _cw_43z := _cw_43.size
          have E := E.trans _cw_43
          obtain ⟨Au35_0x0, Cu35_0x0, eu35_0x0⟩ := _q_u35_0x0.val
          subst eu35_0x0
          have lu35_0x0 := _q_u35_0x0.len
          have _hiu35_0x0 := _q_u35_0x0.lt
          have _S_44 : Ch [] _w_39 _w_43 := ((Ch.refl _ _).trans _cw_43)
          refine ⟨_S_44, ?_⟩
          refine DR_s 6 rfl (by kernel_rfl) rfl rfl (t_v (fun _ => (r_move rfl)) ?_)
          refine DR_s 7 rfl (by kernel_rfl) rfl rfl (t_v (fun _ => (r_extract rfl rfl)) ?_)
          refine DR_s 8 rfl (by kernel_rfl) rfl rfl (t_v (fun _ => (r_extract rfl rfl)) ?_)
          refine DR_one 9 (by kernel_rfl) ?_
          refine DO_s rfl rfl rfl ?_
          refine s_alloc zr29 fun _b8 _w_45 _m8 _cw_45 _e8 => ?_
          have _cw_45z := _cw_45.size
          have E := E.trans _cw_45
          have _z8 := _m8.lt
          replace _m8 : Blk _w_45 _b8 29 [(.slice none 0 0)] := _m8
          have _S_46 : Ch [] _w_39 _w_45 := (_S_44.trans _cw_45)
          refine ⟨_S_46, ?_⟩
          refine DR_one 10 (by kernel_rfl) ?_
          refine DO_s rfl rfl rfl ?_
          refine s_storeA (off := 0) 1 _m8 sz29 rfl (us := [(.slice Au35_0x0 ((derE r _y33).1).length Cu35_0x0)]) rfl rfl rfl rfl fun _w_47 _m_48 _cw_47 => ?_
          have _cw_47z := _cw_47.size
          have E := E.step _cw_47 (fun i hi => .inl (by have _h1 := List.mem_singleton.1 hi; omega))
          replace _m_48 : Blk _w_47 _b8 29 [(.slice Au35_0x0 ((derE r _y33).1).length Cu35_0x0)] := _m_48
          have _S_49 : Ch [] _w_39 _w_47 := (_S_46.step _cw_47 (fun i hm => by have _h0 := List.mem_singleton.1 hm; left; omega))
          refine ⟨_S_49, ?_⟩
          refine DR_s 11 rfl (by kernel_rfl) rfl rfl (t_v (fun _ => (r_assign rfl)) ?_)
          refine DR_done (by kernel_rfl) ?_
          refine thn_nrm (_hK_38 _ _ ?_)
          clear _hK_38
          refine W_seq fun _K_50 _hK_50 => ?_
          refine W_seq fun _K_51 _hK_51 => ?_
          refine W_region ?_
          refine WL_step rfl rfl (r_move rfl) ?_
          refine WL_step rfl rfl (r_not rfl) ?_
          refine WL_nil ?_
          refine thn_nrm (_hK_51 _ _ ?_)
          clear _hK_51
          refine W_cond rfl (fun _h39 => ?_) (fun _h39 => ?_)
          · have _kb_52 := _h39
            have _h39 := bt_n _h39
            refine W_seq fun _K_53 _hK_53 => ?_
            refine W_region ?_
            refine WL_step rfl rfl (r_build (parts := []) (cells := [(.slice none 0 0)]) zr29 pl29 rfl rfl) ?_
            refine WL_s rfl rfl ?_
            have _f_54 := ((((_F0_1.ch0 _cw_39).ch0 _cw_43).ch0 _cw_45).ch _cw_47 (fun hm => by have _h1 := List.mem_singleton.1 hm; omega))
            refine s_storeA (off := 0) 1 _f_54 sz29 rfl (us := [(.slice none 0 0)]) rfl rfl rfl rfl fun _w_55 _m_56 _cw_55 => ?_
            have _cw_55z := _cw_55.size
            have E := E.step _cw_55 (fun i hi => .inl (by have _h1 := List.mem_singleton.1 hi; omega))
            replace _m_56 : Blk _w_55 _b4 29 [(.slice none 0 0)] := _m_56
            refine WL_step rfl rfl (r_assign rfl) ?_
            refine WL_nil ?_
            refine thn_nrm (_hK_53 _ _ ?_)
            clear _hK_53
            refine W_ret (thn_ret (inB_ret (thn_ret (thn_ret (inB_ret (thn_ret ?_))))))
            clear _hK_28 _hK_37 _hK_50
            have _o_57 : Ol Token.cs 57 4 _w_55 (.slice none 0 0) ((dwE e w9).1) := by
              have hx := (Ol.nil (cs := Token.cs) (e := 57) (k := 4) _w_55)
              first | (rw [dwE_n1 (fun c => by first | exact Bool.noConfusion (c.1.symm.trans _h13) | (have c2 := c.2; omega))]; exact hx) | (rw [dwE_n2 _h13 (by omega) (derW_none hw _hy33 _h39)]; exact hx) | (rw [dwE_y _h13 (by omega) (derW_end hw (by omega))]; exact hx)
            exact ret_intro [_, _] (resOf_loadA _m_56 rfl agg29 sz29 ⟨rfl, trivial⟩) ⟨(.slice none 0 0), (congrArg (fun zq => (Value.tuple #[.agg #[(.slice none 0 0)], .bool zq])) (by first | (rw [dwE_n1 (fun c => by first | exact Bool.noConfusion (c.1.symm.trans _h13) | (have c2 := c.2; omega))]; done) | (rw [dwE_n2 _h13 (by omega) (derW_none hw _hy33 _h39)]; done) | (rw [dwE_y _h13 (by omega) (derW_end hw (by omega))]; done))), _o_57, (Lo.nil _), E⟩
          · have _kb_52 := _h39
            have _h39 := bf_n _h39
            refine W_skip ?_
            refine thn_nrm (_hK_50 _ _ ?_)
            clear _hK_50
            refine W_region ?_
            refine WL_step rfl rfl (r_loadAtA0 _m_48.at_ agg29 sz29 rfl) ?_
            refine WL_s rfl rfl ?_
            have _f_58 := (((_f_40.ch0 _cw_43).ch0 _cw_45).ch _cw_47 (fun hm => by have _h1 := List.mem_singleton.1 hm; omega))
            refine s_storeA (off := 0) 1 _f_58 sz29 rfl (us := [(.slice Au35_0x0 ((derE r _y33).1).length Cu35_0x0)]) rfl rfl rfl rfl fun _w_59 _m_60 _cw_59 => ?_
            have _cw_59z := _cw_59.size
            have E := E.step _cw_59 (fun i hi => .inl (by have _h1 := List.mem_singleton.1 hi; omega))
            replace _m_60 : Blk _w_59 _b6 29 [(.slice Au35_0x0 ((derE r _y33).1).length Cu35_0x0)] := _m_60
            refine WL_nil ?_
            refine inB_nrm ?_
            refine thn_nrm (_hK_37 _ _ ?_)
            clear _hK_37
            refine W_region ?_
            refine WL_step rfl rfl (r_move rfl) ?_
            refine WL_step rfl rfl (r_add (by omega) rfl rfl) ?_
            refine WL_step rfl rfl (r_assign rfl) ?_
            refine WL_nil ?_
            have _f_62 := (((_q_u35_0x0.ch0 _cw_45).ch _cw_47 (fun g hg hm => by have _h0 := List.mem_singleton.1 hm; have _h2 := _lo_u35_0x0 _ hg; have _h3 := _hiu35_0x0 _ hg; omega)).ch _cw_59 (fun g hg hm => by have _h0 := List.mem_singleton.1 hm; have _h2 := _lo_u35_0x0 _ hg; have _h3 := _hiu35_0x0 _ hg; omega))
            have _on_61 : Ol Token.cs 57 4 _w_59 (.slice Au35_0x0 ((derE r _y33).1).length Cu35_0x0) ((derE r _y33).1) := by
              have hx := _f_62
              exact hx
            have _f_63 := (((((_F0_1.ch0 _cw_39).ch0 _cw_43).ch0 _cw_45).ch _cw_47 (fun hm => by have _h1 := List.mem_singleton.1 hm; omega)).ch _cw_59 (fun hm => by have _h1 := List.mem_singleton.1 hm; omega))
            exact thn_nrm (Exists.intro ((k + 1), (derE r _y33).1, (.slice Au35_0x0 ((derE r _y33).1).length Cu35_0x0)) ⟨⟨E, (by omega), (by omega), (by rw [derW_step hw _hy33, if_pos _h39]), _f_63, _on_61, (Lo.down _lo_u35_0x0 (by omega)), _m_60, (fun hm => by have _h1 := _lo_u35_0x0 _ hm; have _h2 := _hiu35_0x0 _ hm; omega)⟩, Sub.cons rfl (Sub.cons rfl (Sub.cons rfl (Sub.cons rfl (Sub.nil _)))), (by first | omega | (dsimp only; omega))⟩)
        · refine DO_s rfl rfl rfl ?_
          refine s_alloc zr29 fun _b8 _w_64 _m8 _cw_64 _e8 => ?_
          have _cw_64z := _cw_64.size
          have E := E.trans _cw_64
          have _z8 := _m8.lt
          replace _m8 : Blk _w_64 _b8 29 [(.slice none 0 0)] := _m8
          have _S_65 : Ch [] _w_39 _w_64 := ((Ch.refl _ _).trans _cw_64)
          refine ⟨_S_65, ?_⟩
          refine DR_one 5 (by kernel_rfl) ?_
          refine DO_s rfl rfl rfl ?_
          have _f_66 := ((_o0_6.ch0 _cw_39).ch0 _cw_64)
          refine Step.call (r_call (xs := [.tmp 30, .tmp 34]) fk29 rfl) (c_spec_Derivative _f_66.ls _ ) fun _v35 _w_67 _q35 => ?_
          obtain ⟨u35_0x0, rfl, _q_u35_0x0, _lo_u35_0x0, _cw_67⟩ := _q35
          have _cw_67z := _cw_67.size
          have E := E.trans _cw_67
          obtain ⟨Au35_0x0, Cu35_0x0, eu35_0x0⟩ := _q_u35_0x0.val
          subst eu35_0x0
          have lu35_0x0 := _q_u35_0x0.len
          have _hiu35_0x0 := _q_u35_0x0.lt
          have _S_68 : Ch [] _w_39 _w_67 := (_S_65.trans _cw_67)
          refine ⟨_S_68, ?_⟩
          refine DR_s 6 rfl (by kernel_rfl) rfl rfl (t_v (fun _ => (r_move rfl)) ?_)
          refine DR_s 7 rfl (by kernel_rfl) rfl rfl (t_v (fun _ => (r_extract rfl rfl)) ?_)
          refine DR_s 8 rfl (by kernel_rfl) rfl rfl (t_v (fun _ => (r_extract rfl rfl)) ?_)
          refine DR_one 10 (by kernel_rfl) ?_
          refine DO_s rfl rfl rfl ?_
          have _f_69 := (_m8.ch0 _cw_67)
          refine s_storeA (off := 0) 1 _f_69 sz29 rfl (us := [(.slice Au35_0x0 ((derE r _y33).1).length Cu35_0x0)]) rfl rfl rfl rfl fun _w_70 _m_71 _cw_70 => ?_
          have _cw_70z := _cw_70.size
          have E := E.step _cw_70 (fun i hi => .inl (by have _h1 := List.mem_singleton.1 hi; omega))
          replace _m_71 : Blk _w_70 _b8 29 [(.slice Au35_0x0 ((derE r _y33).1).length Cu35_0x0)] := _m_71
          have _S_72 : Ch [] _w_39 _w_70 := (_S_68.step _cw_70 (fun i hm => by have _h0 := List.mem_singleton.1 hm; left; omega))
          refine ⟨_S_72, ?_⟩
          refine DR_s 11 rfl (by kernel_rfl) rfl rfl (t_v (fun _ => (r_assign rfl)) ?_)
          refine DR_done (by kernel_rfl) ?_
          refine thn_nrm (_hK_38 _ _ ?_)
          clear _hK_38
          refine W_seq fun _K_73 _hK_73 => ?_
          refine W_seq fun _K_74 _hK_74 => ?_
          refine W_region ?_
          refine WL_step rfl rfl (r_move rfl) ?_
          refine WL_step rfl rfl (r_not rfl) ?_
          refine WL_nil ?_
          refine thn_nrm (_hK_74 _ _ ?_)
          clear _hK_74
          refine W_cond rfl (fun _h39 => ?_) (fun _h39 => ?_)
          · have _kb_75 := _h39
            have _h39 := bt_n _h39
            refine W_seq fun _K_76 _hK_76 => ?_
            refine W_region ?_
            refine WL_step rfl rfl (r_build (parts := []) (cells := [(.slice none 0 0)]) zr29 pl29 rfl rfl) ?_
            refine WL_s rfl rfl ?_
            have _f_77 := ((((_F0_1.ch0 _cw_39).ch0 _cw_64).ch0 _cw_67).ch _cw_70 (fun hm => by have _h1 := List.mem_singleton.1 hm; omega))
            refine s_storeA (off := 0) 1 _f_77 sz29 rfl (us := [(.slice none 0 0)]) rfl rfl rfl rfl fun _w_78 _m_79 _cw_78 => ?_
            have _cw_78z := _cw_78.size
            have E := E.step _cw_78 (fun i hi => .inl (by have _h1 := List.mem_singleton.1 hi; omega))
            replace _m_79 : Blk _w_78 _b4 29 [(.slice none 0 0)] := _m_79
            refine WL_step rfl rfl (r_assign rfl) ?_
            refine WL_nil ?_
            refine thn_nrm (_hK_76 _ _ ?_)
            clear _hK_76
            refine W_ret (thn_ret (inB_ret (thn_ret (thn_ret (inB_ret (thn_ret ?_))))))
            clear _hK_28 _hK_37 _hK_73
            have _o_80 : Ol Token.cs 57 4 _w_78 (.slice none 0 0) ((dwE e w9).1) := by
              have hx := (Ol.nil (cs := Token.cs) (e := 57) (k := 4) _w_78)
              first | (rw [dwE_n1 (fun c => by first | exact Bool.noConfusion (c.1.symm.trans _h13) | (have c2 := c.2; omega))]; exact hx) | (rw [dwE_n2 _h13 (by omega) (derW_none hw _hy33 _h39)]; exact hx) | (rw [dwE_y _h13 (by omega) (derW_end hw (by omega))]; exact hx)
            exact ret_intro [_, _] (resOf_loadA _m_79 rfl agg29 sz29 ⟨rfl, trivial⟩) ⟨(.slice none 0 0), (congrArg (fun zq => (Value.tuple #[.agg #[(.slice none 0 0)], .bool zq])) (by first | (rw [dwE_n1 (fun c => by first | exact Bool.noConfusion (c.1.symm.trans _h13) | (have c2 := c.2; omega))]; done) | (rw [dwE_n2 _h13 (by omega) (derW_none hw _hy33 _h39)]; done) | (rw [dwE_y _h13 (by omega) (derW_end hw (by omega))]; done))), _o_80, (Lo.nil _), E⟩
          · have _kb_75 := _h39
            have _h39 := bf_n _h39
            refine W_skip ?_
            refine thn_nrm (_hK_73 _ _ ?_)
            clear _hK_73
            refine W_region ?_
            refine WL_step rfl rfl (r_loadAtA0 _m_71.at_ agg29 sz29 rfl) ?_
            refine WL_s rfl rfl ?_
            have _f_81 := (((_f_40.ch0 _cw_64).ch0 _cw_67).ch _cw_70 (fun hm => by have _h1 := List.mem_singleton.1 hm; omega))
            refine s_storeA (off := 0) 1 _f_81 sz29 rfl (us := [(.slice Au35_0x0 ((derE r _y33).1).length Cu35_0x0)]) rfl rfl rfl rfl fun _w_82 _m_83 _cw_82 => ?_
            have _cw_82z := _cw_82.size
            have E := E.step _cw_82 (fun i hi => .inl (by have _h1 := List.mem_singleton.1 hi; omega))
            replace _m_83 : Blk _w_82 _b6 29 [(.slice Au35_0x0 ((derE r _y33).1).length Cu35_0x0)] := _m_83
            refine WL_nil ?_
            refine inB_nrm ?_
            refine thn_nrm (_hK_37 _ _ ?_)
            clear _hK_37
            refine W_region ?_
            refine WL_step rfl rfl (r_move rfl) ?_
            refine WL_step rfl rfl (r_add (by omega) rfl rfl) ?_
            refine WL_step rfl rfl (r_assign rfl) ?_
            refine WL_nil ?_
            have _f_85 := ((_q_u35_0x0.ch _cw_70 (fun g hg hm => by have _h0 := List.mem_singleton.1 hm; have _h2 := _lo_u35_0x0 _ hg; have _h3 := _hiu35_0x0 _ hg; omega)).ch _cw_82 (fun g hg hm => by have _h0 := List.mem_singleton.1 hm; have _h2 := _lo_u35_0x0 _ hg; have _h3 := _hiu35_0x0 _ hg; omega))
            have _on_84 : Ol Token.cs 57 4 _w_82 (.slice Au35_0x0 ((derE r _y33).1).length Cu35_0x0) ((derE r _y33).1) := by
              have hx := _f_85
              exact hx
            have _f_86 := (((((_F0_1.ch0 _cw_39).ch0 _cw_64).ch0 _cw_67).ch _cw_70 (fun hm => by have _h1 := List.mem_singleton.1 hm; omega)).ch _cw_82 (fun hm => by have _h1 := List.mem_singleton.1 hm; omega))
            exact thn_nrm (Exists.intro ((k + 1), (derE r _y33).1, (.slice Au35_0x0 ((derE r _y33).1).length Cu35_0x0)) ⟨⟨E, (by omega), (by omega), (by rw [derW_step hw _hy33, if_pos _h39]), _f_86, _on_84, (Lo.down _lo_u35_0x0 (by omega)), _m_83, (fun hm => by have _h1 := _lo_u35_0x0 _ hm; have _h2 := _hiu35_0x0 _ hm; omega)⟩, Sub.cons rfl (Sub.cons rfl (Sub.cons rfl (Sub.cons rfl (Sub.nil _)))), (by first | omega | (dsimp only; omega))⟩)
      · have _kb_36 := _h26
        have _h26 := bf_d _h26
        refine W_exit (thn_exit (thn_exit (inB_hit ?_)))
        refine thn_nrm (_hK_28 _ _ ?_)
        clear _hK_28
        refine W_seq fun _K_87 _hK_87 => ?_
        refine W_region ?_
        refine WL_step rfl rfl (r_loadAtA0 _m0_6.at_ agg29 sz29 rfl) ?_
        refine WL_s rfl rfl ?_
        refine s_storeA (off := 0) 1 _F0_1 sz29 rfl (us := [(.slice Asv (r).length Csv)]) rfl rfl rfl rfl fun _w_88 _m_89 _cw_88 => ?_
        have _cw_88z := _cw_88.size
        have E := E.step _cw_88 (fun i hi => .inl (by have _h1 := List.mem_singleton.1 hi; omega))
        replace _m_89 : Blk _w_88 _b4 29 [(.slice Asv (r).length Csv)] := _m_89
        refine WL_step rfl rfl (r_assign rfl) ?_
        refine WL_nil ?_
        refine thn_nrm (_hK_87 _ _ ?_)
        clear _hK_87
        refine W_ret ?_
        clear _hK_34
        have _f_90 := (_o0_6.ch _cw_88 (fun g hg hm => by have _h0 := List.mem_singleton.1 hm; have _h2 := _lo0_6 _ hg; have _h3 := hisv _ hg; omega))
        have _o_91 : Ol Token.cs 57 4 _w_88 (.slice Asv (r).length Csv) ((dwE e w9).1) := by
          have hx := _f_90
          first | (rw [dwE_n1 (fun c => by first | exact Bool.noConfusion (c.1.symm.trans _h13) | (have c2 := c.2; omega))]; exact hx) | (rw [dwE_n2 _h13 (by omega) (derW_none hw _hy33 _h39)]; exact hx) | (rw [dwE_y _h13 (by omega) (derW_end hw (by omega))]; exact hx)
        exact ret_intro [_, _] (resOf_loadA _m_89 rfl agg29 sz29 ⟨rfl, trivial⟩) ⟨(.slice Asv (r).length Csv), (congrArg (fun zq => (Value.tuple #[.agg #[(.slice Asv (r).length Csv)], .bool zq])) (by first | (rw [dwE_n1 (fun c => by first | exact Bool.noConfusion (c.1.symm.trans _h13) | (have c2 := c.2; omega))]; done) | (rw [dwE_n2 _h13 (by omega) (derW_none hw _hy33 _h39)]; done) | (rw [dwE_y _h13 (by omega) (derW_end hw (by omega))]; done))), _o_91, (Lo.down _lo0_6 (by omega)), E⟩

/-- laws.FnExactDerivativeWord -/
theorem c_laws_FnExactDerivativeWord {w : World} {LL_e _B_e : Nat} {_v_e : Value} {e : List Token} (_h_e : Ls Token.cs 4 w LL_e _B_e _v_e e) {LL_w9 _B_w9 : Nat} {_v_w9 : Value} {w9 : List Int} (_h_w9 : Ls ics 1 w LL_w9 _B_w9 _v_w9 w9) :
    Ctr Try.prog 9 #[(.agg #[_v_e]), _v_w9] w (fun v w' => v = .bool (true) ∧ Ch [] w w') := by
  obtain ⟨_A_e, _C_e, _e1_e⟩ := _h_e.val
  subst _e1_e
  have _l_e := _h_e.len
  have _h_e := _h_e.here (by decide)
  obtain ⟨_A_w9, _C_w9, _e1_w9⟩ := _h_w9.val
  subst _e1_w9
  have _l_w9 := _h_w9.len
  have _h_w9 := _h_w9.here (by decide)
  have E := Ch.refl [] w
  have sl := dwE_len e w9
  refine Ctr_of_W (N := 117) (vs0 := [(.agg #[(.slice _A_e e.length _C_e)]), (.slice _A_w9 w9.length _C_w9)]) Try.func9 rfl rfl rfl ?_
  refine W_seq fun _K_1 _hK_1 => ?_
  refine W_region ?_
  refine WL_s rfl rfl ?_
  refine s_box rfl fun _b2 _w_2 _m2 _cw_2 _e2 => ?_
  have _cw_2z := _cw_2.size
  have E := E.trans _cw_2
  have _z2 := _m2.lt
  replace _m2 : Blk _w_2 _b2 24 [(.slice _A_e e.length _C_e)] := _m2
  refine WL_step rfl rfl (r_assign rfl) ?_
  refine WL_nil ?_
  refine thn_nrm (_hK_1 _ _ ?_)
  clear _hK_1
  refine W_seq fun _K_3 _hK_3 => ?_
  refine W_seq fun _K_4 _hK_4 => ?_
  refine W_region ?_
  refine WL_step rfl rfl (r_move rfl) ?_
  refine WL_step rfl rfl (r_len (by rw [el40]; rfl) rfl) ?_
  refine WL_step rfl rfl (r_gtr rfl rfl) ?_
  refine WL_nil ?_
  refine thn_nrm (_hK_4 _ _ ?_)
  clear _hK_4
  refine W_cond rfl (fun _h19 => ?_) (fun _h19 => ?_)
  · have _kb_5 := _h19
    have _h19 := bt_d _h19
    refine W_seq fun _K_6 _hK_6 => ?_
    refine W_region ?_
    refine WL_step rfl rfl (r_assign rfl) ?_
    refine WL_nil ?_
    refine thn_nrm (_hK_6 _ _ ?_)
    clear _hK_6
    refine W_ret (thn_ret ?_)
    clear _hK_3
    exact ret_intro [_] ⟨rfl, trivial⟩ ⟨congrArg Value.bool (by first | rfl | (exfalso; omega) | (exfalso; revert _h19; simp; done) | (exfalso; revert _h19; simp; omega)), E⟩
  · have _kb_5 := _h19
    have _h19 := bf_d _h19
    refine W_skip ?_
    refine thn_nrm (_hK_3 _ _ ?_)
    clear _hK_3
    refine W_seq fun _K_7 _hK_7 => ?_
    refine W_region ?_
    refine WL_step rfl rfl (r_assign rfl) ?_
    refine WL_nil ?_
    refine thn_nrm (_hK_7 _ _ ?_)
    clear _hK_7
    refine W_seq fun _K_8 _hK_8 => ?_
    refine W_region ?_
    refine WL_step rfl rfl (r_loadAtA0 _m2.at_ agg24 sz24 rfl) ?_
    refine WL_step rfl rfl (r_move rfl) ?_
    refine WL_s rfl rfl ?_
    have _f_9 := (_h_e.ch0 _cw_2)
    refine Step.call (r_call (xs := [.tmp 20, .tmp 21]) fk14 rfl) (c_laws_szExpr _f_9 _ (by omega) (by omega)) fun _v22 _w_10 _q22 => ?_
    obtain ⟨rfl, _cw_10⟩ := _q22
    have _cw_10z := _cw_10.size
    have E := E.trans _cw_10
    refine WL_step rfl rfl (r_assign rfl) ?_
    refine WL_nil ?_
    refine thn_nrm (_hK_8 _ _ ?_)
    clear _hK_8
    refine W_seq fun _K_11 _hK_11 => ?_
    refine W_seq fun _K_12 _hK_12 => ?_
    refine W_region ?_
    refine WL_step rfl rfl (r_move rfl) ?_
    refine WL_step rfl rfl (r_lss rfl rfl) ?_
    refine WL_nil ?_
    refine thn_nrm (_hK_12 _ _ ?_)
    clear _hK_12
    refine W_cond rfl (fun _h24 => ?_) (fun _h24 => ?_)
    · have _kb_13 := _h24
      have _h24 := bt_d _h24
      refine W_seq fun _K_14 _hK_14 => ?_
      refine W_region ?_
      refine WL_step rfl rfl (r_assign rfl) ?_
      refine WL_nil ?_
      refine thn_nrm (_hK_14 _ _ ?_)
      clear _hK_14
      refine W_ret (thn_ret ?_)
      clear _hK_11
      exact ret_intro [_] ⟨rfl, trivial⟩ ⟨congrArg Value.bool (by first | rfl | (exfalso; omega) | (exfalso; revert _h24; simp; done) | (exfalso; revert _h24; simp; omega)), E⟩
    · have _kb_13 := _h24
      have _h24 := bf_d _h24
      refine W_skip ?_
      refine thn_nrm (_hK_11 _ _ ?_)
      clear _hK_11
      refine W_seq fun _K_15 _hK_15 => ?_
      refine W_region ?_
      have _f_16 := (_m2.ch0 _cw_10)
      refine WL_step rfl rfl (r_loadAtA0 _f_16.at_ agg24 sz24 rfl) ?_
      refine WL_s rfl rfl ?_
      have _f_17 := (_f_9.ch0 _cw_10)
      refine Step.call (r_call (xs := [.tmp 26]) fk16 rfl) (c_laws_toExpr _f_17 (by omega)) fun _v27 _w_18 _q27 => ?_
      obtain ⟨_u27, rfl, _q27, _lo27, _cw_18⟩ := _q27
      have _cw_18z := _cw_18.size
      have E := E.trans _cw_18
      obtain ⟨_Au27, _Cu27, _eu27⟩ := _q27.val
      subst _eu27
      have _lu27 := _q27.len
      have _hiu27 := _q27.lt
      refine WL_step rfl rfl (r_move rfl) ?_
      refine WL_s rfl rfl ?_
      have _f_19 := (((_h_w9.ch0 _cw_2).ch0 _cw_10).ch0 _cw_18)
      refine Step.call (r_call (xs := [.tmp 28]) fk32 rfl) (c_laws_toIntS _f_19 (by omega)) fun _v29 _w_20 _q29 => ?_
      obtain ⟨_q29, _lo29, _cw_20⟩ := _q29
      have _cw_20z := _cw_20.size
      have E := E.trans _cw_20
      obtain ⟨_Av29, _Cv29, _ev29⟩ := _q29.val
      subst _ev29
      have _lv29 := _q29.len
      have _hiv29 := _q29.lt
      refine WL_s rfl rfl ?_
      have _f_21 := (_q27.ch0 _cw_20)
      refine Step.call (r_call (xs := [.tmp 27, .tmp 29]) fk31 rfl) (c_spec_DerivativeWord _f_21.ls _q29.ls (by omega)) fun _v30 _w_22 _q30 => ?_
      obtain ⟨u30_0x0, rfl, _q_u30_0x0, _lo_u30_0x0, _cw_22⟩ := _q30
      have _cw_22z := _cw_22.size
      have E := E.trans _cw_22
      obtain ⟨Au30_0x0, Cu30_0x0, eu30_0x0⟩ := _q_u30_0x0.val
      subst eu30_0x0
      have lu30_0x0 := _q_u30_0x0.len
      have _hiu30_0x0 := _q_u30_0x0.lt
      refine WL_step rfl rfl (r_move rfl) ?_
      refine WL_step rfl rfl (r_extract rfl rfl) ?_
      refine WL_step rfl rfl (r_extract rfl rfl) ?_
      refine WL_s rfl rfl ?_
      refine s_alloc zr29 fun _b6 _w_23 _m6 _cw_23 _e6 => ?_
      have _cw_23z := _cw_23.size
      have E := E.trans _cw_23
      have _z6 := _m6.lt
      replace _m6 : Blk _w_23 _b6 29 [(.slice none 0 0)] := _m6
      refine WL_s rfl rfl ?_
      refine s_storeA (off := 0) 1 _m6 sz29 rfl (us := [(.slice Au30_0x0 ((dwE e w9).1).length Cu30_0x0)]) rfl rfl rfl rfl fun _w_24 _m_25 _cw_24 => ?_
      have _cw_24z := _cw_24.size
      have E := E.step _cw_24 (fun i hi => .inl (by have _h1 := List.mem_singleton.1 hi; omega))
      replace _m_25 : Blk _w_24 _b6 29 [(.slice Au30_0x0 ((dwE e w9).1).length Cu30_0x0)] := _m_25
      refine WL_step rfl rfl (r_assign rfl) ?_
      refine WL_nil ?_
      refine thn_nrm (_hK_15 _ _ ?_)
      clear _hK_15
      refine W_seq fun _K_26 _hK_26 => ?_
      refine W_region ?_
      have _f_27 := (((((_f_16.ch0 _cw_18).ch0 _cw_20).ch0 _cw_22).ch0 _cw_23).ch _cw_24 (fun hm => by have _h1 := List.mem_singleton.1 hm; omega))
      refine WL_step rfl rfl (r_loadAtA0 _f_27.at_ agg24 sz24 rfl) ?_
      refine WL_s rfl rfl ?_
      have _f_28 := (((((_f_17.ch0 _cw_18).ch0 _cw_20).ch0 _cw_22).ch0 _cw_23).ch _cw_24 (fun i hi => by have _h1 := List.mem_singleton.1 hi; omega))
      refine Step.call (r_call (xs := [.tmp 33]) fk16 rfl) (c_laws_toExpr _f_28 (by omega)) fun _v34 _w_29 _q34 => ?_
      obtain ⟨_u34, rfl, _q34, _lo34, _cw_29⟩ := _q34
      have _cw_29z := _cw_29.size
      have E := E.trans _cw_29
      obtain ⟨_Au34, _Cu34, _eu34⟩ := _q34.val
      subst _eu34
      have _lu34 := _q34.len
      have _hiu34 := _q34.lt
      refine WL_s rfl rfl ?_
      refine s_alloc zr29 fun _b8 _w_30 _m8 _cw_30 _e8 => ?_
      have _cw_30z := _cw_30.size
      have E := E.trans _cw_30
      have _z8 := _m8.lt
      replace _m8 : Blk _w_30 _b8 29 [(.slice none 0 0)] := _m8
      refine WL_s rfl rfl ?_
      refine s_storeA (off := 0) 1 _m8 sz29 rfl (us := [(.slice _Au34 (e).length _Cu34)]) rfl rfl rfl rfl fun _w_31 _m_32 _cw_31 => ?_
      have _cw_31z := _cw_31.size
      have E := E.step _cw_31 (fun i hi => .inl (by have _h1 := List.mem_singleton.1 hi; omega))
      replace _m_32 : Blk _w_31 _b8 29 [(.slice _Au34 (e).length _Cu34)] := _m_32
      refine WL_nil ?_
      refine thn_nrm (_hK_26 _ _ ?_)
      clear _hK_26
      refine W_seq fun _K_33 _hK_33 => ?_
      refine W_region ?_
      refine WL_step rfl rfl (r_move rfl) ?_
      refine WL_s rfl rfl ?_
      have _f_34 := (((((((_f_19.ch0 _cw_20).ch0 _cw_22).ch0 _cw_23).ch _cw_24 (fun i hi => by have _h1 := List.mem_singleton.1 hi; omega)).ch0 _cw_29).ch0 _cw_30).ch _cw_31 (fun i hi => by have _h1 := List.mem_singleton.1 hi; omega))
      refine Step.call (r_call (xs := [.tmp 35]) fk32 rfl) (c_laws_toIntS _f_34 (by omega)) fun _v36 _w_35 _q36 => ?_
      obtain ⟨_q36, _lo36, _cw_35⟩ := _q36
      have _cw_35z := _cw_35.size
      have E := E.trans _cw_35
      obtain ⟨_Av36, _Cv36, _ev36⟩ := _q36.val
      subst _ev36
      have _lv36 := _q36.len
      have _hiv36 := _q36.lt
      refine WL_step rfl rfl (r_assign rfl) ?_
      refine WL_nil ?_
      refine thn_nrm (_hK_33 _ _ ?_)
      clear _hK_33
      refine W_seq fun _K_36 _hK_36 => ?_
      refine W_region ?_
      have _f_37 := (_m_32.ch0 _cw_35)
      refine WL_step rfl rfl (r_loadAtA0 _f_37.at_ agg29 sz29 rfl) ?_
      refine WL_step rfl rfl (r_move rfl) ?_
      refine WL_s rfl rfl ?_
      have _f_38 := (((_q34.ch0 _cw_30).ch _cw_31 (fun g hg hm => by have _h0 := List.mem_singleton.1 hm; have _h2 := _lo34 _ hg; have _h3 := _hiu34 _ hg; omega)).ch0 _cw_35)
      refine Step.call (r_call (xs := [.tmp 38, .tmp 39]) fk33 rfl) (c_impl_DerivativeWord _f_38.ls _q36.ls (by omega)) fun _v40 _w_39 _q40 => ?_
      obtain ⟨u40_0x0, rfl, _q_u40_0x0, _lo_u40_0x0, _cw_39⟩ := _q40
      have _cw_39z := _cw_39.size
      have E := E.trans _cw_39
      obtain ⟨Au40_0x0, Cu40_0x0, eu40_0x0⟩ := _q_u40_0x0.val
      subst eu40_0x0
      have lu40_0x0 := _q_u40_0x0.len
      have _hiu40_0x0 := _q_u40_0x0.lt
      refine WL_step rfl rfl (r_move rfl) ?_
      refine WL_step rfl rfl (r_extract rfl rfl) ?_
      refine WL_step rfl rfl (r_extract rfl rfl) ?_
      refine WL_s rfl rfl ?_
      refine s_alloc zr29 fun _b10 _w_40 _m10 _cw_40 _e10 => ?_
      have _cw_40z := _cw_40.size
      have E := E.trans _cw_40
      have _z10 := _m10.lt
      replace _m10 : Blk _w_40 _b10 29 [(.slice none 0 0)] := _m10
      refine WL_s rfl rfl ?_
      refine s_storeA (off := 0) 1 _m10 sz29 rfl (us := [(.slice Au40_0x0 ((dwE e w9).1).length Cu40_0x0)]) rfl rfl rfl rfl fun _w_41 _m_42 _cw_41 => ?_
      have _cw_41z := _cw_41.size
      have E := E.step _cw_41 (fun i hi => .inl (by have _h1 := List.mem_singleton.1 hi; omega))
      replace _m_42 : Blk _w_41 _b10 29 [(.slice Au40_0x0 ((dwE e w9).1).length Cu40_0x0)] := _m_42
      refine WL_step rfl rfl (r_assign rfl) ?_
      refine WL_nil ?_
      refine thn_nrm (_hK_36 _ _ ?_)
      clear _hK_36
      refine W_seq fun _K_43 _hK_43 => ?_
      refine W_seq fun _K_44 _hK_44 => ?_
      refine W_region ?_
      refine WL_step rfl rfl (r_loadAtA0 _m_42.at_ agg29 sz29 rfl) ?_
      have _f_45 := (((((((_m_25.ch0 _cw_29).ch0 _cw_30).ch _cw_31 (fun hm => by have _h1 := List.mem_singleton.1 hm; omega)).ch0 _cw_35).ch0 _cw_39).ch0 _cw_40).ch _cw_41 (fun hm => by have _h1 := List.mem_singleton.1 hm; omega))
      refine WL_step rfl rfl (r_loadAtA0 _f_45.at_ agg29 sz29 rfl) ?_
      refine WL_s rfl rfl ?_
      have _f_46 := ((_q_u40_0x0.ch0 _cw_40).ch _cw_41 (fun g hg hm => by have _h0 := List.mem_singleton.1 hm; have _h2 := _lo_u40_0x0 _ hg; have _h3 := _hiu40_0x0 _ hg; omega))
      have _f_47 := (((((((((_q_u30_0x0.ch0 _cw_23).ch _cw_24 (fun g hg hm => by have _h0 := List.mem_singleton.1 hm; have _h2 := _lo_u30_0x0 _ hg; have _h3 := _hiu30_0x0 _ hg; omega)).ch0 _cw_29).ch0 _cw_30).ch _cw_31 (fun g hg hm => by have _h0 := List.mem_singleton.1 hm; have _h2 := _lo_u30_0x0 _ hg; have _h3 := _hiu30_0x0 _ hg; omega)).ch0 _cw_35).ch0 _cw_39).ch0 _cw_40).ch _cw_41 (fun g hg hm => by have _h0 := List.mem_singleton.1 hm; have _h2 := _lo_u30_0x0 _ hg; have _h3 := _hiu30_0x0 _ hg; omega))
      refine Step.call (r_call (xs := [.tmp 43, .tmp 44]) fk18 rfl) (c_laws_eqExpr _f_46.ls _f_47.ls ) fun _v45 _w_48 _q45 => ?_
      obtain ⟨rfl, _cw_48⟩ := _q45
      have _cw_48z := _cw_48.size
      have E := E.trans _cw_48
      refine WL_step rfl rfl (r_not rfl) ?_
      refine WL_step rfl rfl (r_move rfl) ?_
      refine WL_split (d := 47) rfl (fun _h47 => ?_) (fun _h47 => ?_)
      · have _kb_49 := _h47
        have _h47 := bf_d (bt_n _h47)
        refine WL_skip rfl rfl ?_
        refine WL_skip rfl rfl ?_
        refine WL_skip rfl rfl ?_
        refine WL_step rfl rfl (r_pickT rfl rfl) ?_
        refine WL_nil ?_
        refine thn_nrm (_hK_44 _ _ ?_)
        clear _hK_44
        refine W_condT rfl ?_
        refine W_seq fun _K_50 _hK_50 => ?_
        refine W_region ?_
        refine WL_step rfl rfl (r_assign rfl) ?_
        refine WL_nil ?_
        refine thn_nrm (_hK_50 _ _ ?_)
        clear _hK_50
        refine W_ret (thn_ret ?_)
        clear _hK_43
        exact ret_intro [_] ⟨rfl, trivial⟩ ⟨congrArg Value.bool (by first | rfl | (exfalso; omega) | (exfalso; revert _h47; simp; done) | (exfalso; revert _h47; simp; omega)), E⟩
      · have _kb_49 := _h47
        have _h47 := bt_d (bf_n _h47)
        refine WL_step rfl rfl (r_move rfl) ?_
        refine WL_step rfl rfl (r_move rfl) ?_
        refine WL_step rfl rfl (r_neqB un4 rfl rfl) ?_
        refine WL_step rfl rfl (r_pickF rfl rfl) ?_
        refine WL_nil ?_
        refine thn_nrm (_hK_44 _ _ ?_)
        clear _hK_44
        refine W_cond rfl (fun _h51 => ?_) (fun _h51 => ?_)
        · have _kb_51 := _h51
          have _h51 := bf_e (bt_n _h51)
          refine W_seq fun _K_52 _hK_52 => ?_
          refine W_region ?_
          refine WL_step rfl rfl (r_assign rfl) ?_
          refine WL_nil ?_
          refine thn_nrm (_hK_52 _ _ ?_)
          clear _hK_52
          refine W_ret (thn_ret ?_)
          clear _hK_43
          exact ret_intro [_] ⟨rfl, trivial⟩ ⟨congrArg Value.bool (by first | rfl | (exfalso; omega) | (exfalso; revert _h51; simp; done) | (exfalso; revert _h51; simp; omega)), E⟩
        · have _kb_51 := _h51
          have _h51 := bt_e (bf_n _h51)
          refine W_skip ?_
          refine thn_nrm (_hK_43 _ _ ?_)
          clear _hK_43
          refine W_seq fun _K_53 _hK_53 => ?_
          refine W_seq fun _K_54 _hK_54 => ?_
          refine W_drawC [] 5 mixed rfl fun _w_55 _cw_55 => ?_
          have _cw_55z := _cw_55.size
          have E := E.trans _cw_55
          have _f_56 := (((((_f_37.ch0 _cw_39).ch0 _cw_40).ch _cw_41 (fun hm => by have _h1 := List.mem_singleton.1 hm; omega)).ch0 _cw_48).ch0 _cw_55)
          refine DR_s 0 rfl (by kernel_rfl) rfl rfl (t_loadAtA0 _f_56.at_ (fun i hi => absurd hi List.not_mem_nil) agg29 sz29 rfl ?_)
          have _f_57 := (((((((((_f_27.ch0 _cw_29).ch0 _cw_30).ch _cw_31 (fun hm => by have _h1 := List.mem_singleton.1 hm; omega)).ch0 _cw_35).ch0 _cw_39).ch0 _cw_40).ch _cw_41 (fun hm => by have _h1 := List.mem_singleton.1 hm; omega)).ch0 _cw_48).ch0 _cw_55)
          refine DR_s 1 rfl (by kernel_rfl) rfl rfl (t_loadAtA0 _f_57.at_ (fun i hi => absurd hi List.not_mem_nil) agg24 sz24 rfl ?_)
          refine DR_one 2 (by kernel_rfl) ?_
          refine DO_s rfl rfl rfl ?_
          have _f_58 := (((((((((_f_28.ch0 _cw_29).ch0 _cw_30).ch _cw_31 (fun i hi => by have _h1 := List.mem_singleton.1 hi; omega)).ch0 _cw_35).ch0 _cw_39).ch0 _cw_40).ch _cw_41 (fun i hi => by have _h1 := List.mem_singleton.1 hi; omega)).ch0 _cw_48).ch0 _cw_55)
          refine Step.call (r_call (xs := [.tmp 53]) fk16 rfl) (c_laws_toExpr _f_58 (by omega)) fun _v54 _w_59 _q54 => ?_
          obtain ⟨_u54, rfl, _q54, _lo54, _cw_59⟩ := _q54
          have _cw_59z := _cw_59.size
          have E := E.trans _cw_59
          obtain ⟨_Au54, _Cu54, _eu54⟩ := _q54.val
          subst _eu54
          have _lu54 := _q54.len
          have _hiu54 := _q54.lt
          have _S_60 : Ch [] _w_55 _w_59 := ((Ch.refl _ _).trans _cw_59)
          refine ⟨_S_60, ?_⟩
          refine DR_one 3 (by kernel_rfl) ?_
          refine DO_s rfl rfl rfl ?_
          have _f_61 := ((((((_f_38.ch0 _cw_39).ch0 _cw_40).ch _cw_41 (fun g hg hm => by have _h0 := List.mem_singleton.1 hm; have _h2 := _lo34 _ hg; have _h3 := _hiu34 _ hg; omega)).ch0 _cw_48).ch0 _cw_55).ch0 _cw_59)
          refine Step.call (r_call (xs := [.tmp 52, .tmp 54]) fk18 rfl) (c_laws_eqExpr _f_61.ls _q54.ls ) fun _v55 _w_62 _q55 => ?_
          obtain ⟨rfl, _cw_62⟩ := _q55
          have _cw_62z := _cw_62.size
          have E := E.trans _cw_62
          have _S_63 : Ch [] _w_55 _w_62 := (_S_60.trans _cw_62)
          refine ⟨_S_63, ?_⟩
          refine DR_s 4 rfl (by kernel_rfl) rfl rfl (t_v (fun _ => (r_not rfl)) ?_)
          refine DR_done (by kernel_rfl) ?_
          refine thn_nrm (_hK_54 _ _ ?_)
          clear _hK_54
          refine W_cond rfl (fun _h56 => ?_) (fun _h56 => ?_)
          · have _kb_64 := _h56
            have _h56 := bf_d (bt_n _h56)
            refine W_seq fun _K_65 _hK_65 => ?_
            refine W_region ?_
            refine WL_step rfl rfl (r_assign rfl) ?_
            refine WL_nil ?_
            refine thn_nrm (_hK_65 _ _ ?_)
            clear _hK_65
            refine W_ret (thn_ret ?_)
            clear _hK_53
            exact ret_intro [_] ⟨rfl, trivial⟩ ⟨congrArg Value.bool (by first | rfl | (exfalso; omega) | (exfalso; revert _h56; simp; done) | (exfalso; revert _h56; simp; omega)), E⟩
          · have _kb_64 := _h56
            have _h56 := bt_d (bf_n _h56)
            refine W_skip ?_
            refine thn_nrm (_hK_53 _ _ ?_)
            clear _hK_53
            refine W_seq fun _K_66 _hK_66 => ?_
            refine W_seq fun _K_67 _hK_67 => ?_
            refine W_region ?_
            refine WL_step rfl rfl (r_move rfl) ?_
            refine WL_step rfl rfl (r_move rfl) ?_
            refine WL_s rfl rfl ?_
            have _f_68 := ((((((((_f_34.ch0 _cw_35).ch0 _cw_39).ch0 _cw_40).ch _cw_41 (fun i hi => by have _h1 := List.mem_singleton.1 hi; omega)).ch0 _cw_48).ch0 _cw_55).ch0 _cw_59).ch0 _cw_62)
            refine Step.call (r_call (xs := [.tmp 58]) fk32 rfl) (c_laws_toIntS _f_68 (by omega)) fun _v59 _w_69 _q59 => ?_
            obtain ⟨_q59, _lo59, _cw_69⟩ := _q59
            have _cw_69z := _cw_69.size
            have E := E.trans _cw_69
            obtain ⟨_Av59, _Cv59, _ev59⟩ := _q59.val
            subst _ev59
            have _lv59 := _q59.len
            have _hiv59 := _q59.lt
            refine WL_s rfl rfl ?_
            have _f_70 := ((((((((_q36.ch0 _cw_39).ch0 _cw_40).ch _cw_41 (fun g hg hm => by have _h0 := List.mem_singleton.1 hm; have _h2 := _lo36 _ hg; have _h3 := _hiv36 _ hg; omega)).ch0 _cw_48).ch0 _cw_55).ch0 _cw_59).ch0 _cw_62).ch0 _cw_69)
            refine Step.call (r_call (xs := [.tmp 57, .tmp 59]) fk34 rfl) (c_laws_eqIntS _f_70.ls _q59.ls ) fun _v60 _w_71 _q60 => ?_
            obtain ⟨rfl, _cw_71⟩ := _q60
            have _cw_71z := _cw_71.size
            have E := E.trans _cw_71
            refine WL_step rfl rfl (r_not rfl) ?_
            refine WL_nil ?_
            refine thn_nrm (_hK_67 _ _ ?_)
            clear _hK_67
            refine W_cond rfl (fun _h61 => ?_) (fun _h61 => ?_)
            · have _kb_72 := _h61
              have _h61 := bf_d (bt_n _h61)
              refine W_seq fun _K_73 _hK_73 => ?_
              refine W_region ?_
              refine WL_step rfl rfl (r_assign rfl) ?_
              refine WL_nil ?_
              refine thn_nrm (_hK_73 _ _ ?_)
              clear _hK_73
              refine W_ret (thn_ret ?_)
              clear _hK_66
              exact ret_intro [_] ⟨rfl, trivial⟩ ⟨congrArg Value.bool (by first | rfl | (exfalso; omega) | (exfalso; revert _h61; simp; done) | (exfalso; revert _h61; simp; omega)), E⟩
            · have _kb_72 := _h61
              have _h61 := bt_d (bf_n _h61)
              refine W_skip ?_
              refine thn_nrm (_hK_66 _ _ ?_)
              clear _hK_66
              refine W_seq fun _K_74 _hK_74 => ?_
              refine W_region ?_
              refine WL_step rfl rfl (r_assign rfl) ?_
              refine WL_nil ?_
              refine thn_nrm (_hK_74 _ _ ?_)
              clear _hK_74
              refine W_seq fun _K_75 _hK_75 => ?_
              refine W_region ?_
              have _f_76 := ((((_f_56.ch0 _cw_59).ch0 _cw_62).ch0 _cw_69).ch0 _cw_71)
              refine WL_step rfl rfl (r_loadAtA0 _f_76.at_ agg29 sz29 rfl) ?_
              refine WL_step rfl rfl (r_move rfl) ?_
              refine WL_s rfl rfl ?_
              have _f_77 := (((_f_61.ch0 _cw_62).ch0 _cw_69).ch0 _cw_71)
              refine Step.call (r_call (xs := [.tmp 62, .tmp 63]) fk25 rfl) (c_laws_markExpr _f_77 _ (by omega) (by first | omega | (simp <;> omega))) fun _v64 _w_78 _q64 => ?_
              obtain ⟨rfl, _q64, _cw_78⟩ := _q64
              have _cw_78z := _cw_78.size
              have E := E.step _cw_78 (fun i hi => .inl (by have _h1 := _lo34 _ hi; omega))
              refine WL_step rfl rfl (r_assign rfl) ?_
              refine WL_nil ?_
              refine thn_nrm (_hK_75 _ _ ?_)
              clear _hK_75
              refine W_seq fun _K_79 _hK_79 => ?_
              refine W_region ?_
              refine WL_step rfl rfl (r_move rfl) ?_
              refine WL_step rfl rfl (r_move rfl) ?_
              refine WL_s rfl rfl ?_
              have _f_80 := ((_f_70.ch0 _cw_71).ch _cw_78 (fun g hg hm => by have _h1 := _lo34 _ hm; have _h2 := _hiu34 _ hm; have _h3 := _lo36 _ hg; have _h4 := _hiv36 _ hg; omega))
              refine Step.call (r_call (xs := [.tmp 65, .tmp 66]) fk35 rfl) (c_laws_markIntS _f_80 _ (by omega) (by first | omega | (simp <;> omega))) fun _v67 _w_81 _q67 => ?_
              obtain ⟨rfl, _q67, _cw_81⟩ := _q67
              have _cw_81z := _cw_81.size
              have E := E.step _cw_81 (fun i hi => .inl (by have _h1 := _lo36 _ hi; omega))
              refine WL_step rfl rfl (r_assign rfl) ?_
              refine WL_nil ?_
              refine thn_nrm (_hK_79 _ _ ?_)
              clear _hK_79
              refine W_seq fun _K_82 _hK_82 => ?_
              refine W_seq fun _K_83 _hK_83 => ?_
              refine W_region ?_
              refine WL_step rfl rfl (r_move rfl) ?_
              refine WL_step rfl rfl (r_lss rfl rfl) ?_
              refine WL_step rfl rfl (r_move rfl) ?_
              refine WL_split (d := 70) rfl (fun _h70 => ?_) (fun _h70 => ?_)
              · have _kb_84 := _h70
                have _h70 := bt_d _h70
                refine WL_skip rfl rfl ?_
                refine WL_skip rfl rfl ?_
                refine WL_skip rfl rfl ?_
                refine WL_skip rfl rfl ?_
                refine WL_step rfl rfl (r_pickT rfl rfl) ?_
                refine WL_step rfl rfl (r_move rfl) ?_
                refine WL_skip rfl rfl ?_
                refine WL_skip rfl rfl ?_
                refine WL_skip rfl rfl ?_
                refine WL_step rfl rfl (r_pickT rfl rfl) ?_
                refine WL_nil ?_
                refine thn_nrm (_hK_83 _ _ ?_)
                clear _hK_83
                refine W_condT rfl ?_
                refine W_seq fun _K_85 _hK_85 => ?_
                refine W_region ?_
                refine WL_step rfl rfl (r_assign rfl) ?_
                refine WL_nil ?_
                refine thn_nrm (_hK_85 _ _ ?_)
                clear _hK_85
                refine W_ret (thn_ret ?_)
                clear _hK_82
                exact ret_intro [_] ⟨rfl, trivial⟩ ⟨congrArg Value.bool (by first | rfl | (exfalso; omega) | (exfalso; revert _h70; simp; done) | (exfalso; revert _h70; simp; omega)), E⟩
              · have _kb_84 := _h70
                have _h70 := bf_d _h70
                have _f_86 := ((((((((_m_42.ch0 _cw_48).ch0 _cw_55).ch0 _cw_59).ch0 _cw_62).ch0 _cw_69).ch0 _cw_71).ch _cw_78 (fun hm => by have _h1 := _lo34 _ hm; have _h2 := _hiu34 _ hm; omega)).ch _cw_81 (fun hm => by have _h1 := _lo36 _ hm; have _h2 := _hiv36 _ hm; omega))
                refine WL_step rfl rfl (r_loadAtA0 _f_86.at_ agg29 sz29 rfl) ?_
                have _f_87 := ((((((((_f_45.ch0 _cw_48).ch0 _cw_55).ch0 _cw_59).ch0 _cw_62).ch0 _cw_69).ch0 _cw_71).ch _cw_78 (fun hm => by have _h1 := _lo34 _ hm; have _h2 := _hiu34 _ hm; omega)).ch _cw_81 (fun hm => by have _h1 := _lo36 _ hm; have _h2 := _hiv36 _ hm; omega))
                refine WL_step rfl rfl (r_loadAtA0 _f_87.at_ agg29 sz29 rfl) ?_
                refine WL_s rfl rfl ?_
                have _f_88 := ((((((((_f_46.ch0 _cw_48).ch0 _cw_55).ch0 _cw_59).ch0 _cw_62).ch0 _cw_69).ch0 _cw_71).ch _cw_78 (fun g hg hm => by have _h1 := _lo34 _ hm; have _h2 := _hiu34 _ hm; have _h3 := _lo_u40_0x0 _ hg; have _h4 := _hiu40_0x0 _ hg; omega)).ch _cw_81 (fun g hg hm => by have _h1 := _lo36 _ hm; have _h2 := _hiv36 _ hm; have _h3 := _lo_u40_0x0 _ hg; have _h4 := _hiu40_0x0 _ hg; omega))
                have _f_89 := ((((((((_f_47.ch0 _cw_48).ch0 _cw_55).ch0 _cw_59).ch0 _cw_62).ch0 _cw_69).ch0 _cw_71).ch _cw_78 (fun g hg hm => by have _h1 := _lo34 _ hm; have _h2 := _hiu34 _ hm; have _h3 := _lo_u30_0x0 _ hg; have _h4 := _hiu30_0x0 _ hg; omega)).ch _cw_81 (fun g hg hm => by have _h1 := _lo36 _ hm; have _h2 := _hiv36 _ hm; have _h3 := _lo_u30_0x0 _ hg; have _h4 := _hiu30_0x0 _ hg; omega))
                refine Step.call (r_call (xs := [.tmp 71, .tmp 72]) fk18 rfl) (c_laws_eqExpr _f_88.ls _f_89.ls ) fun _v73 _w_90 _q73 => ?_
                obtain ⟨rfl, _cw_90⟩ := _q73
                have _cw_90z := _cw_90.size
                have E := E.trans _cw_90
                refine WL_step rfl rfl (r_not rfl) ?_
                refine WL_step rfl rfl (r_pickF rfl rfl) ?_
                refine WL_step rfl rfl (r_move rfl) ?_
                refine WL_splitF (d := 76) rfl _kb_49 ?_
                refine WL_step rfl rfl (r_move rfl) ?_
                refine WL_step rfl rfl (r_move rfl) ?_
                refine WL_step rfl rfl (r_neqB un4 rfl rfl) ?_
                refine WL_step rfl rfl (r_pickF rfl rfl) ?_
                refine WL_nil ?_
                refine thn_nrm (_hK_83 _ _ ?_)
                clear _hK_83
                refine W_condFk rfl _kb_51 ?_
                refine W_skip ?_
                refine thn_nrm (_hK_82 _ _ ?_)
                clear _hK_82
                refine W_seq fun _K_91 _hK_91 => ?_
                refine W_region ?_
                refine WL_step rfl rfl (r_assign rfl) ?_
                refine WL_nil ?_
                refine thn_nrm (_hK_91 _ _ ?_)
                clear _hK_91
                refine W_seq fun _K_92 _hK_92 => ?_
                refine W_region ?_
                have _f_93 := (_f_86.ch0 _cw_90)
                refine WL_step rfl rfl (r_loadAtA0 _f_93.at_ agg29 sz29 rfl) ?_
                refine WL_step rfl rfl (r_move rfl) ?_
                refine WL_s rfl rfl ?_
                have _f_94 := (_f_88.ch0 _cw_90)
                refine Step.call (r_call (xs := [.tmp 81, .tmp 82]) fk25 rfl) (c_laws_markExpr _f_94 _ (by omega) (by first | omega | (simp <;> omega))) fun _v83 _w_95 _q83 => ?_
                obtain ⟨rfl, _q83, _cw_95⟩ := _q83
                have _cw_95z := _cw_95.size
                have E := E.step _cw_95 (fun i hi => .inl (by have _h1 := _lo_u40_0x0 _ hi; omega))
                refine WL_step rfl rfl (r_assign rfl) ?_
                refine WL_nil ?_
                refine thn_nrm (_hK_92 _ _ ?_)
                clear _hK_92
                refine W_seq fun _K_96 _hK_96 => ?_
                refine W_region ?_
                refine WL_step rfl rfl (r_assign rfl) ?_
                refine WL_nil ?_
                refine thn_nrm (_hK_96 _ _ ?_)
                clear _hK_96
                refine W_seq fun _K_97 _hK_97 => ?_
                refine W_region ?_
                have _f_98 := (_f_93.ch _cw_95 (fun hm => by have _h1 := _lo_u40_0x0 _ hm; have _h2 := _hiu40_0x0 _ hm; omega))
                refine WL_step rfl rfl (r_loadAtA0 _f_98.at_ agg29 sz29 rfl) ?_
                refine WL_step rfl rfl (r_move rfl) ?_
                refine WL_s rfl rfl ?_
                refine Step.call (r_call (xs := [.tmp 84, .tmp 85]) fk26 rfl) (c_laws_heldExpr _q83.ls _ (by omega) (by first | omega | (simp <;> omega))) fun _v86 _w_99 _q86 => ?_
                obtain ⟨rfl, _cw_99⟩ := _q86
                have _cw_99z := _cw_99.size
                have E := E.trans _cw_99
                refine WL_step rfl rfl (r_assign rfl) ?_
                refine WL_nil ?_
                refine thn_nrm (_hK_97 _ _ ?_)
                clear _hK_97
                refine W_seq fun _K_100 _hK_100 => ?_
                refine W_seq fun _K_101 _hK_101 => ?_
                refine W_region ?_
                refine WL_step rfl rfl (r_move rfl) ?_
                refine WL_step rfl rfl (r_lss rfl rfl) ?_
                refine WL_nil ?_
                refine thn_nrm (_hK_101 _ _ ?_)
                clear _hK_101
                refine W_cond rfl (fun _h88 => ?_) (fun _h88 => ?_)
                · have _kb_102 := _h88
                  have _h88 := bt_d _h88
                  refine W_seq fun _K_103 _hK_103 => ?_
                  refine W_region ?_
                  refine WL_step rfl rfl (r_assign rfl) ?_
                  refine WL_nil ?_
                  refine thn_nrm (_hK_103 _ _ ?_)
                  clear _hK_103
                  refine W_ret (thn_ret ?_)
                  clear _hK_100
                  exact ret_intro [_] ⟨rfl, trivial⟩ ⟨congrArg Value.bool (by first | rfl | (exfalso; omega) | (exfalso; revert _h88; simp; done) | (exfalso; revert _h88; simp; omega)), E⟩
                · have _kb_102 := _h88
                  have _h88 := bf_d _h88
                  refine W_skip ?_
                  refine thn_nrm (_hK_100 _ _ ?_)
                  clear _hK_100
                  refine W_seq fun _K_104 _hK_104 => ?_
                  refine W_seq fun _K_105 _hK_105 => ?_
                  refine W_region ?_
                  refine WL_step rfl rfl (r_move rfl) ?_
                  refine WL_step rfl rfl (r_move rfl) ?_
                  refine WL_step rfl rfl (r_neq rfl rfl) ?_
                  refine WL_nil ?_
                  refine thn_nrm (_hK_105 _ _ ?_)
                  clear _hK_105
                  refine W_cond rfl (fun _h91 => ?_) (fun _h91 => ?_)
                  · have _kb_106 := _h91
                    have _h91 := bf_d (bt_n _h91)
                    refine W_seq fun _K_107 _hK_107 => ?_
                    refine W_region ?_
                    refine WL_step rfl rfl (r_assign rfl) ?_
                    refine WL_nil ?_
                    refine thn_nrm (_hK_107 _ _ ?_)
                    clear _hK_107
                    refine W_ret (thn_ret ?_)
                    clear _hK_104
                    exact ret_intro [_] ⟨rfl, trivial⟩ ⟨congrArg Value.bool (by first | rfl | (exfalso; omega) | (exfalso; revert _h91; simp; done) | (exfalso; revert _h91; simp; omega)), E⟩
                  · have _kb_106 := _h91
                    have _h91 := bt_d (bf_n _h91)
                    refine W_skip ?_
                    refine thn_nrm (_hK_104 _ _ ?_)
                    clear _hK_104
                    refine W_seq fun _K_108 _hK_108 => ?_
                    refine W_region ?_
                    have _f_109 := (((((((((_f_57.ch0 _cw_59).ch0 _cw_62).ch0 _cw_69).ch0 _cw_71).ch _cw_78 (fun hm => by have _h1 := _lo34 _ hm; have _h2 := _hiu34 _ hm; omega)).ch _cw_81 (fun hm => by have _h1 := _lo36 _ hm; have _h2 := _hiv36 _ hm; omega)).ch0 _cw_90).ch _cw_95 (fun hm => by have _h1 := _lo_u40_0x0 _ hm; have _h2 := _hiu40_0x0 _ hm; omega)).ch0 _cw_99)
                    refine WL_step rfl rfl (r_loadAtA0 _f_109.at_ agg24 sz24 rfl) ?_
                    refine WL_s rfl rfl ?_
                    have _f_110 := (((((((((_f_58.ch0 _cw_59).ch0 _cw_62).ch0 _cw_69).ch0 _cw_71).ch _cw_78 (fun i hi => by have _h1 := _lo34 _ hi; omega)).ch _cw_81 (fun i hi => by have _h1 := _lo36 _ hi; omega)).ch0 _cw_90).ch _cw_95 (fun i hi => by have _h1 := _lo_u40_0x0 _ hi; omega)).ch0 _cw_99)
                    refine Step.call (r_call (xs := [.tmp 93]) fk16 rfl) (c_laws_toExpr _f_110 (by omega)) fun _v94 _w_111 _q94 => ?_
                    obtain ⟨_u94, rfl, _q94, _lo94, _cw_111⟩ := _q94
                    have _cw_111z := _cw_111.size
                    have E := E.trans _cw_111
                    obtain ⟨_Au94, _Cu94, _eu94⟩ := _q94.val
                    subst _eu94
                    have _lu94 := _q94.len
                    have _hiu94 := _q94.lt
                    refine WL_step rfl rfl (r_move rfl) ?_
                    refine WL_s rfl rfl ?_
                    have _f_112 := ((((((((_f_68.ch0 _cw_69).ch0 _cw_71).ch _cw_78 (fun i hi => by have _h1 := _lo34 _ hi; omega)).ch _cw_81 (fun i hi => by have _h1 := _lo36 _ hi; omega)).ch0 _cw_90).ch _cw_95 (fun i hi => by have _h1 := _lo_u40_0x0 _ hi; omega)).ch0 _cw_99).ch0 _cw_111)
                    refine Step.call (r_call (xs := [.tmp 95]) fk32 rfl) (c_laws_toIntS _f_112 (by omega)) fun _v96 _w_113 _q96 => ?_
                    obtain ⟨_q96, _lo96, _cw_113⟩ := _q96
                    have _cw_113z := _cw_113.size
                    have E := E.trans _cw_113
                    obtain ⟨_Av96, _Cv96, _ev96⟩ := _q96.val
                    subst _ev96
                    have _lv96 := _q96.len
                    have _hiv96 := _q96.lt
                    refine WL_s rfl rfl ?_
                    have _f_114 := (_q94.ch0 _cw_113)
                    refine Step.call (r_call (xs := [.tmp 94, .tmp 96]) fk33 rfl) (c_impl_DerivativeWord _f_114.ls _q96.ls (by omega)) fun _v97 _w_115 _q97 => ?_
                    obtain ⟨u97_0x0, rfl, _q_u97_0x0, _lo_u97_0x0, _cw_115⟩ := _q97
                    have _cw_115z := _cw_115.size
                    have E := E.trans _cw_115
                    obtain ⟨Au97_0x0, Cu97_0x0, eu97_0x0⟩ := _q_u97_0x0.val
                    subst eu97_0x0
                    have lu97_0x0 := _q_u97_0x0.len
                    have _hiu97_0x0 := _q_u97_0x0.lt
                    refine WL_step rfl rfl (r_move rfl) ?_
                    refine WL_step rfl rfl (r_extract rfl rfl) ?_
                    refine WL_step rfl rfl (r_extract rfl rfl) ?_
                    refine WL_s rfl rfl ?_
                    refine s_alloc zr29 fun _b15 _w_116 _m15 _cw_116 _e15 => ?_
                    have _cw_116z := _cw_116.size
                    have E := E.trans _cw_116
                    have _z15 := _m15.lt
                    replace _m15 : Blk _w_116 _b15 29 [(.slice none 0 0)] := _m15
                    refine WL_s rfl rfl ?_
                    refine s_storeA (off := 0) 1 _m15 sz29 rfl (us := [(.slice Au97_0x0 ((dwE e w9).1).length Cu97_0x0)]) rfl rfl rfl rfl fun _w_117 _m_118 _cw_117 => ?_
                    have _cw_117z := _cw_117.size
                    have E := E.step _cw_117 (fun i hi => .inl (by have _h1 := List.mem_singleton.1 hi; omega))
                    replace _m_118 : Blk _w_117 _b15 29 [(.slice Au97_0x0 ((dwE e w9).1).length Cu97_0x0)] := _m_118
                    refine WL_step rfl rfl (r_assign rfl) ?_
                    refine WL_nil ?_
                    refine thn_nrm (_hK_108 _ _ ?_)
                    clear _hK_108
                    refine W_seq fun _K_119 _hK_119 => ?_
                    refine W_seq fun _K_120 _hK_120 => ?_
                    refine W_region ?_
                    refine WL_step rfl rfl (r_loadAtA0 _m_118.at_ agg29 sz29 rfl) ?_
                    have _f_121 := ((((((((_f_87.ch0 _cw_90).ch _cw_95 (fun hm => by have _h1 := _lo_u40_0x0 _ hm; have _h2 := _hiu40_0x0 _ hm; omega)).ch0 _cw_99).ch0 _cw_111).ch0 _cw_113).ch0 _cw_115).ch0 _cw_116).ch _cw_117 (fun hm => by have _h1 := List.mem_singleton.1 hm; omega))
                    refine WL_step rfl rfl (r_loadAtA0 _f_121.at_ agg29 sz29 rfl) ?_
                    refine WL_s rfl rfl ?_
                    have _f_122 := ((_q_u97_0x0.ch0 _cw_116).ch _cw_117 (fun g hg hm => by have _h0 := List.mem_singleton.1 hm; have _h2 := _lo_u97_0x0 _ hg; have _h3 := _hiu97_0x0 _ hg; omega))
                    have _f_123 := ((((((((_f_89.ch0 _cw_90).ch _cw_95 (fun g hg hm => by have _h1 := _lo_u40_0x0 _ hm; have _h2 := _hiu40_0x0 _ hm; have _h3 := _lo_u30_0x0 _ hg; have _h4 := _hiu30_0x0 _ hg; omega)).ch0 _cw_99).ch0 _cw_111).ch0 _cw_113).ch0 _cw_115).ch0 _cw_116).ch _cw_117 (fun g hg hm => by have _h0 := List.mem_singleton.1 hm; have _h2 := _lo_u30_0x0 _ hg; have _h3 := _hiu30_0x0 _ hg; omega))
                    refine Step.call (r_call (xs := [.tmp 100, .tmp 101]) fk18 rfl) (c_laws_eqExpr _f_122.ls _f_123.ls ) fun _v102 _w_124 _q102 => ?_
                    obtain ⟨rfl, _cw_124⟩ := _q102
                    have _cw_124z := _cw_124.size
                    have E := E.trans _cw_124
                    refine WL_step rfl rfl (r_not rfl) ?_
                    refine WL_step rfl rfl (r_move rfl) ?_
                    refine WL_splitF (d := 104) rfl _kb_49 ?_
                    refine WL_step rfl rfl (r_move rfl) ?_
                    refine WL_step rfl rfl (r_move rfl) ?_
                    refine WL_step rfl rfl (r_neqB un4 rfl rfl) ?_
                    refine WL_step rfl rfl (r_pickF rfl rfl) ?_
                    refine WL_nil ?_
                    refine thn_nrm (_hK_120 _ _ ?_)
                    clear _hK_120
                    refine W_condFk rfl _kb_51 ?_
                    refine W_skip ?_
                    refine thn_nrm (_hK_119 _ _ ?_)
                    clear _hK_119
                    refine W_seq fun _K_125 _hK_125 => ?_
                    refine W_region ?_
                    refine WL_step rfl rfl (r_assign rfl) ?_
                    refine WL_nil ?_
                    refine thn_nrm (_hK_125 _ _ ?_)
                    clear _hK_125
                    refine W_seq fun _K_126 _hK_126 => ?_
                    refine W_region ?_
                    have _f_127 := (((((((_f_98.ch0 _cw_99).ch0 _cw_111).ch0 _cw_113).ch0 _cw_115).ch0 _cw_116).ch _cw_117 (fun hm => by have _h1 := List.mem_singleton.1 hm; omega)).ch0 _cw_124)
                    refine WL_step rfl rfl (r_loadAtA0 _f_127.at_ agg29 sz29 rfl) ?_
                    refine WL_step rfl rfl (r_move rfl) ?_
                    refine WL_s rfl rfl ?_
                    have _f_128 := (((((((_q83.ch0 _cw_99).ch0 _cw_111).ch0 _cw_113).ch0 _cw_115).ch0 _cw_116).ch _cw_117 (fun g hg hm => by have _h0 := List.mem_singleton.1 hm; have _h2 := _lo_u40_0x0 _ hg; have _h3 := _hiu40_0x0 _ hg; omega)).ch0 _cw_124)
                    refine Step.call (r_call (xs := [.tmp 109, .tmp 110]) fk26 rfl) (c_laws_heldExpr _f_128.ls _ (by omega) (by first | omega | (simp <;> omega))) fun _v111 _w_129 _q111 => ?_
                    obtain ⟨rfl, _cw_129⟩ := _q111
                    have _cw_129z := _cw_129.size
                    have E := E.trans _cw_129
                    refine WL_step rfl rfl (r_assign rfl) ?_
                    refine WL_nil ?_
                    refine thn_nrm (_hK_126 _ _ ?_)
                    clear _hK_126
                    refine W_seq fun _K_130 _hK_130 => ?_
                    refine W_seq fun _K_131 _hK_131 => ?_
                    refine W_region ?_
                    refine WL_step rfl rfl (r_move rfl) ?_
                    refine WL_step rfl rfl (r_lss rfl rfl) ?_
                    refine WL_nil ?_
                    refine thn_nrm (_hK_131 _ _ ?_)
                    clear _hK_131
                    refine W_condFk rfl _kb_102 ?_
                    refine W_skip ?_
                    refine thn_nrm (_hK_130 _ _ ?_)
                    clear _hK_130
                    refine W_seq fun _K_132 _hK_132 => ?_
                    refine W_seq fun _K_133 _hK_133 => ?_
                    refine W_region ?_
                    refine WL_step rfl rfl (r_move rfl) ?_
                    refine WL_step rfl rfl (r_move rfl) ?_
                    refine WL_step rfl rfl (r_neq rfl rfl) ?_
                    refine WL_nil ?_
                    refine thn_nrm (_hK_133 _ _ ?_)
                    clear _hK_133
                    refine W_condFk rfl _kb_106 ?_
                    refine W_skip ?_
                    refine thn_nrm (_hK_132 _ _ ?_)
                    clear _hK_132
                    refine W_seq fun _K_134 _hK_134 => ?_
                    refine W_region ?_
                    refine WL_step rfl rfl (r_assign rfl) ?_
                    refine WL_nil ?_
                    refine thn_nrm (_hK_134 _ _ ?_)
                    clear _hK_134
                    refine W_ret ?_
                    exact ret_intro [_] ⟨rfl, trivial⟩ ⟨congrArg Value.bool (by first | rfl | (exfalso; omega) | (exfalso; revert _h91; simp; done) | (exfalso; revert _h91; simp; omega)), E⟩

end Go.Proofs.Ytjjmjmbihonicaa
