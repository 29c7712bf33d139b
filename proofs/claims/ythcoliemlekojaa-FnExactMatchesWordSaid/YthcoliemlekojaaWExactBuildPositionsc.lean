/- Walks of functions that FnExactBuildPositions reaches: what each returns, and that it leaves the memory that was there alone. -/
import Derived.Test.YthcoliemlekojaaKF
import Derived.Test.YthcoliemlekojaaKG
import Derived.Test.YthcoliemlekojaaKH
import Derived.Test.YthcoliemlekojaaKI
import Derived.Test.YthcoliemlekojaaKJ
import Derived.Test.YthcoliemlekojaaKM
import Derived.Test.YthcoliemlekojaaKN
import Derived.Test.YthcoliemlekojaaKO
import Derived.Test.YthcoliemlekojaaKP
import Derived.Test.YthcoliemlekojaaKQ
import Derived.Test.YthcoliemlekojaaKR
import Derived.Test.YthcoliemlekojaaKS
import Derived.Test.YthcoliemlekojaaKT
import Derived.Test.YthcoliemlekojaaKU
import Derived.Test.YthcoliemlekojaaKV
import Derived.Test.YthcoliemlekojaaKX
import Derived.Test.YthcoliemlekojaaKY
import Derived.Test.YthcoliemlekojaaKZ
import Derived.Test.YthcoliemlekojaaJA
import Derived.Test.YthcoliemlekojaaJB
import Derived.Test.YthcoliemlekojaaJC
import Derived.Test.YthcoliemlekojaaJD
import Derived.Test.YthcoliemlekojaaJE
import Derived.Test.YthcoliemlekojaaJF
import Derived.Test.YthcoliemlekojaaJG
import Derived.Test.YthcoliemlekojaaJH
import Derived.Test.YthcoliemlekojaaJI
import Derived.Test.YthcoliemlekojaaJK
import Derived.Test.YthcoliemlekojaaJM
import Derived.Test.YthcoliemlekojaaJN
import Derived.Test.YthcoliemlekojaaJO
import Derived.Test.YthcoliemlekojaaJP
import Derived.Test.YthcoliemlekojaaJQ
import Derived.Test.YthcoliemlekojaaJR
import Derived.Test.YthcoliemlekojaaJS
import Derived.Test.YthcoliemlekojaaJT
import Derived.Test.YthcoliemlekojaaJU
import Derived.Test.YthcoliemlekojaaJV
import Derived.Test.YthcoliemlekojaaWExactBuildPositions
import Derived.Test.YthcoliemlekojaaWExactBuildPositionsb
import Derived.Test.YthcoliemlekojaaProg
namespace Go.Proofs.Ythcoliemlekojaa
open Go.KLib Go.Shelf
set_option maxHeartbeats 1000000
set_option maxRecDepth 20000
set_option linter.unusedVariables false
set_option linter.unusedSimpArgs false
namespace TExactBuildPositionsc
theorem agg22 : aggB Try.prog 22 = some false := by kernel_rfl
theorem agg25 : aggB Try.prog 25 = some false := by kernel_rfl
theorem agg28 : aggB Try.prog 28 = some false := by kernel_rfl
theorem agg3 : aggB Try.prog 3 = some false := by kernel_rfl
theorem agg30 : aggB Try.prog 30 = some true := by kernel_rfl
theorem agg37 : aggB Try.prog 37 = some true := by kernel_rfl
theorem agg4 : aggB Try.prog 4 = some false := by kernel_rfl
theorem agg55 : aggB Try.prog 55 = some true := by kernel_rfl
theorem agg73 : aggB Try.prog 73 = some true := by kernel_rfl
theorem by55 : bytesB Try.prog 55 = some 32 := by kernel_rfl
theorem el22 : elB Try.prog 22 = some 73 := by kernel_rfl
theorem el25 : elB Try.prog 25 = some 3 := by kernel_rfl
theorem el28 : elB Try.prog 28 = some 55 := by kernel_rfl
theorem fa24_0 : faB Try.prog 24 0 = some 0 := by kernel_rfl
theorem fa30_0 : faB Try.prog 30 0 = some 0 := by kernel_rfl
theorem fa37_0 : faB Try.prog 37 0 = some 0 := by kernel_rfl
theorem fa37_1 : faB Try.prog 37 1 = some 1 := by kernel_rfl
theorem fa37_2 : faB Try.prog 37 2 = some 2 := by kernel_rfl
theorem fa37_3 : faB Try.prog 37 3 = some 3 := by kernel_rfl
theorem fa37_4 : faB Try.prog 37 4 = some 4 := by kernel_rfl
theorem fa55_0 : faB Try.prog 55 0 = some 0 := by kernel_rfl
theorem fa55_1 : faB Try.prog 55 1 = some 1 := by kernel_rfl
theorem fa55_2 : faB Try.prog 55 2 = some 2 := by kernel_rfl
theorem fa55_3 : faB Try.prog 55 3 = some 3 := by kernel_rfl
theorem fa61_0 : faB Try.prog 61 0 = some 0 := by kernel_rfl
theorem fa61_1 : faB Try.prog 61 1 = some 1 := by kernel_rfl
theorem fa61_2 : faB Try.prog 61 2 = some 2 := by kernel_rfl
theorem fa73_0 : faB Try.prog 73 0 = some 0 := by kernel_rfl
theorem fa73_1 : faB Try.prog 73 1 = some 1 := by kernel_rfl
theorem fa73_2 : faB Try.prog 73 2 = some 2 := by kernel_rfl
theorem fa73_3 : faB Try.prog 73 3 = some 3 := by kernel_rfl
theorem fk11 : fnB Try.prog 11 = true := by kernel_rfl
theorem fk18 : fnB Try.prog 18 = true := by kernel_rfl
theorem fk22 : fnB Try.prog 22 = true := by kernel_rfl
theorem fk25 : fnB Try.prog 25 = true := by kernel_rfl
theorem fk27 : fnB Try.prog 27 = true := by kernel_rfl
theorem fk30 : fnB Try.prog 30 = true := by kernel_rfl
theorem fk31 : fnB Try.prog 31 = true := by kernel_rfl
theorem fk32 : fnB Try.prog 32 = true := by kernel_rfl
theorem fk33 : fnB Try.prog 33 = true := by kernel_rfl
theorem fk34 : fnB Try.prog 34 = true := by kernel_rfl
theorem fk35 : fnB Try.prog 35 = true := by kernel_rfl
theorem fk36 : fnB Try.prog 36 = true := by kernel_rfl
theorem fk41 : fnB Try.prog 41 = true := by kernel_rfl
theorem fk47 : fnB Try.prog 47 = true := by kernel_rfl
theorem fk56 : fnB Try.prog 56 = true := by kernel_rfl
theorem fk57 : fnB Try.prog 57 = true := by kernel_rfl
theorem fk62 : fnB Try.prog 62 = true := by kernel_rfl
theorem fk63 : fnB Try.prog 63 = true := by kernel_rfl
theorem fk66 : fnB Try.prog 66 = true := by kernel_rfl
theorem fk67 : fnB Try.prog 67 = true := by kernel_rfl
theorem mixed : Try.prog.follows .mixedOrders = true := by kernel_rfl
theorem pl30 : placesB Try.prog 30 = some [(0, 1)] := by kernel_rfl
theorem pl37 : placesB Try.prog 37 = some [(0, 1), (1, 1), (2, 1), (3, 1), (4, 1)] := by kernel_rfl
theorem pl55 : placesB Try.prog 55 = some [(0, 1), (1, 1), (2, 1), (3, 1)] := by kernel_rfl
theorem sz28 : sizeB Try.prog 28 = some 1 := by kernel_rfl
theorem sz3 : sizeB Try.prog 3 = some 1 := by kernel_rfl
theorem sz30 : sizeB Try.prog 30 = some 1 := by kernel_rfl
theorem sz37 : sizeB Try.prog 37 = some 5 := by kernel_rfl
theorem sz4 : sizeB Try.prog 4 = some 1 := by kernel_rfl
theorem sz55 : sizeB Try.prog 55 = some 4 := by kernel_rfl
theorem sz61 : sizeB Try.prog 61 = some 3 := by kernel_rfl
theorem sz73 : sizeB Try.prog 73 = some 4 := by kernel_rfl
theorem un4 : Try.prog.underlying 4 = some (.bool) := by kernel_rfl
theorem zr30 : zeroB Try.prog 30 = some (.agg #[.slice none 0 0]) := by kernel_rfl
theorem zr37 : zeroB Try.prog 37 = some (.agg #[.slice none 0 0, .int .i64 0, .int .i64 0, .slice none 0 0, .bool false]) := by kernel_rfl
theorem zr55 : zeroB Try.prog 55 = some (.agg #[.int .i64 0, .int .i64 0, .int .i64 0, .int .i64 0]) := by kernel_rfl
theorem zr61 : zeroB Try.prog 61 = some (.agg #[.int .i64 0, .int .i64 0, .bool false]) := by kernel_rfl
end TExactBuildPositionsc
open TExactBuildPositionsc

/-- impl.BuildPositions -/
theorem c_impl_BuildPositions {w : World} {LL_e _B_e : Nat} {_v_e : Value} {e : List Token} (_h_e : Ls Token.cs 4 w LL_e _B_e _v_e e) (hb : e.length ≤ 1048576) :
    Ctr Try.prog 13 #[(.agg #[_v_e])] w (fun v w' => ∃ (u0x0 : Value) (u0x3 : Value), v = .tuple #[.agg #[u0x0, .int .i64 ((bpE e).1.f), .int .i64 ((bpE e).1.l), u0x3, .bool ((bpE e).1.n)], .bool ((bpE e).2)] ∧ Ol ics 3 1 w' u0x0 ((bpE e).1.L) ∧ Lo w.heap.size u0x0 ∧ Ol ics 3 1 w' u0x3 ((bpE e).1.F) ∧ Lo w.heap.size u0x3 ∧ (∀ g ∈ bl u0x0, g ∉ bl u0x3) ∧ Ch [] w w') := by
 obtain ⟨_A_e, _C_e, _e1_e⟩ := _h_e.val
 subst _e1_e
 have _l_e := _h_e.len
 have _h_e := _h_e.here (by decide)
 have E := Ch.refl [] w
 have sl := expE_len e
 refine Ctr_of_W (N := 49) (vs0 := [(.agg #[(.slice _A_e e.length _C_e)])]) Try.func13 rfl rfl rfl ?_
 refine W_seq fun _K_1 _hK_1 => ?_
 refine W_region ?_
 refine WL_s rfl rfl ?_
 refine s_box rfl fun _b1 _w_2 _m1 _cw_2 _e1 => ?_
 have _cw_2z := _cw_2.size
 have E := E.trans _cw_2
 have _z1 := _m1.lt
 replace _m1 : Blk _w_2 _b1 30 [(.slice _A_e e.length _C_e)] := _m1
 refine WL_s rfl rfl ?_
 refine s_alloc zr37 fun _b2 _w_3 _m2 _cw_3 _e2 => ?_
 have _cw_3z := _cw_3.size
 have E := E.trans _cw_3
 have _z2 := _m2.lt
 replace _m2 : Blk _w_3 _b2 37 [(.slice none 0 0), (.int .i64 0), (.int .i64 0), (.slice none 0 0), (.bool false)] := _m2
 refine WL_step rfl rfl (r_assign rfl) ?_
 refine WL_nil ?_
 refine thn_nrm (_hK_1 _ _ ?_)
 clear _hK_1
 refine W_seq fun _K_4 _hK_4 => ?_
 refine W_region ?_
 have _f_5 := (_m1.ch0 _cw_3)
 refine WL_step rfl rfl (r_loadAtA0 _f_5.at_ agg30 sz30 rfl) ?_
 refine WL_s rfl rfl ?_
 have _f_6 := ((_h_e.ch0 _cw_2).ch0 _cw_3)
 refine Step.call (r_call (xs := [.tmp 12]) fk30 rfl) (c_impl_ExpandExpr _f_6 (by omega)) fun _v13 _w_7 _q13 => ?_
 obtain ⟨u13_0x0, rfl, _q_u13_0x0, _lo_u13_0x0, _cw_7⟩ := _q13
 have _cw_7z := _cw_7.size
 have E := E.trans _cw_7
 obtain ⟨Au13_0x0, Cu13_0x0, eu13_0x0⟩ := _q_u13_0x0.val
 subst eu13_0x0
 have lu13_0x0 := _q_u13_0x0.len
 have _hiu13_0x0 := _q_u13_0x0.lt
 refine WL_step rfl rfl (r_move rfl) ?_
 refine WL_step rfl rfl (r_extract rfl rfl) ?_
 refine WL_step rfl rfl (r_extract rfl rfl) ?_
 refine WL_s rfl rfl ?_
 refine s_alloc zr30 fun _b4 _w_8 _m4 _cw_8 _e4 => ?_
 have _cw_8z := _cw_8.size
 have E := E.trans _cw_8
 have _z4 := _m4.lt
 replace _m4 : Blk _w_8 _b4 30 [(.slice none 0 0)] := _m4
 refine WL_s rfl rfl ?_
 refine s_storeA (off := 0) 1 _m4 sz30 rfl (us := [(.slice Au13_0x0 ((expE e).1).length Cu13_0x0)]) rfl rfl rfl rfl fun _w_9 _m_10 _cw_9 => ?_
 have _cw_9z := _cw_9.size
 have E := E.step _cw_9 (fun i hi => .inl (by have _h1 := mSg.1 hi; omega))
 replace _m_10 : Blk _w_9 _b4 30 [(.slice Au13_0x0 ((expE e).1).length Cu13_0x0)] := _m_10
 refine WL_step rfl rfl (r_assign rfl) ?_
 refine WL_nil ?_
 refine thn_nrm (_hK_4 _ _ ?_)
 clear _hK_4
 refine W_seq fun _K_11 _hK_11 => ?_
 refine W_seq fun _K_12 _hK_12 => ?_
 refine W_region ?_
 refine WL_step rfl rfl (r_move rfl) ?_
 refine WL_step rfl rfl (r_not rfl) ?_
 refine WL_nil ?_
 refine thn_nrm (_hK_12 _ _ ?_)
 clear _hK_12
 refine W_cond rfl (fun _h17 => ?_) (fun _h17 => ?_)
 ·have _kb_13 := _h17
  have _h17 := bt_n _h17
  refine W_seq fun _K_14 _hK_14 => ?_
  refine W_region ?_
  refine WL_step rfl rfl (r_build (parts := []) (cells := [(.slice none 0 0), (.int .i64 0), (.int .i64 0), (.slice none 0 0), (.bool false)]) zr37 pl37 rfl rfl) ?_
  refine WL_s rfl rfl ?_
  have _f_15 := (((_m2.ch0 _cw_7).ch0 _cw_8).ch _cw_9 (ne1 (by omega)))
  refine s_storeA (off := 0) 5 _f_15 sz37 rfl (us := [(.slice none 0 0), (.int .i64 0), (.int .i64 0), (.slice none 0 0), (.bool false)]) rfl rfl rfl rfl fun _w_16 _m_17 _cw_16 => ?_
  have _cw_16z := _cw_16.size
  have E := E.step _cw_16 (fun i hi => .inl (by have _h1 := mSg.1 hi; omega))
  replace _m_17 : Blk _w_16 _b2 37 [(.slice none 0 0), (.int .i64 0), (.int .i64 0), (.slice none 0 0), (.bool false)] := _m_17
  refine WL_step rfl rfl (r_assign rfl) ?_
  refine WL_nil ?_
  refine thn_nrm (_hK_14 _ _ ?_)
  clear _hK_14
  refine W_ret (thn_ret ?_)
  clear _hK_11
  have _o_18 : Ol ics 3 1 _w_16 (.slice none 0 0) ((bpE e).1.L) := by
    have hx := (Ol.nil (cs := ics) (e := 3) (k := 1) _w_16)
    first | (rw [bpE_y _h17 (by omega) _e37]; exact hx) | (rw [bpE_n (fun q => by rw [_h17] at q; exact Bool.false_ne_true q.1)]; exact hx) | (rw [bpE_n (fun q => by have _q2 := q.2; omega)]; exact hx)
  have _o_19 : Ol ics 3 1 _w_16 (.slice none 0 0) ((bpE e).1.F) := by
    have hx := (Ol.nil (cs := ics) (e := 3) (k := 1) _w_16)
    first | (rw [bpE_y _h17 (by omega) _e37]; exact hx) | (rw [bpE_n (fun q => by rw [_h17] at q; exact Bool.false_ne_true q.1)]; exact hx) | (rw [bpE_n (fun q => by have _q2 := q.2; omega)]; exact hx)
  exact ret_intro [_, _] (resOf_loadA _m_17 rfl agg37 sz37 ⟨rfl, trivial⟩) ⟨(.slice none 0 0), (.slice none 0 0), ((((congrArg (fun zq => (Value.tuple #[.agg #[(.slice none 0 0), .int .i64 zq, .int .i64 0, (.slice none 0 0), .bool false], .bool false])) (by first | (rw [bpE_y _h17 (by omega) _e37]; done) | (rw [bpE_n (fun q => by rw [_h17] at q; exact Bool.false_ne_true q.1)]; done) | (rw [bpE_n (fun q => by have _q2 := q.2; omega)]; done))).trans (congrArg (fun zq => (Value.tuple #[.agg #[(.slice none 0 0), .int .i64 ((bpE e).1.f), .int .i64 zq, (.slice none 0 0), .bool false], .bool false])) (by first | (rw [bpE_y _h17 (by omega) _e37]; done) | (rw [bpE_n (fun q => by rw [_h17] at q; exact Bool.false_ne_true q.1)]; done) | (rw [bpE_n (fun q => by have _q2 := q.2; omega)]; done)))).trans (congrArg (fun zq => (Value.tuple #[.agg #[(.slice none 0 0), .int .i64 ((bpE e).1.f), .int .i64 ((bpE e).1.l), (.slice none 0 0), .bool zq], .bool false])) (by first | (rw [bpE_y _h17 (by omega) _e37]; done) | (rw [bpE_n (fun q => by rw [_h17] at q; exact Bool.false_ne_true q.1)]; done) | (rw [bpE_n (fun q => by have _q2 := q.2; omega)]; done)))).trans (congrArg (fun zq => (Value.tuple #[.agg #[(.slice none 0 0), .int .i64 ((bpE e).1.f), .int .i64 ((bpE e).1.l), (.slice none 0 0), .bool ((bpE e).1.n)], .bool zq])) (by first | (rw [bpE_y _h17 (by omega) _e37]; done) | (rw [bpE_n (fun q => by rw [_h17] at q; exact Bool.false_ne_true q.1)]; done) | (rw [bpE_n (fun q => by have _q2 := q.2; omega)]; done)))), _o_18, (Lo.nil _), _o_19, (Lo.nil _), (fun g hm hg => by cases hm), E⟩
 ·have _kb_13 := _h17
  have _h17 := bf_n _h17
  obtain ⟨_t5, _e5, ok5, f5, _n5⟩ := expE_tree _h17
  refine W_skip ?_
  refine thn_nrm (_hK_11 _ _ ?_)
  clear _hK_11
  refine W_seq fun _K_20 _hK_20 => ?_
  refine W_region ?_
  refine WL_step rfl rfl (r_assign rfl) ?_
  refine WL_nil ?_
  refine thn_nrm (_hK_20 _ _ ?_)
  clear _hK_20
  refine W_seq fun _K_21 _hK_21 => ?_
  refine W_seq fun _K_22 _hK_22 => ?_
  refine W_region ?_
  refine WL_step rfl rfl (r_fieldAddr fa30_0 rfl) ?_
  refine WL_step rfl rfl (r_loadAt _m_10.at_ agg28 rfl rfl) ?_
  refine WL_step rfl rfl (r_len (by rw [el28]; rfl) rfl) ?_
  refine WL_step rfl rfl (r_move rfl) ?_
  refine WL_nil ?_
  refine thn_nrm (_hK_22 _ _ ?_)
  clear _hK_22
  refine W_block ?_
  have _f_23 := (((_m2.ch0 _cw_7).ch0 _cw_8).ch _cw_9 (ne1 (by omega)))
  have _f_24 := ((_q_u13_0x0.ch0 _cw_8).ch _cw_9 (fun g hg hm => by have _h0 := mSg.1 hm; have _h2 := _lo_u13_0x0 _ hg; have _h3 := _hiu13_0x0 _ hg; omega))
  refine W_loop (σ := Nat × Int) (fun ⟨k, m⟩ => [(2, (.pointer (some ⟨_b2, 0, none⟩))), (3, (.bool false)), (4, (.pointer (some ⟨_b4, 0, none⟩))), (6, (.int .i64 m)), (20, (.slice Au13_0x0 ((expE e).1).length Cu13_0x0)), (21, (.int .i64 ((((expE e).1).length : Nat) : Int))), (22, (.int .i64 ((k : Nat) : Int)))]) (fun ⟨k, m⟩ wx => Ch [] w wx ∧ _w_9.heap.size ≤ wx.heap.size ∧ (k ≤ (expE e).1.length) ∧ (m = cntL ((expE e).1.take k)) ∧ Blk wx _b2 37 [(.slice none 0 0), (.int .i64 0), (.int .i64 0), (.slice none 0 0), (.bool false)] ∧ Blk wx _b4 30 [(.slice Au13_0x0 ((expE e).1).length Cu13_0x0)] ∧ Ol Token.cs 55 4 wx (.slice Au13_0x0 ((expE e).1).length Cu13_0x0) ((expE e).1)) (fun ⟨k, m⟩ => (expE e).1.length - k) (0, 0) (Sub.cons rfl (Sub.cons rfl (Sub.cons rfl (Sub.cons rfl (Sub.cons rfl (Sub.cons rfl (Sub.cons rfl (Sub.nil _)))))))) ⟨E, (Nat.le_refl _), (by omega), (by simp [cntL]), _f_23, _m_10, _f_24⟩ ?_
  rintro ⟨k, m⟩ _wr_25 ⟨E, _zz0, _hk, hm, _F0_0, _F0_1, _F0_2⟩
  have _E0h := E
  have _E0hz := _E0h.size
  have _F0_0z := _F0_0.lt
  have _F0_1z := _F0_1.lt
  have _z9 := cntL_le ((expE e).1.take k)
  have _z8 : ((expE e).1.take k).length ≤ k := List.length_take_le ..
  refine W_seq fun _K_26 _hK_26 => ?_
  refine W_region ?_
  refine WL_step rfl rfl (r_lss rfl rfl) ?_
  refine WL_nil ?_
  refine thn_nrm (_hK_26 _ _ ?_)
  clear _hK_26
  refine W_seq fun _K_27 _hK_27 => ?_
  refine W_cond rfl (fun _h23 => ?_) (fun _h23 => ?_)
  ·have _kb_28 := _h23
   have _h23 := bt_d _h23
   refine W_skip ?_
   refine thn_nrm (_hK_27 _ _ ?_)
   clear _hK_27
   refine W_seq fun _K_29 _hK_29 => ?_
   refine W_block ?_
   refine W_seq fun _K_30 _hK_30 => ?_
   refine W_region ?_
   refine WL_s rfl rfl ?_
   refine (s_index _F0_2.ls Token.len el28 sz55 rfl rfl rfl (by omega) fun _p24 _y24 _hy24 _a24 => ?_)
   refine WL_step rfl rfl (r_loadAtA0 _a24 agg55 sz55 rfl) ?_
   refine WL_s rfl rfl ?_
   refine s_alloc zr55 fun _b8 _w_31 _m8 _cw_31 _e8 => ?_
   have _cw_31z := _cw_31.size
   have E := E.trans _cw_31
   have _z8 := _m8.lt
   replace _m8 : Blk _w_31 _b8 55 [(.int .i64 0), (.int .i64 0), (.int .i64 0), (.int .i64 0)] := _m8
   refine WL_s rfl rfl ?_
   refine s_storeA (off := 0) 4 _m8 sz55 rfl (us := [(.int .i64 _y24.kind), (.int .i64 _y24.letter), (.int .i64 _y24.low), (.int .i64 _y24.high)]) rfl rfl rfl rfl fun _w_32 _m_33 _cw_32 => ?_
   have _cw_32z := _cw_32.size
   have E := E.step _cw_32 (fun i hi => .inl (by have _h1 := mSg.1 hi; omega))
   replace _m_33 : Blk _w_32 _b8 55 [(.int .i64 _y24.kind), (.int .i64 _y24.letter), (.int .i64 _y24.low), (.int .i64 _y24.high)] := _m_33
   refine WL_nil ?_
   refine thn_nrm (_hK_30 _ _ ?_)
   clear _hK_30
   refine W_seq fun _K_34 _hK_34 => ?_
   refine W_region ?_
   refine WL_step rfl rfl (r_fieldAddr fa55_0 rfl) ?_
   refine WL_step rfl rfl (r_loadAt _m_33.at_ agg3 rfl rfl) ?_
   refine WL_step rfl rfl (r_eql rfl rfl) ?_
   refine WL_nil ?_
   refine thn_nrm (_hK_34 _ _ ?_)
   clear _hK_34
   refine W_cond rfl (fun _h28 => ?_) (fun _h28 => ?_)
   ·have _kb_35 := _h28
    have _h28 := bt_d _h28
    refine W_region ?_
    refine WL_step rfl rfl (r_move rfl) ?_
    refine WL_step rfl rfl (r_add (by omega) rfl rfl) ?_
    refine WL_step rfl rfl (r_assign rfl) ?_
    refine WL_nil ?_
    refine inB_nrm ?_
    refine thn_nrm (_hK_29 _ _ ?_)
    clear _hK_29
    refine W_region ?_
    refine WL_step rfl rfl (r_add (by omega) rfl rfl) ?_
    refine WL_step rfl rfl (r_move rfl) ?_
    refine WL_nil ?_
    have _f_36 := ((_F0_0.ch0 _cw_31).ch _cw_32 (ne1 (by omega)))
    have _f_37 := ((_F0_1.ch0 _cw_31).ch _cw_32 (ne1 (by omega)))
    have _f_38 := ((_F0_2.ch0 _cw_31).ch _cw_32 (fun g hg hm => by have _h0 := mSg.1 hm; have _h2 := _lo_u13_0x0 _ hg; have _h3 := _hiu13_0x0 _ hg; omega))
    exact thn_nrm (Exists.intro ((k + 1), (m + 1)) ⟨⟨E, (by omega), (by omega), (by first | (rw [cntL_y _hy24 _h28]; omega) | (rw [cntL_n _hy24 _h28]; omega)), _f_36, _f_37, _f_38⟩, Sub.cons rfl (Sub.cons rfl (Sub.cons rfl (Sub.cons rfl (Sub.cons rfl (Sub.cons rfl (Sub.cons rfl (Sub.nil _))))))), (by first | omega | (dsimp only; omega))⟩)
   ·have _kb_35 := _h28
    have _h28 := bf_d _h28
    refine W_skip ?_
    refine inB_nrm ?_
    refine thn_nrm (_hK_29 _ _ ?_)
    clear _hK_29
    refine W_region ?_
    refine WL_step rfl rfl (r_add (by omega) rfl rfl) ?_
    refine WL_step rfl rfl (r_move rfl) ?_
    refine WL_nil ?_
    have _f_39 := ((_F0_0.ch0 _cw_31).ch _cw_32 (ne1 (by omega)))
    have _f_40 := ((_F0_1.ch0 _cw_31).ch _cw_32 (ne1 (by omega)))
    have _f_41 := ((_F0_2.ch0 _cw_31).ch _cw_32 (fun g hg hm => by have _h0 := mSg.1 hm; have _h2 := _lo_u13_0x0 _ hg; have _h3 := _hiu13_0x0 _ hg; omega))
    exact thn_nrm (Exists.intro ((k + 1), m) ⟨⟨E, (by omega), (by omega), (by first | (rw [cntL_y _hy24 _h28]; omega) | (rw [cntL_n _hy24 _h28]; omega)), _f_39, _f_40, _f_41⟩, Sub.cons rfl (Sub.cons rfl (Sub.cons rfl (Sub.cons rfl (Sub.cons rfl (Sub.cons rfl (Sub.cons rfl (Sub.nil _))))))), (by first | omega | (dsimp only; omega))⟩)
  ·have _kb_28 := _h23
   have _h23 := bf_d _h23
   have _y9 : cntL ((expE e).1.take k) = cntL (expE e).1 := by rw [List.take_of_length_le (by omega)]
   refine W_exit (thn_exit (thn_exit (inB_hit ?_)))
   refine thn_nrm (_hK_21 _ _ ?_)
   clear _hK_21
   refine W_seq fun _K_42 _hK_42 => ?_
   refine W_seq fun _K_43 _hK_43 => ?_
   refine W_region ?_
   refine WL_step rfl rfl (r_move rfl) ?_
   refine WL_step rfl rfl (r_gtr rfl rfl) ?_
   refine WL_nil ?_
   refine thn_nrm (_hK_43 _ _ ?_)
   clear _hK_43
   refine W_cond rfl (fun _h33 => ?_) (fun _h33 => ?_)
   ·have _kb_44 := _h33
    have _h33 := bt_d _h33
    refine W_seq fun _K_45 _hK_45 => ?_
    refine W_region ?_
    refine WL_step rfl rfl (r_build (parts := []) (cells := [(.slice none 0 0), (.int .i64 0), (.int .i64 0), (.slice none 0 0), (.bool false)]) zr37 pl37 rfl rfl) ?_
    refine WL_s rfl rfl ?_
    refine s_storeA (off := 0) 5 _F0_0 sz37 rfl (us := [(.slice none 0 0), (.int .i64 0), (.int .i64 0), (.slice none 0 0), (.bool false)]) rfl rfl rfl rfl fun _w_46 _m_47 _cw_46 => ?_
    have _cw_46z := _cw_46.size
    have E := E.step _cw_46 (fun i hi => .inl (by have _h1 := mSg.1 hi; omega))
    replace _m_47 : Blk _w_46 _b2 37 [(.slice none 0 0), (.int .i64 0), (.int .i64 0), (.slice none 0 0), (.bool false)] := _m_47
    refine WL_step rfl rfl (r_assign rfl) ?_
    refine WL_nil ?_
    refine thn_nrm (_hK_45 _ _ ?_)
    clear _hK_45
    refine W_ret (thn_ret ?_)
    clear _hK_27 _hK_42
    have _o_48 : Ol ics 3 1 _w_46 (.slice none 0 0) ((bpE e).1.L) := by
      have hx := (Ol.nil (cs := ics) (e := 3) (k := 1) _w_46)
      first | (rw [bpE_y _h17 (by omega) _e37]; exact hx) | (rw [bpE_n (fun q => by rw [_h17] at q; exact Bool.false_ne_true q.1)]; exact hx) | (rw [bpE_n (fun q => by have _q2 := q.2; omega)]; exact hx)
    have _o_49 : Ol ics 3 1 _w_46 (.slice none 0 0) ((bpE e).1.F) := by
      have hx := (Ol.nil (cs := ics) (e := 3) (k := 1) _w_46)
      first | (rw [bpE_y _h17 (by omega) _e37]; exact hx) | (rw [bpE_n (fun q => by rw [_h17] at q; exact Bool.false_ne_true q.1)]; exact hx) | (rw [bpE_n (fun q => by have _q2 := q.2; omega)]; exact hx)
    exact ret_intro [_, _] (resOf_loadA _m_47 rfl agg37 sz37 ⟨rfl, trivial⟩) ⟨(.slice none 0 0), (.slice none 0 0), ((((congrArg (fun zq => (Value.tuple #[.agg #[(.slice none 0 0), .int .i64 zq, .int .i64 0, (.slice none 0 0), .bool false], .bool false])) (by first | (rw [bpE_y _h17 (by omega) _e37]; done) | (rw [bpE_n (fun q => by rw [_h17] at q; exact Bool.false_ne_true q.1)]; done) | (rw [bpE_n (fun q => by have _q2 := q.2; omega)]; done))).trans (congrArg (fun zq => (Value.tuple #[.agg #[(.slice none 0 0), .int .i64 ((bpE e).1.f), .int .i64 zq, (.slice none 0 0), .bool false], .bool false])) (by first | (rw [bpE_y _h17 (by omega) _e37]; done) | (rw [bpE_n (fun q => by rw [_h17] at q; exact Bool.false_ne_true q.1)]; done) | (rw [bpE_n (fun q => by have _q2 := q.2; omega)]; done)))).trans (congrArg (fun zq => (Value.tuple #[.agg #[(.slice none 0 0), .int .i64 ((bpE e).1.f), .int .i64 ((bpE e).1.l), (.slice none 0 0), .bool zq], .bool false])) (by first | (rw [bpE_y _h17 (by omega) _e37]; done) | (rw [bpE_n (fun q => by rw [_h17] at q; exact Bool.false_ne_true q.1)]; done) | (rw [bpE_n (fun q => by have _q2 := q.2; omega)]; done)))).trans (congrArg (fun zq => (Value.tuple #[.agg #[(.slice none 0 0), .int .i64 ((bpE e).1.f), .int .i64 ((bpE e).1.l), (.slice none 0 0), .bool ((bpE e).1.n)], .bool zq])) (by first | (rw [bpE_y _h17 (by omega) _e37]; done) | (rw [bpE_n (fun q => by rw [_h17] at q; exact Bool.false_ne_true q.1)]; done) | (rw [bpE_n (fun q => by have _q2 := q.2; omega)]; done)))), _o_48, (Lo.nil _), _o_49, (Lo.nil _), (fun g hm hg => by cases hm), E⟩
   ·have _kb_44 := _h33
    have _h33 := bf_d _h33
    refine W_skip ?_
    refine thn_nrm (_hK_42 _ _ ?_)
    clear _hK_42
    refine W_seq fun _K_50 _hK_50 => ?_
    refine W_region ?_
    refine WL_step rfl rfl (r_build (parts := []) (cells := [(.slice none 0 0), (.int .i64 0), (.int .i64 0), (.slice none 0 0), (.bool false)]) zr37 pl37 rfl rfl) ?_
    refine WL_s rfl rfl ?_
    refine s_alloc zr37 fun _b9 _w_51 _m9 _cw_51 _e9 => ?_
    have _cw_51z := _cw_51.size
    have E := E.trans _cw_51
    have _z9 := _m9.lt
    replace _m9 : Blk _w_51 _b9 37 [(.slice none 0 0), (.int .i64 0), (.int .i64 0), (.slice none 0 0), (.bool false)] := _m9
    refine WL_s rfl rfl ?_
    refine s_storeA (off := 0) 5 _m9 sz37 rfl (us := [(.slice none 0 0), (.int .i64 0), (.int .i64 0), (.slice none 0 0), (.bool false)]) rfl rfl rfl rfl fun _w_52 _m_53 _cw_52 => ?_
    have _cw_52z := _cw_52.size
    have E := E.step _cw_52 (fun i hi => .inl (by have _h1 := mSg.1 hi; omega))
    replace _m_53 : Blk _w_52 _b9 37 [(.slice none 0 0), (.int .i64 0), (.int .i64 0), (.slice none 0 0), (.bool false)] := _m_53
    refine WL_nil ?_
    refine thn_nrm (_hK_50 _ _ ?_)
    clear _hK_50
    refine W_seq fun _K_54 _hK_54 => ?_
    refine W_region ?_
    have _f_55 := ((_F0_1.ch0 _cw_51).ch _cw_52 (ne1 (by omega)))
    refine WL_step rfl rfl (r_loadAtA0 _f_55.at_ agg30 sz30 rfl) ?_
    refine WL_s rfl rfl ?_
    have _f_56 := ((_F0_2.ch0 _cw_51).ch _cw_52 (fun g hg hm => by have _h0 := mSg.1 hm; have _h2 := _lo_u13_0x0 _ hg; have _h3 := _hiu13_0x0 _ hg; omega))
    refine Step.call (r_call (xs := [.tmp 36]) fk25 rfl) (c_impl_treeOf _f_56.ls (by omega)) fun _v37 _w_57 _q37 => ?_
    obtain ⟨_q37, _cw_57⟩ := _q37
    have _cw_57z := _cw_57.size
    have E := E.trans _cw_57
    rcases _q37 with ⟨_e37, rfl⟩ | ⟨tt37, _p37, _e37, rfl, _tr37⟩
    ·rw [_e5] at _e37; cases _e37
    ·replace _tr37 : TrAt _w_57 _w_52.heap.size _w_57.heap.size _p37 tt37 := _tr37
     obtain ⟨_A_37, _C_37, _ps_37, _hc_37, _hk_37, _kd_37⟩ := _tr37.open
     have _kl_37 := _kd_37.1
     refine WL_s rfl rfl ?_
     have _f_58 := (_m_53.ch0 _cw_57)
     refine Step.call (r_call (xs := [.tmp 9, .tmp 37]) fk31 rfl) (c_impl_Positions_build _f_58 (Ol.nil (cs := ics) (e := 3) (k := 1) _w_57) (fun hm => by cases hm) (Lo.nil _) (Ol.nil (cs := ics) (e := 3) (k := 1) _w_57) (fun hm => by cases hm) (Lo.nil _) (fun g hm hg => by cases hm) _tr37 (by omega) (by omega) (show Okd tt37 from by rw [_e5] at _e37; cases _e37; exact ok5) ⟨by rw [_e5] at _e37; cases _e37; have _z7 := _t5.flat_len; rw [f5] at _n5; simp; omega, by rw [_e5] at _e37; cases _e37; have _z7 := _t5.flat_len; rw [f5] at _n5; simp; omega⟩) fun _v38 _w_59 _q38 => ?_
     obtain ⟨_z38_0, _z38_3, rfl, _m38, _qz38_0, _inz38_0, _nbz38_0, _qz38_3, _inz38_3, _nbz38_3, _djz38_0z38_3, _cw_59⟩ := _q38
     have _cw_59z := _cw_59.size
     have E := E.step _cw_59 (fun i hm => .inl (by rcases List.mem_cons.1 hm with _h0 | hm; (omega); (rcases List.mem_append.1 hm with hm | hm; (cases hm); (cases hm))))
     obtain ⟨Az38_0, Cz38_0, ez38_0⟩ := _qz38_0.val
     subst ez38_0
     have lz38_0 := _qz38_0.len
     have hiz38_0 := _qz38_0.lt
     have _loz38_0 : Lo _w_57.heap.size (.slice Az38_0 ((bpT tt37 [] []).L).length Cz38_0) := loOld _inz38_0 _nbz38_0 (by omega) (all2 (fun g hm => by cases hm) (fun g hm => by cases hm))
     obtain ⟨Az38_3, Cz38_3, ez38_3⟩ := _qz38_3.val
     subst ez38_3
     have lz38_3 := _qz38_3.len
     have hiz38_3 := _qz38_3.lt
     have _loz38_3 : Lo _w_57.heap.size (.slice Az38_3 ((bpT tt37 [] []).F).length Cz38_3) := loOld _inz38_3 _nbz38_3 (by omega) (all2 (fun g hm => by cases hm) (fun g hm => by cases hm))
     have nQ38_0_2 := nbOld _inz38_0 _nbz38_0 (show _b2 < _ by omega) (nin2 (fun hm => by cases hm) (fun hm => by cases hm))
     have nQ38_0_4 := nbOld _inz38_0 _nbz38_0 (show _b4 < _ by omega) (nin2 (fun hm => by cases hm) (fun hm => by cases hm))
     have nQ38_3_2 := nbOld _inz38_3 _nbz38_3 (show _b2 < _ by omega) (nin2 (fun hm => by cases hm) (fun hm => by cases hm))
     have nQ38_3_4 := nbOld _inz38_3 _nbz38_3 (show _b4 < _ by omega) (nin2 (fun hm => by cases hm) (fun hm => by cases hm))
     replace _m38 : Blk _w_59 _b9 37 [(.slice Az38_0 ((bpT tt37 [] []).L).length Cz38_0), (.int .i64 0), (.int .i64 0), (.slice Az38_3 ((bpT tt37 [] []).F).length Cz38_3), (.bool false)] := _m38
     refine WL_s rfl rfl ?_
     refine s_alloc zr61 fun _b10 _w_60 _m10 _cw_60 _e10 => ?_
     have _cw_60z := _cw_60.size
     have E := E.trans _cw_60
     have _z10 := _m10.lt
     replace _m10 : Blk _w_60 _b10 61 [(.int .i64 0), (.int .i64 0), (.bool false)] := _m10
     refine WL_s rfl rfl ?_
     refine s_storeA (off := 0) 3 _m10 sz61 rfl (us := [(.int .i64 ((bpT tt37 [] []).f)), (.int .i64 ((bpT tt37 [] []).l)), (.bool ((bpT tt37 [] []).n))]) rfl rfl rfl rfl fun _w_61 _m_62 _cw_61 => ?_
     have _cw_61z := _cw_61.size
     have E := E.step _cw_61 (fun i hi => .inl (by have _h1 := mSg.1 hi; omega))
     replace _m_62 : Blk _w_61 _b10 61 [(.int .i64 ((bpT tt37 [] []).f)), (.int .i64 ((bpT tt37 [] []).l)), (.bool ((bpT tt37 [] []).n))] := _m_62
     refine WL_nil ?_
     refine thn_nrm (_hK_54 _ _ ?_)
     clear _hK_54
     refine W_seq fun _K_63 _hK_63 => ?_
     refine W_drawC [_b9] 12 mixed rfl fun _w_64 _cw_64 => ?_
     have _cw_64z := _cw_64.size
     have E := E.trans _cw_64
     refine DR_s 0 rfl (by kernel_rfl) rfl rfl (t_v (fun _ => (r_fieldAddr fa61_0 rfl)) ?_)
     have _f_65 := (_m_62.ch0 _cw_64)
     refine DR_s 1 rfl (by kernel_rfl) rfl rfl (t_loadAt _f_65.at_ (fun i hm => by have _h1 := mSg.1 hm; omega) agg3 rfl rfl ?_)
     refine DR_s 2 rfl (by kernel_rfl) rfl rfl (t_v (fun _ => (r_fieldAddr fa61_1 rfl)) ?_)
     refine DR_s 3 rfl (by kernel_rfl) rfl rfl (t_loadAt _f_65.at_ (fun i hm => by have _h1 := mSg.1 hm; omega) agg3 rfl rfl ?_)
     refine DR_s 4 rfl (by kernel_rfl) rfl rfl (t_v (fun _ => (r_fieldAddr fa61_2 rfl)) ?_)
     refine DR_s 5 rfl (by kernel_rfl) rfl rfl (t_loadAt _f_65.at_ (fun i hm => by have _h1 := mSg.1 hm; omega) agg4 rfl rfl ?_)
     refine DR_s 6 rfl (by kernel_rfl) rfl rfl (t_v (fun _ => (r_fieldAddr fa37_1 rfl)) ?_)
     refine DR_one 7 (by kernel_rfl) ?_
     refine DO_s rfl rfl rfl ?_
     have _f_66 := (((_m38.ch0 _cw_60).ch _cw_61 (ne1 (by omega))).ch0 _cw_64)
     refine s_store1 (off := 1) _f_66 sz3 rfl rfl rfl rfl fun _w_67 _m_68 _cw_67 => ?_
     have _cw_67z := _cw_67.size
     have E := E.step _cw_67 (fun i hi => .inl (by have _h1 := mSg.1 hi; omega))
     replace _m_68 : Blk _w_67 _b9 37 [(.slice Az38_0 ((bpT tt37 [] []).L).length Cz38_0), (.int .i64 ((bpT tt37 [] []).f)), (.int .i64 0), (.slice Az38_3 ((bpT tt37 [] []).F).length Cz38_3), (.bool false)] := _m_68
     have _S_69 : Ch [_b9] _w_64 _w_67 := ((Ch.refl _ _).step _cw_67 (fun i hm => by have _h0 := mSg.1 hm; exact .inr (by rw [_h0]; exact (mSg.2 rfl))))
     refine ⟨_S_69, ?_⟩
     refine DR_s 8 rfl (by kernel_rfl) rfl rfl (t_v (fun _ => (r_fieldAddr fa37_2 rfl)) ?_)
     refine DR_one 9 (by kernel_rfl) ?_
     refine DO_s rfl rfl rfl ?_
     refine s_store1 (off := 2) _m_68 sz3 rfl rfl rfl rfl fun _w_70 _m_71 _cw_70 => ?_
     have _cw_70z := _cw_70.size
     have E := E.step _cw_70 (fun i hi => .inl (by have _h1 := mSg.1 hi; omega))
     replace _m_71 : Blk _w_70 _b9 37 [(.slice Az38_0 ((bpT tt37 [] []).L).length Cz38_0), (.int .i64 ((bpT tt37 [] []).f)), (.int .i64 ((bpT tt37 [] []).l)), (.slice Az38_3 ((bpT tt37 [] []).F).length Cz38_3), (.bool false)] := _m_71
     have _S_72 := (_S_69.step _cw_70 (fun i hm => by have _h0 := mSg.1 hm; exact .inr (by rw [_h0]; exact (mSg.2 rfl))))
     refine ⟨_S_72, ?_⟩
     refine DR_s 10 rfl (by kernel_rfl) rfl rfl (t_v (fun _ => (r_fieldAddr fa37_4 rfl)) ?_)
     refine DR_one 11 (by kernel_rfl) ?_
     refine DO_s rfl rfl rfl ?_
     refine s_store1 (off := 4) _m_71 sz4 rfl rfl rfl rfl fun _w_73 _m_74 _cw_73 => ?_
     have _cw_73z := _cw_73.size
     have E := E.step _cw_73 (fun i hi => .inl (by have _h1 := mSg.1 hi; omega))
     replace _m_74 : Blk _w_73 _b9 37 [(.slice Az38_0 ((bpT tt37 [] []).L).length Cz38_0), (.int .i64 ((bpT tt37 [] []).f)), (.int .i64 ((bpT tt37 [] []).l)), (.slice Az38_3 ((bpT tt37 [] []).F).length Cz38_3), (.bool ((bpT tt37 [] []).n))] := _m_74
     have _S_75 := (_S_72.step _cw_73 (fun i hm => by have _h0 := mSg.1 hm; exact .inr (by rw [_h0]; exact (mSg.2 rfl))))
     refine ⟨_S_75, ?_⟩
     refine DR_done (by kernel_rfl) ?_
     refine thn_nrm (_hK_63 _ _ ?_)
     clear _hK_63
     refine W_seq fun _K_76 _hK_76 => ?_
     refine W_region ?_
     refine WL_step rfl rfl (r_loadAtA0 _m_74.at_ agg37 sz37 rfl) ?_
     refine WL_s rfl rfl ?_
     have _f_77 := ((((((((((_F0_0.ch0 _cw_51).ch _cw_52 (ne1 (by omega))).ch0 _cw_57).ch _cw_59 (fun hm => by rcases List.mem_cons.1 hm with _h0 | hm; (omega); (rcases List.mem_append.1 hm with hm | hm; (cases hm); (cases hm)))).ch0 _cw_60).ch _cw_61 (ne1 (by omega))).ch0 _cw_64).ch _cw_67 (ne1 (by omega))).ch _cw_70 (ne1 (by omega))).ch _cw_73 (ne1 (by omega)))
     refine s_storeA (off := 0) 5 _f_77 sz37 rfl (us := [(.slice Az38_0 ((bpT tt37 [] []).L).length Cz38_0), (.int .i64 ((bpT tt37 [] []).f)), (.int .i64 ((bpT tt37 [] []).l)), (.slice Az38_3 ((bpT tt37 [] []).F).length Cz38_3), (.bool ((bpT tt37 [] []).n))]) rfl rfl rfl rfl fun _w_78 _m_79 _cw_78 => ?_
     have _cw_78z := _cw_78.size
     have E := E.step _cw_78 (fun i hi => .inl (by have _h1 := mSg.1 hi; omega))
     replace _m_79 : Blk _w_78 _b2 37 [(.slice Az38_0 ((bpT tt37 [] []).L).length Cz38_0), (.int .i64 ((bpT tt37 [] []).f)), (.int .i64 ((bpT tt37 [] []).l)), (.slice Az38_3 ((bpT tt37 [] []).F).length Cz38_3), (.bool ((bpT tt37 [] []).n))] := _m_79
     refine WL_step rfl rfl (r_assign rfl) ?_
     refine WL_nil ?_
     refine thn_nrm (_hK_76 _ _ ?_)
     clear _hK_76
     refine W_ret ?_
     clear _hK_27
     have _f_80 := (((((((_qz38_0.ch0 _cw_60).ch _cw_61 (fun g hg hm => by have _h0 := mSg.1 hm; have _h2 := _loz38_0 _ hg; have _h3 := hiz38_0 _ hg; omega)).ch0 _cw_64).ch _cw_67 (fun g hg hm => by have _h0 := mSg.1 hm; exact _nbz38_0 (by first | exact hg | exact _h0 ▸ hg))).ch _cw_70 (fun g hg hm => by have _h0 := mSg.1 hm; exact _nbz38_0 (by first | exact hg | exact _h0 ▸ hg))).ch _cw_73 (fun g hg hm => by have _h0 := mSg.1 hm; exact _nbz38_0 (by first | exact hg | exact _h0 ▸ hg))).ch _cw_78 (fun g hg hm => by have _h0 := mSg.1 hm; exact nQ38_0_2 (by first | exact hg | exact _h0 ▸ hg)))
     have _o_81 : Ol ics 3 1 _w_78 (.slice Az38_0 ((bpT tt37 [] []).L).length Cz38_0) ((bpE e).1.L) := by
       have hx := _f_80
       first | (rw [bpE_y _h17 (by omega) _e37]; exact hx) | (rw [bpE_n (fun q => by rw [_h17] at q; exact Bool.false_ne_true q.1)]; exact hx) | (rw [bpE_n (fun q => by have _q2 := q.2; omega)]; exact hx)
     have _f_82 := (((((((_qz38_3.ch0 _cw_60).ch _cw_61 (fun g hg hm => by have _h0 := mSg.1 hm; have _h2 := _loz38_3 _ hg; have _h3 := hiz38_3 _ hg; omega)).ch0 _cw_64).ch _cw_67 (fun g hg hm => by have _h0 := mSg.1 hm; exact _nbz38_3 (by first | exact hg | exact _h0 ▸ hg))).ch _cw_70 (fun g hg hm => by have _h0 := mSg.1 hm; exact _nbz38_3 (by first | exact hg | exact _h0 ▸ hg))).ch _cw_73 (fun g hg hm => by have _h0 := mSg.1 hm; exact _nbz38_3 (by first | exact hg | exact _h0 ▸ hg))).ch _cw_78 (fun g hg hm => by have _h0 := mSg.1 hm; exact nQ38_3_2 (by first | exact hg | exact _h0 ▸ hg)))
     have _o_83 : Ol ics 3 1 _w_78 (.slice Az38_3 ((bpT tt37 [] []).F).length Cz38_3) ((bpE e).1.F) := by
       have hx := _f_82
       first | (rw [bpE_y _h17 (by omega) _e37]; exact hx) | (rw [bpE_n (fun q => by rw [_h17] at q; exact Bool.false_ne_true q.1)]; exact hx) | (rw [bpE_n (fun q => by have _q2 := q.2; omega)]; exact hx)
     exact ret_intro [_, _] (resOf_loadA _m_79 rfl agg37 sz37 ⟨rfl, trivial⟩) ⟨(.slice Az38_0 ((bpT tt37 [] []).L).length Cz38_0), (.slice Az38_3 ((bpT tt37 [] []).F).length Cz38_3), ((((congrArg (fun zq => (Value.tuple #[.agg #[(.slice Az38_0 ((bpT tt37 [] []).L).length Cz38_0), .int .i64 zq, .int .i64 ((bpT tt37 [] []).l), (.slice Az38_3 ((bpT tt37 [] []).F).length Cz38_3), .bool ((bpT tt37 [] []).n)], .bool true])) (by first | (rw [bpE_y _h17 (by omega) _e37]; done) | (rw [bpE_n (fun q => by rw [_h17] at q; exact Bool.false_ne_true q.1)]; done) | (rw [bpE_n (fun q => by have _q2 := q.2; omega)]; done))).trans (congrArg (fun zq => (Value.tuple #[.agg #[(.slice Az38_0 ((bpT tt37 [] []).L).length Cz38_0), .int .i64 ((bpE e).1.f), .int .i64 zq, (.slice Az38_3 ((bpT tt37 [] []).F).length Cz38_3), .bool ((bpT tt37 [] []).n)], .bool true])) (by first | (rw [bpE_y _h17 (by omega) _e37]; done) | (rw [bpE_n (fun q => by rw [_h17] at q; exact Bool.false_ne_true q.1)]; done) | (rw [bpE_n (fun q => by have _q2 := q.2; omega)]; done)))).trans (congrArg (fun zq => (Value.tuple #[.agg #[(.slice Az38_0 ((bpT tt37 [] []).L).length Cz38_0), .int .i64 ((bpE e).1.f), .int .i64 ((bpE e).1.l), (.slice Az38_3 ((bpT tt37 [] []).F).length Cz38_3), .bool zq], .bool true])) (by first | (rw [bpE_y _h17 (by omega) _e37]; done) | (rw [bpE_n (fun q => by rw [_h17] at q; exact Bool.false_ne_true q.1)]; done) | (rw [bpE_n (fun q => by have _q2 := q.2; omega)]; done)))).trans (congrArg (fun zq => (Value.tuple #[.agg #[(.slice Az38_0 ((bpT tt37 [] []).L).length Cz38_0), .int .i64 ((bpE e).1.f), .int .i64 ((bpE e).1.l), (.slice Az38_3 ((bpT tt37 [] []).F).length Cz38_3), .bool ((bpE e).1.n)], .bool zq])) (by first | (rw [bpE_y _h17 (by omega) _e37]; done) | (rw [bpE_n (fun q => by rw [_h17] at q; exact Bool.false_ne_true q.1)]; done) | (rw [bpE_n (fun q => by have _q2 := q.2; omega)]; done)))), _o_81, (Lo.down _loz38_0 (by omega)), _o_83, (Lo.down _loz38_3 (by omega)), _djz38_0z38_3, E⟩

/-- laws.eqToken -/
theorem c_laws_eqToken {w : World} (a : Token) (b : Token) :
    Ctr Try.prog 47 #[(.agg #[(.int .i64 a.kind), (.int .i64 a.letter), (.int .i64 a.low), (.int .i64 a.high)]), (.agg #[(.int .i64 b.kind), (.int .i64 b.letter), (.int .i64 b.low), (.int .i64 b.high)])] w (fun v w' => v = .bool (decide (a = b)) ∧ Ch [] w w') := by
  have E := Ch.refl [] w
  refine Ctr_of_W (N := 25) (vs0 := [(.agg #[(.int .i64 a.kind), (.int .i64 a.letter), (.int .i64 a.low), (.int .i64 a.high)]), (.agg #[(.int .i64 b.kind), (.int .i64 b.letter), (.int .i64 b.low), (.int .i64 b.high)])]) Try.func47 rfl rfl rfl ?_
  refine W_seq fun _K_1 _hK_1 => ?_
  refine W_region ?_
  refine WL_s rfl rfl ?_
  refine s_box rfl fun _b2 _w_2 _m2 _cw_2 _e2 => ?_
  have _cw_2z := _cw_2.size
  have E := E.trans _cw_2
  have _z2 := _m2.lt
  replace _m2 : Blk _w_2 _b2 55 [(.int .i64 a.kind), (.int .i64 a.letter), (.int .i64 a.low), (.int .i64 a.high)] := _m2
  refine WL_s rfl rfl ?_
  refine s_box rfl fun _b3 _w_3 _m3 _cw_3 _e3 => ?_
  have _cw_3z := _cw_3.size
  have E := E.trans _cw_3
  have _z3 := _m3.lt
  replace _m3 : Blk _w_3 _b3 55 [(.int .i64 b.kind), (.int .i64 b.letter), (.int .i64 b.low), (.int .i64 b.high)] := _m3
  refine WL_step rfl rfl (r_assign rfl) ?_
  refine WL_nil ?_
  refine thn_nrm (_hK_1 _ _ ?_)
  clear _hK_1
  refine W_seq fun _K_4 _hK_4 => ?_
  refine W_seq fun _K_5 _hK_5 => ?_
  refine W_region ?_
  refine WL_step rfl rfl (r_fieldAddr fa55_0 rfl) ?_
  have _f_6 := (_m2.ch0 _cw_3)
  refine WL_step rfl rfl (r_loadAt _f_6.at_ agg3 rfl rfl) ?_
  refine WL_step rfl rfl (r_fieldAddr fa55_0 rfl) ?_
  refine WL_step rfl rfl (r_loadAt _m3.at_ agg3 rfl rfl) ?_
  refine WL_step rfl rfl (r_neq rfl rfl) ?_
  refine WL_nil ?_
  refine thn_nrm (_hK_5 _ _ ?_)
  clear _hK_5
  refine W_cond rfl (fun _h9 => ?_) (fun _h9 => ?_)
  · have _kb_7 := _h9
    have _h9 := bf_d (bt_n _h9)
    refine W_seq fun _K_8 _hK_8 => ?_
    refine W_region ?_
    refine WL_step rfl rfl (r_assign rfl) ?_
    refine WL_nil ?_
    refine thn_nrm (_hK_8 _ _ ?_)
    clear _hK_8
    refine W_ret (thn_ret ?_)
    clear _hK_4
    exact ret_intro [_] ⟨rfl, trivial⟩ ⟨congrArg Value.bool (decide_eq_false (fun e => _h9 (by rw [e]))).symm, E⟩
  · have _kb_7 := _h9
    have _h9 := bt_d (bf_n _h9)
    refine W_skip ?_
    refine thn_nrm (_hK_4 _ _ ?_)
    clear _hK_4
    refine W_seq fun _K_9 _hK_9 => ?_
    refine W_seq fun _K_10 _hK_10 => ?_
    refine W_region ?_
    refine WL_step rfl rfl (r_fieldAddr fa55_1 rfl) ?_
    refine WL_step rfl rfl (r_loadAt _f_6.at_ agg3 rfl rfl) ?_
    refine WL_step rfl rfl (r_fieldAddr fa55_1 rfl) ?_
    refine WL_step rfl rfl (r_loadAt _m3.at_ agg3 rfl rfl) ?_
    refine WL_step rfl rfl (r_neq rfl rfl) ?_
    refine WL_nil ?_
    refine thn_nrm (_hK_10 _ _ ?_)
    clear _hK_10
    refine W_cond rfl (fun _h14 => ?_) (fun _h14 => ?_)
    · have _kb_11 := _h14
      have _h14 := bf_d (bt_n _h14)
      refine W_seq fun _K_12 _hK_12 => ?_
      refine W_region ?_
      refine WL_step rfl rfl (r_assign rfl) ?_
      refine WL_nil ?_
      refine thn_nrm (_hK_12 _ _ ?_)
      clear _hK_12
      refine W_ret (thn_ret ?_)
      clear _hK_9
      exact ret_intro [_] ⟨rfl, trivial⟩ ⟨congrArg Value.bool (decide_eq_false (fun e => _h14 (by rw [e]))).symm, E⟩
    · have _kb_11 := _h14
      have _h14 := bt_d (bf_n _h14)
      refine W_skip ?_
      refine thn_nrm (_hK_9 _ _ ?_)
      clear _hK_9
      refine W_seq fun _K_13 _hK_13 => ?_
      refine W_seq fun _K_14 _hK_14 => ?_
      refine W_region ?_
      refine WL_step rfl rfl (r_fieldAddr fa55_2 rfl) ?_
      refine WL_step rfl rfl (r_loadAt _f_6.at_ agg3 rfl rfl) ?_
      refine WL_step rfl rfl (r_fieldAddr fa55_2 rfl) ?_
      refine WL_step rfl rfl (r_loadAt _m3.at_ agg3 rfl rfl) ?_
      refine WL_step rfl rfl (r_neq rfl rfl) ?_
      refine WL_nil ?_
      refine thn_nrm (_hK_14 _ _ ?_)
      clear _hK_14
      refine W_cond rfl (fun _h19 => ?_) (fun _h19 => ?_)
      · have _kb_15 := _h19
        have _h19 := bf_d (bt_n _h19)
        refine W_seq fun _K_16 _hK_16 => ?_
        refine W_region ?_
        refine WL_step rfl rfl (r_assign rfl) ?_
        refine WL_nil ?_
        refine thn_nrm (_hK_16 _ _ ?_)
        clear _hK_16
        refine W_ret (thn_ret ?_)
        clear _hK_13
        exact ret_intro [_] ⟨rfl, trivial⟩ ⟨congrArg Value.bool (decide_eq_false (fun e => _h19 (by rw [e]))).symm, E⟩
      · have _kb_15 := _h19
        have _h19 := bt_d (bf_n _h19)
        refine W_skip ?_
        refine thn_nrm (_hK_13 _ _ ?_)
        clear _hK_13
        refine W_seq fun _K_17 _hK_17 => ?_
        refine W_seq fun _K_18 _hK_18 => ?_
        refine W_region ?_
        refine WL_step rfl rfl (r_fieldAddr fa55_3 rfl) ?_
        refine WL_step rfl rfl (r_loadAt _f_6.at_ agg3 rfl rfl) ?_
        refine WL_step rfl rfl (r_fieldAddr fa55_3 rfl) ?_
        refine WL_step rfl rfl (r_loadAt _m3.at_ agg3 rfl rfl) ?_
        refine WL_step rfl rfl (r_neq rfl rfl) ?_
        refine WL_nil ?_
        refine thn_nrm (_hK_18 _ _ ?_)
        clear _hK_18
        refine W_cond rfl (fun _h24 => ?_) (fun _h24 => ?_)
        · have _kb_19 := _h24
          have _h24 := bf_d (bt_n _h24)
          refine W_seq fun _K_20 _hK_20 => ?_
          refine W_region ?_
          refine WL_step rfl rfl (r_assign rfl) ?_
          refine WL_nil ?_
          refine thn_nrm (_hK_20 _ _ ?_)
          clear _hK_20
          refine W_ret (thn_ret ?_)
          clear _hK_17
          exact ret_intro [_] ⟨rfl, trivial⟩ ⟨congrArg Value.bool (decide_eq_false (fun e => _h24 (by rw [e]))).symm, E⟩
        · have _kb_19 := _h24
          have _h24 := bt_d (bf_n _h24)
          refine W_skip ?_
          refine thn_nrm (_hK_17 _ _ ?_)
          clear _hK_17
          refine W_seq fun _K_21 _hK_21 => ?_
          refine W_region ?_
          refine WL_step rfl rfl (r_assign rfl) ?_
          refine WL_nil ?_
          refine thn_nrm (_hK_21 _ _ ?_)
          clear _hK_21
          refine W_ret ?_
          exact ret_intro [_] ⟨rfl, trivial⟩ ⟨congrArg Value.bool (decide_eq_true (Token.inj (by rw [_h9, _h14, _h19, _h24]))).symm, E⟩

/-- laws.eqTokenS -/
theorem c_laws_eqTokenS {w : World} {LL_a _B_a : Nat} {_v_a : Value} {a : List Token} (_h_a : Ls Token.cs 4 w LL_a _B_a _v_a a) {LL_b _B_b : Nat} {_v_b : Value} {b : List Token} (_h_b : Ls Token.cs 4 w LL_b _B_b _v_b b) :
    Ctr Try.prog 27 #[_v_a, _v_b] w (fun v w' => v = .bool (decide (a = b)) ∧ Ch [] w w') := by
  obtain ⟨_A_a, _C_a, _e1_a⟩ := _h_a.val
  subst _e1_a
  have _l_a := _h_a.len
  have _h_a := _h_a.here (by decide)
  obtain ⟨_A_b, _C_b, _e1_b⟩ := _h_b.val
  subst _e1_b
  have _l_b := _h_b.len
  have _h_b := _h_b.here (by decide)
  have E := Ch.refl [] w
  refine Ctr_of_W (N := 27) (vs0 := [(.slice _A_a a.length _C_a), (.slice _A_b b.length _C_b)]) Try.func27 rfl rfl rfl ?_
  refine W_seq fun _K_1 _hK_1 => ?_
  refine W_region ?_
  refine WL_step rfl rfl (r_assign rfl) ?_
  refine WL_nil ?_
  refine thn_nrm (_hK_1 _ _ ?_)
  clear _hK_1
  refine W_seq fun _K_2 _hK_2 => ?_
  refine W_seq fun _K_3 _hK_3 => ?_
  refine W_region ?_
  refine WL_step rfl rfl (r_move rfl) ?_
  refine WL_step rfl rfl (r_len (by rw [el28]; rfl) rfl) ?_
  refine WL_step rfl rfl (r_move rfl) ?_
  refine WL_step rfl rfl (r_len (by rw [el28]; rfl) rfl) ?_
  refine WL_step rfl rfl (r_neq rfl rfl) ?_
  refine WL_nil ?_
  refine thn_nrm (_hK_3 _ _ ?_)
  clear _hK_3
  refine W_cond rfl (fun _h10 => ?_) (fun _h10 => ?_)
  · have _kb_4 := _h10
    have _h10 := bf_d (bt_n _h10)
    refine W_seq fun _K_5 _hK_5 => ?_
    refine W_region ?_
    refine WL_step rfl rfl (r_assign rfl) ?_
    refine WL_nil ?_
    refine thn_nrm (_hK_5 _ _ ?_)
    clear _hK_5
    refine W_ret (thn_ret ?_)
    clear _hK_2
    exact ret_intro [_] ⟨rfl, trivial⟩ ⟨congrArg Value.bool (decide_eq_false (fun e => _h10 (by rw [e]))).symm, E⟩
  · have _kb_4 := _h10
    have _h10 := bt_d (bf_n _h10)
    refine W_skip ?_
    refine thn_nrm (_hK_2 _ _ ?_)
    clear _hK_2
    refine W_seq fun _K_6 _hK_6 => ?_
    refine W_seq fun _K_7 _hK_7 => ?_
    refine W_region ?_
    refine WL_step rfl rfl (r_assign rfl) ?_
    refine WL_nil ?_
    refine thn_nrm (_hK_7 _ _ ?_)
    clear _hK_7
    refine W_block ?_
    refine W_loop (σ := Nat) (fun (k : Nat) => [(0, (.slice _A_a a.length _C_a)), (1, (.slice _A_b b.length _C_b)), (5, (.int .i64 ((k : Nat) : Int)))]) (fun (k : Nat) wx => Ch [] w wx ∧ w.heap.size ≤ wx.heap.size ∧ (k ≤ a.length) ∧ (a.take k = b.take k)) (fun (k : Nat) => a.length - k) 0 (Sub.cons rfl (Sub.cons rfl (Sub.cons rfl (Sub.nil _)))) ⟨E, (Nat.le_refl _), (by omega), rfl⟩ ?_
    rintro k _wr_8 ⟨E, _zz0, _hk, _ht⟩
    have _E0h := E
    have _E0hz := _E0h.size
    refine W_seq fun _K_9 _hK_9 => ?_
    refine W_seq fun _K_10 _hK_10 => ?_
    refine W_region ?_
    refine WL_step rfl rfl (r_move rfl) ?_
    refine WL_step rfl rfl (r_move rfl) ?_
    refine WL_step rfl rfl (r_len (by rw [el28]; rfl) rfl) ?_
    refine WL_step rfl rfl (r_lss rfl rfl) ?_
    refine WL_nil ?_
    refine thn_nrm (_hK_10 _ _ ?_)
    clear _hK_10
    refine W_cond rfl (fun _h14 => ?_) (fun _h14 => ?_)
    · have _kb_11 := _h14
      have _h14 := bt_d _h14
      refine W_skip ?_
      refine thn_nrm (_hK_9 _ _ ?_)
      clear _hK_9
      refine W_seq fun _K_12 _hK_12 => ?_
      refine W_block ?_
      refine W_seq fun _K_13 _hK_13 => ?_
      refine W_drawC [] 10 mixed rfl fun _w_14 _cw_14 => ?_
      have _cw_14z := _cw_14.size
      have E := E.trans _cw_14
      refine DR_s 0 rfl (by kernel_rfl) rfl rfl (t_v (fun _ => (r_move rfl)) ?_)
      refine DR_s 1 rfl (by kernel_rfl) rfl rfl (t_v (fun _ => (r_move rfl)) ?_)
      have _f_15 := ((_h_a.ch0 _E0h).ch0 _cw_14)
      refine DR_s 2 rfl (by kernel_rfl) rfl rfl (t_index _f_15 Token.len el28 sz55 rfl rfl rfl (by omega) fun _p19 _y19 _hy19 _a19 => ?_)
      refine DR_s 3 rfl (by kernel_rfl) rfl rfl (t_loadAtA0 _a19 (fun i hi => absurd hi List.not_mem_nil) agg55 sz55 rfl ?_)
      refine DR_s 4 rfl (by kernel_rfl) rfl rfl (t_v (fun _ => (r_move rfl)) ?_)
      refine DR_s 5 rfl (by kernel_rfl) rfl rfl (t_v (fun _ => (r_move rfl)) ?_)
      have _f_16 := ((_h_b.ch0 _E0h).ch0 _cw_14)
      refine DR_s 6 rfl (by kernel_rfl) rfl rfl (t_index _f_16 Token.len el28 sz55 rfl rfl rfl (by omega) fun _p23 _y23 _hy23 _a23 => ?_)
      refine DR_s 7 rfl (by kernel_rfl) rfl rfl (t_loadAtA0 _a23 (fun i hi => absurd hi List.not_mem_nil) agg55 sz55 rfl ?_)
      refine DR_one 8 (by kernel_rfl) ?_
      refine DO_s rfl rfl rfl ?_
      refine Step.call (r_call (xs := [.tmp 20, .tmp 24]) fk47 rfl) (c_laws_eqToken _y19 _y23 ) fun _v25 _w_17 _q25 => ?_
      obtain ⟨rfl, _cw_17⟩ := _q25
      have _cw_17z := _cw_17.size
      have E := E.trans _cw_17
      have _S_18 : Ch [] _w_14 _w_17 := ((Ch.refl _ _).trans _cw_17)
      refine ⟨_S_18, ?_⟩
      refine DR_s 9 rfl (by kernel_rfl) rfl rfl (t_v (fun _ => (r_not rfl)) ?_)
      refine DR_done (by kernel_rfl) ?_
      refine thn_nrm (_hK_13 _ _ ?_)
      clear _hK_13
      refine W_cond rfl (fun _h26 => ?_) (fun _h26 => ?_)
      · have _kb_19 := _h26
        have _h26 := bf_d (bt_n _h26)
        refine W_seq fun _K_20 _hK_20 => ?_
        refine W_region ?_
        refine WL_step rfl rfl (r_assign rfl) ?_
        refine WL_nil ?_
        refine thn_nrm (_hK_20 _ _ ?_)
        clear _hK_20
        refine W_ret (inB_ret (thn_ret (thn_ret (inB_ret (thn_ret ?_)))))
        clear _hK_6 _hK_12
        exact ret_intro [_] ⟨rfl, trivial⟩ ⟨congrArg Value.bool (decide_eq_false (ne_of_get _hy19 _hy23 _h26)).symm, E⟩
      · have _kb_19 := _h26
        have _h26 := bt_d (bf_n _h26)
        refine W_skip ?_
        refine inB_nrm ?_
        refine thn_nrm (_hK_12 _ _ ?_)
        clear _hK_12
        refine W_region ?_
        refine WL_step rfl rfl (r_move rfl) ?_
        refine WL_step rfl rfl (r_add (by omega) rfl rfl) ?_
        refine WL_step rfl rfl (r_assign rfl) ?_
        refine WL_nil ?_
        exact thn_nrm (Exists.intro (k + 1) ⟨⟨E, (by omega), (by omega), (take_eq_succ _ht _hy19 _hy23 _h26)⟩, Sub.cons rfl (Sub.cons rfl (Sub.cons rfl (Sub.nil _))), (by first | omega | (dsimp only; omega))⟩)
    · have _kb_11 := _h14
      have _h14 := bf_d _h14
      refine W_exit (thn_exit (thn_exit (inB_hit ?_)))
      refine thn_nrm (_hK_6 _ _ ?_)
      clear _hK_6
      refine W_seq fun _K_21 _hK_21 => ?_
      refine W_region ?_
      refine WL_step rfl rfl (r_assign rfl) ?_
      refine WL_nil ?_
      refine thn_nrm (_hK_21 _ _ ?_)
      clear _hK_21
      refine W_ret ?_
      clear _hK_9
      exact ret_intro [_] ⟨rfl, trivial⟩ ⟨congrArg Value.bool (decide_eq_true (eq_of_take _ht (by omega) (by omega))).symm, E⟩

/-- laws.eqExpr -/
theorem c_laws_eqExpr {w : World} {LL_a _B_a : Nat} {_v_a : Value} {a : List Token} (_h_a : Ls Token.cs 4 w LL_a _B_a _v_a a) {LL_b _B_b : Nat} {_v_b : Value} {b : List Token} (_h_b : Ls Token.cs 4 w LL_b _B_b _v_b b) :
    Ctr Try.prog 10 #[(.agg #[_v_a]), (.agg #[_v_b])] w (fun v w' => v = .bool (decide (a = b)) ∧ Ch [] w w') := by
  obtain ⟨_A_a, _C_a, _e1_a⟩ := _h_a.val
  subst _e1_a
  have _l_a := _h_a.len
  have _h_a := _h_a.here (by decide)
  obtain ⟨_A_b, _C_b, _e1_b⟩ := _h_b.val
  subst _e1_b
  have _l_b := _h_b.len
  have _h_b := _h_b.here (by decide)
  have E := Ch.refl [] w
  refine Ctr_of_W (N := 11) (vs0 := [(.agg #[(.slice _A_a a.length _C_a)]), (.agg #[(.slice _A_b b.length _C_b)])]) Try.func10 rfl rfl rfl ?_
  refine W_seq fun _K_1 _hK_1 => ?_
  refine W_region ?_
  refine WL_s rfl rfl ?_
  refine s_box rfl fun _b2 _w_2 _m2 _cw_2 _e2 => ?_
  have _cw_2z := _cw_2.size
  have E := E.trans _cw_2
  have _z2 := _m2.lt
  replace _m2 : Blk _w_2 _b2 30 [(.slice _A_a a.length _C_a)] := _m2
  refine WL_s rfl rfl ?_
  refine s_box rfl fun _b3 _w_3 _m3 _cw_3 _e3 => ?_
  have _cw_3z := _cw_3.size
  have E := E.trans _cw_3
  have _z3 := _m3.lt
  replace _m3 : Blk _w_3 _b3 30 [(.slice _A_b b.length _C_b)] := _m3
  refine WL_step rfl rfl (r_assign rfl) ?_
  refine WL_nil ?_
  refine thn_nrm (_hK_1 _ _ ?_)
  clear _hK_1
  refine W_seq fun _K_4 _hK_4 => ?_
  refine W_seq fun _K_5 _hK_5 => ?_
  refine W_region ?_
  refine WL_step rfl rfl (r_fieldAddr fa30_0 rfl) ?_
  have _f_6 := (_m2.ch0 _cw_3)
  refine WL_step rfl rfl (r_loadAt _f_6.at_ agg28 rfl rfl) ?_
  refine WL_step rfl rfl (r_fieldAddr fa30_0 rfl) ?_
  refine WL_step rfl rfl (r_loadAt _m3.at_ agg28 rfl rfl) ?_
  refine WL_s rfl rfl ?_
  have _f_7 := ((_h_a.ch0 _cw_2).ch0 _cw_3)
  have _f_8 := ((_h_b.ch0 _cw_2).ch0 _cw_3)
  refine Step.call (r_call (xs := [.tmp 6, .tmp 8]) fk27 rfl) (c_laws_eqTokenS _f_7 _f_8 ) fun _v9 _w_9 _q9 => ?_
  obtain ⟨rfl, _cw_9⟩ := _q9
  have _cw_9z := _cw_9.size
  have E := E.trans _cw_9
  refine WL_step rfl rfl (r_not rfl) ?_
  refine WL_nil ?_
  refine thn_nrm (_hK_5 _ _ ?_)
  clear _hK_5
  refine W_cond rfl (fun _h10 => ?_) (fun _h10 => ?_)
  · have _kb_10 := _h10
    have _h10 := bf_d (bt_n _h10)
    refine W_seq fun _K_11 _hK_11 => ?_
    refine W_region ?_
    refine WL_step rfl rfl (r_assign rfl) ?_
    refine WL_nil ?_
    refine thn_nrm (_hK_11 _ _ ?_)
    clear _hK_11
    refine W_ret (thn_ret ?_)
    clear _hK_4
    exact ret_intro [_] ⟨rfl, trivial⟩ ⟨congrArg Value.bool (by simp_all), E⟩
  · have _kb_10 := _h10
    have _h10 := bt_d (bf_n _h10)
    refine W_skip ?_
    refine thn_nrm (_hK_4 _ _ ?_)
    clear _hK_4
    refine W_seq fun _K_12 _hK_12 => ?_
    refine W_region ?_
    refine WL_step rfl rfl (r_assign rfl) ?_
    refine WL_nil ?_
    refine thn_nrm (_hK_12 _ _ ?_)
    clear _hK_12
    refine W_ret ?_
    exact ret_intro [_] ⟨rfl, trivial⟩ ⟨congrArg Value.bool (by simp_all), E⟩

/-- laws.eqIntS -/
theorem c_laws_eqIntS {w : World} {LL_a _B_a : Nat} {_v_a : Value} {a : List Int} (_h_a : Ls ics 1 w LL_a _B_a _v_a a) {LL_b _B_b : Nat} {_v_b : Value} {b : List Int} (_h_b : Ls ics 1 w LL_b _B_b _v_b b) :
    Ctr Try.prog 11 #[_v_a, _v_b] w (fun v w' => v = .bool (decide (a = b)) ∧ Ch [] w w') := by
  obtain ⟨_A_a, _C_a, _e1_a⟩ := _h_a.val
  subst _e1_a
  have _l_a := _h_a.len
  have _h_a := _h_a.here (by decide)
  obtain ⟨_A_b, _C_b, _e1_b⟩ := _h_b.val
  subst _e1_b
  have _l_b := _h_b.len
  have _h_b := _h_b.here (by decide)
  have E := Ch.refl [] w
  refine Ctr_of_W (N := 26) (vs0 := [(.slice _A_a a.length _C_a), (.slice _A_b b.length _C_b)]) Try.func11 rfl rfl rfl ?_
  refine W_seq fun _K_1 _hK_1 => ?_
  refine W_region ?_
  refine WL_step rfl rfl (r_assign rfl) ?_
  refine WL_nil ?_
  refine thn_nrm (_hK_1 _ _ ?_)
  clear _hK_1
  refine W_seq fun _K_2 _hK_2 => ?_
  refine W_seq fun _K_3 _hK_3 => ?_
  refine W_region ?_
  refine WL_step rfl rfl (r_move rfl) ?_
  refine WL_step rfl rfl (r_len (by rw [el25]; rfl) rfl) ?_
  refine WL_step rfl rfl (r_move rfl) ?_
  refine WL_step rfl rfl (r_len (by rw [el25]; rfl) rfl) ?_
  refine WL_step rfl rfl (r_neq rfl rfl) ?_
  refine WL_nil ?_
  refine thn_nrm (_hK_3 _ _ ?_)
  clear _hK_3
  refine W_cond rfl (fun _h10 => ?_) (fun _h10 => ?_)
  · have _kb_4 := _h10
    have _h10 := bf_d (bt_n _h10)
    refine W_seq fun _K_5 _hK_5 => ?_
    refine W_region ?_
    refine WL_step rfl rfl (r_assign rfl) ?_
    refine WL_nil ?_
    refine thn_nrm (_hK_5 _ _ ?_)
    clear _hK_5
    refine W_ret (thn_ret ?_)
    clear _hK_2
    exact ret_intro [_] ⟨rfl, trivial⟩ ⟨congrArg Value.bool (decide_eq_false (fun e => _h10 (by rw [e]))).symm, E⟩
  · have _kb_4 := _h10
    have _h10 := bt_d (bf_n _h10)
    refine W_skip ?_
    refine thn_nrm (_hK_2 _ _ ?_)
    clear _hK_2
    refine W_seq fun _K_6 _hK_6 => ?_
    refine W_seq fun _K_7 _hK_7 => ?_
    refine W_region ?_
    refine WL_step rfl rfl (r_assign rfl) ?_
    refine WL_nil ?_
    refine thn_nrm (_hK_7 _ _ ?_)
    clear _hK_7
    refine W_block ?_
    refine W_loop (σ := Nat) (fun (k : Nat) => [(0, (.slice _A_a a.length _C_a)), (1, (.slice _A_b b.length _C_b)), (5, (.int .i64 ((k : Nat) : Int)))]) (fun (k : Nat) wx => Ch [] w wx ∧ w.heap.size ≤ wx.heap.size ∧ (k ≤ a.length) ∧ (a.take k = b.take k)) (fun (k : Nat) => a.length - k) 0 (Sub.cons rfl (Sub.cons rfl (Sub.cons rfl (Sub.nil _)))) ⟨E, (Nat.le_refl _), (by omega), rfl⟩ ?_
    rintro k _wr_8 ⟨E, _zz0, _hk, _ht⟩
    have _E0h := E
    have _E0hz := _E0h.size
    refine W_seq fun _K_9 _hK_9 => ?_
    refine W_seq fun _K_10 _hK_10 => ?_
    refine W_region ?_
    refine WL_step rfl rfl (r_move rfl) ?_
    refine WL_step rfl rfl (r_move rfl) ?_
    refine WL_step rfl rfl (r_len (by rw [el25]; rfl) rfl) ?_
    refine WL_step rfl rfl (r_lss rfl rfl) ?_
    refine WL_nil ?_
    refine thn_nrm (_hK_10 _ _ ?_)
    clear _hK_10
    refine W_cond rfl (fun _h14 => ?_) (fun _h14 => ?_)
    · have _kb_11 := _h14
      have _h14 := bt_d _h14
      refine W_skip ?_
      refine thn_nrm (_hK_9 _ _ ?_)
      clear _hK_9
      refine W_seq fun _K_12 _hK_12 => ?_
      refine W_block ?_
      refine W_seq fun _K_13 _hK_13 => ?_
      refine W_drawC [] 9 mixed rfl fun _w_14 _cw_14 => ?_
      have _cw_14z := _cw_14.size
      have E := E.trans _cw_14
      refine DR_s 0 rfl (by kernel_rfl) rfl rfl (t_v (fun _ => (r_move rfl)) ?_)
      refine DR_s 1 rfl (by kernel_rfl) rfl rfl (t_v (fun _ => (r_move rfl)) ?_)
      have _f_15 := ((_h_a.ch0 _E0h).ch0 _cw_14)
      refine DR_s 2 rfl (by kernel_rfl) rfl rfl (t_index _f_15 ics_len el25 sz3 rfl rfl rfl (by omega) fun _p19 _y19 _hy19 _a19 => ?_)
      refine DR_s 3 rfl (by kernel_rfl) rfl rfl (t_loadAt0 _a19 (fun i hi => absurd hi List.not_mem_nil) agg3 rfl rfl ?_)
      refine DR_s 4 rfl (by kernel_rfl) rfl rfl (t_v (fun _ => (r_move rfl)) ?_)
      refine DR_s 5 rfl (by kernel_rfl) rfl rfl (t_v (fun _ => (r_move rfl)) ?_)
      have _f_16 := ((_h_b.ch0 _E0h).ch0 _cw_14)
      refine DR_s 6 rfl (by kernel_rfl) rfl rfl (t_index _f_16 ics_len el25 sz3 rfl rfl rfl (by omega) fun _p23 _y23 _hy23 _a23 => ?_)
      refine DR_s 7 rfl (by kernel_rfl) rfl rfl (t_loadAt0 _a23 (fun i hi => absurd hi List.not_mem_nil) agg3 rfl rfl ?_)
      refine DR_s 8 rfl (by kernel_rfl) rfl rfl (t_v (fun _ => (r_neq rfl rfl)) ?_)
      refine DR_done (by kernel_rfl) ?_
      refine thn_nrm (_hK_13 _ _ ?_)
      clear _hK_13
      refine W_cond rfl (fun _h25 => ?_) (fun _h25 => ?_)
      · have _kb_17 := _h25
        have _h25 := bf_d (bt_n _h25)
        refine W_seq fun _K_18 _hK_18 => ?_
        refine W_region ?_
        refine WL_step rfl rfl (r_assign rfl) ?_
        refine WL_nil ?_
        refine thn_nrm (_hK_18 _ _ ?_)
        clear _hK_18
        refine W_ret (inB_ret (thn_ret (thn_ret (inB_ret (thn_ret ?_)))))
        clear _hK_6 _hK_12
        exact ret_intro [_] ⟨rfl, trivial⟩ ⟨congrArg Value.bool (decide_eq_false (ne_of_get _hy19 _hy23 _h25)).symm, E⟩
      · have _kb_17 := _h25
        have _h25 := bt_d (bf_n _h25)
        refine W_skip ?_
        refine inB_nrm ?_
        refine thn_nrm (_hK_12 _ _ ?_)
        clear _hK_12
        refine W_region ?_
        refine WL_step rfl rfl (r_move rfl) ?_
        refine WL_step rfl rfl (r_add (by omega) rfl rfl) ?_
        refine WL_step rfl rfl (r_assign rfl) ?_
        refine WL_nil ?_
        exact thn_nrm (Exists.intro (k + 1) ⟨⟨E, (by omega), (by omega), (take_eq_succ _ht _hy19 _hy23 _h25)⟩, Sub.cons rfl (Sub.cons rfl (Sub.cons rfl (Sub.nil _))), (by first | omega | (dsimp only; omega))⟩)
    · have _kb_11 := _h14
      have _h14 := bf_d _h14
      refine W_exit (thn_exit (thn_exit (inB_hit ?_)))
      refine thn_nrm (_hK_6 _ _ ?_)
      clear _hK_6
      refine W_seq fun _K_19 _hK_19 => ?_
      refine W_region ?_
      refine WL_step rfl rfl (r_assign rfl) ?_
      refine WL_nil ?_
      refine thn_nrm (_hK_19 _ _ ?_)
      clear _hK_19
      refine W_ret ?_
      clear _hK_9
      exact ret_intro [_] ⟨rfl, trivial⟩ ⟨congrArg Value.bool (decide_eq_true (eq_of_take _ht (by omega) (by omega))).symm, E⟩

/-- laws.eqPositions -/
theorem c_laws_eqPositions {w : World} {LL_aL _B_aL : Nat} {_v_aL : Value} {aL : List Int} (_h_aL : Ls ics 1 w LL_aL _B_aL _v_aL aL) (afirst : Int) (alast : Int) {LL_aF _B_aF : Nat} {_v_aF : Value} {aF : List Int} (_h_aF : Ls ics 1 w LL_aF _B_aF _v_aF aF) (anull : Bool) {LL_bL _B_bL : Nat} {_v_bL : Value} {bL : List Int} (_h_bL : Ls ics 1 w LL_bL _B_bL _v_bL bL) (bfirst : Int) (blast : Int) {LL_bF _B_bF : Nat} {_v_bF : Value} {bF : List Int} (_h_bF : Ls ics 1 w LL_bF _B_bF _v_bF bF) (bnull : Bool) :
    Ctr Try.prog 14 #[(.agg #[_v_aL, (.int .i64 afirst), (.int .i64 alast), _v_aF, (.bool anull)]), (.agg #[_v_bL, (.int .i64 bfirst), (.int .i64 blast), _v_bF, (.bool bnull)])] w (fun v w' => v = .bool (decide (aL = bL ∧ afirst = bfirst ∧ alast = blast ∧ aF = bF ∧ anull = bnull)) ∧ Ch [] w w') := by
  obtain ⟨_A_aL, _C_aL, _e1_aL⟩ := _h_aL.val
  subst _e1_aL
  have _l_aL := _h_aL.len
  have _h_aL := _h_aL.here (by decide)
  obtain ⟨_A_aF, _C_aF, _e1_aF⟩ := _h_aF.val
  subst _e1_aF
  have _l_aF := _h_aF.len
  have _h_aF := _h_aF.here (by decide)
  obtain ⟨_A_bL, _C_bL, _e1_bL⟩ := _h_bL.val
  subst _e1_bL
  have _l_bL := _h_bL.len
  have _h_bL := _h_bL.here (by decide)
  obtain ⟨_A_bF, _C_bF, _e1_bF⟩ := _h_bF.val
  subst _e1_bF
  have _l_bF := _h_bF.len
  have _h_bF := _h_bF.here (by decide)
  have E := Ch.refl [] w
  refine Ctr_of_W (N := 32) (vs0 := [(.agg #[(.slice _A_aL aL.length _C_aL), (.int .i64 afirst), (.int .i64 alast), (.slice _A_aF aF.length _C_aF), (.bool anull)]), (.agg #[(.slice _A_bL bL.length _C_bL), (.int .i64 bfirst), (.int .i64 blast), (.slice _A_bF bF.length _C_bF), (.bool bnull)])]) Try.func14 rfl rfl rfl ?_
  refine W_seq fun _K_1 _hK_1 => ?_
  refine W_region ?_
  refine WL_s rfl rfl ?_
  refine s_box rfl fun _b2 _w_2 _m2 _cw_2 _e2 => ?_
  have _cw_2z := _cw_2.size
  have E := E.trans _cw_2
  have _z2 := _m2.lt
  replace _m2 : Blk _w_2 _b2 37 [(.slice _A_aL aL.length _C_aL), (.int .i64 afirst), (.int .i64 alast), (.slice _A_aF aF.length _C_aF), (.bool anull)] := _m2
  refine WL_s rfl rfl ?_
  refine s_box rfl fun _b3 _w_3 _m3 _cw_3 _e3 => ?_
  have _cw_3z := _cw_3.size
  have E := E.trans _cw_3
  have _z3 := _m3.lt
  replace _m3 : Blk _w_3 _b3 37 [(.slice _A_bL bL.length _C_bL), (.int .i64 bfirst), (.int .i64 blast), (.slice _A_bF bF.length _C_bF), (.bool bnull)] := _m3
  refine WL_step rfl rfl (r_assign rfl) ?_
  refine WL_nil ?_
  refine thn_nrm (_hK_1 _ _ ?_)
  clear _hK_1
  refine W_seq fun _K_4 _hK_4 => ?_
  refine W_seq fun _K_5 _hK_5 => ?_
  refine W_region ?_
  refine WL_step rfl rfl (r_fieldAddr fa37_0 rfl) ?_
  have _f_6 := (_m2.ch0 _cw_3)
  refine WL_step rfl rfl (r_loadAt _f_6.at_ agg25 rfl rfl) ?_
  refine WL_step rfl rfl (r_fieldAddr fa37_0 rfl) ?_
  refine WL_step rfl rfl (r_loadAt _m3.at_ agg25 rfl rfl) ?_
  refine WL_s rfl rfl ?_
  have _f_7 := ((_h_aL.ch0 _cw_2).ch0 _cw_3)
  have _f_8 := ((_h_bL.ch0 _cw_2).ch0 _cw_3)
  refine Step.call (r_call (xs := [.tmp 6, .tmp 8]) fk11 rfl) (c_laws_eqIntS _f_7 _f_8 ) fun _v9 _w_9 _q9 => ?_
  obtain ⟨rfl, _cw_9⟩ := _q9
  have _cw_9z := _cw_9.size
  have E := E.trans _cw_9
  refine WL_step rfl rfl (r_not rfl) ?_
  refine WL_nil ?_
  refine thn_nrm (_hK_5 _ _ ?_)
  clear _hK_5
  refine W_cond rfl (fun _h10 => ?_) (fun _h10 => ?_)
  · have _kb_10 := _h10
    have _h10 := bf_d (bt_n _h10)
    refine W_seq fun _K_11 _hK_11 => ?_
    refine W_region ?_
    refine WL_step rfl rfl (r_assign rfl) ?_
    refine WL_nil ?_
    refine thn_nrm (_hK_11 _ _ ?_)
    clear _hK_11
    refine W_ret (thn_ret ?_)
    clear _hK_4
    exact ret_intro [_] ⟨rfl, trivial⟩ ⟨congrArg Value.bool (by simp_all), E⟩
  · have _kb_10 := _h10
    have _h10 := bt_d (bf_n _h10)
    refine W_skip ?_
    refine thn_nrm (_hK_4 _ _ ?_)
    clear _hK_4
    refine W_seq fun _K_12 _hK_12 => ?_
    refine W_seq fun _K_13 _hK_13 => ?_
    refine W_region ?_
    refine WL_step rfl rfl (r_fieldAddr fa37_1 rfl) ?_
    have _f_14 := (_f_6.ch0 _cw_9)
    refine WL_step rfl rfl (r_loadAt _f_14.at_ agg3 rfl rfl) ?_
    refine WL_step rfl rfl (r_fieldAddr fa37_1 rfl) ?_
    have _f_15 := (_m3.ch0 _cw_9)
    refine WL_step rfl rfl (r_loadAt _f_15.at_ agg3 rfl rfl) ?_
    refine WL_step rfl rfl (r_neq rfl rfl) ?_
    refine WL_nil ?_
    refine thn_nrm (_hK_13 _ _ ?_)
    clear _hK_13
    refine W_cond rfl (fun _h15 => ?_) (fun _h15 => ?_)
    · have _kb_16 := _h15
      have _h15 := bf_d (bt_n _h15)
      refine W_seq fun _K_17 _hK_17 => ?_
      refine W_region ?_
      refine WL_step rfl rfl (r_assign rfl) ?_
      refine WL_nil ?_
      refine thn_nrm (_hK_17 _ _ ?_)
      clear _hK_17
      refine W_ret (thn_ret ?_)
      clear _hK_12
      exact ret_intro [_] ⟨rfl, trivial⟩ ⟨congrArg Value.bool (by simp_all), E⟩
    · have _kb_16 := _h15
      have _h15 := bt_d (bf_n _h15)
      refine W_skip ?_
      refine thn_nrm (_hK_12 _ _ ?_)
      clear _hK_12
      refine W_seq fun _K_18 _hK_18 => ?_
      refine W_seq fun _K_19 _hK_19 => ?_
      refine W_region ?_
      refine WL_step rfl rfl (r_fieldAddr fa37_2 rfl) ?_
      refine WL_step rfl rfl (r_loadAt _f_14.at_ agg3 rfl rfl) ?_
      refine WL_step rfl rfl (r_fieldAddr fa37_2 rfl) ?_
      refine WL_step rfl rfl (r_loadAt _f_15.at_ agg3 rfl rfl) ?_
      refine WL_step rfl rfl (r_neq rfl rfl) ?_
      refine WL_nil ?_
      refine thn_nrm (_hK_19 _ _ ?_)
      clear _hK_19
      refine W_cond rfl (fun _h20 => ?_) (fun _h20 => ?_)
      · have _kb_20 := _h20
        have _h20 := bf_d (bt_n _h20)
        refine W_seq fun _K_21 _hK_21 => ?_
        refine W_region ?_
        refine WL_step rfl rfl (r_assign rfl) ?_
        refine WL_nil ?_
        refine thn_nrm (_hK_21 _ _ ?_)
        clear _hK_21
        refine W_ret (thn_ret ?_)
        clear _hK_18
        exact ret_intro [_] ⟨rfl, trivial⟩ ⟨congrArg Value.bool (by simp_all), E⟩
      · have _kb_20 := _h20
        have _h20 := bt_d (bf_n _h20)
        refine W_skip ?_
        refine thn_nrm (_hK_18 _ _ ?_)
        clear _hK_18
        refine W_seq fun _K_22 _hK_22 => ?_
        refine W_seq fun _K_23 _hK_23 => ?_
        refine W_region ?_
        refine WL_step rfl rfl (r_fieldAddr fa37_3 rfl) ?_
        refine WL_step rfl rfl (r_loadAt _f_14.at_ agg25 rfl rfl) ?_
        refine WL_step rfl rfl (r_fieldAddr fa37_3 rfl) ?_
        refine WL_step rfl rfl (r_loadAt _f_15.at_ agg25 rfl rfl) ?_
        refine WL_s rfl rfl ?_
        have _f_24 := (((_h_aF.ch0 _cw_2).ch0 _cw_3).ch0 _cw_9)
        have _f_25 := (((_h_bF.ch0 _cw_2).ch0 _cw_3).ch0 _cw_9)
        refine Step.call (r_call (xs := [.tmp 22, .tmp 24]) fk11 rfl) (c_laws_eqIntS _f_24 _f_25 ) fun _v25 _w_26 _q25 => ?_
        obtain ⟨rfl, _cw_26⟩ := _q25
        have _cw_26z := _cw_26.size
        have E := E.trans _cw_26
        refine WL_step rfl rfl (r_not rfl) ?_
        refine WL_nil ?_
        refine thn_nrm (_hK_23 _ _ ?_)
        clear _hK_23
        refine W_cond rfl (fun _h26 => ?_) (fun _h26 => ?_)
        · have _kb_27 := _h26
          have _h26 := bf_d (bt_n _h26)
          refine W_seq fun _K_28 _hK_28 => ?_
          refine W_region ?_
          refine WL_step rfl rfl (r_assign rfl) ?_
          refine WL_nil ?_
          refine thn_nrm (_hK_28 _ _ ?_)
          clear _hK_28
          refine W_ret (thn_ret ?_)
          clear _hK_22
          exact ret_intro [_] ⟨rfl, trivial⟩ ⟨congrArg Value.bool (by simp_all), E⟩
        · have _kb_27 := _h26
          have _h26 := bt_d (bf_n _h26)
          refine W_skip ?_
          refine thn_nrm (_hK_22 _ _ ?_)
          clear _hK_22
          refine W_seq fun _K_29 _hK_29 => ?_
          refine W_seq fun _K_30 _hK_30 => ?_
          refine W_region ?_
          refine WL_step rfl rfl (r_fieldAddr fa37_4 rfl) ?_
          have _f_31 := (_f_14.ch0 _cw_26)
          refine WL_step rfl rfl (r_loadAt _f_31.at_ agg4 rfl rfl) ?_
          refine WL_step rfl rfl (r_fieldAddr fa37_4 rfl) ?_
          have _f_32 := (_f_15.ch0 _cw_26)
          refine WL_step rfl rfl (r_loadAt _f_32.at_ agg4 rfl rfl) ?_
          refine WL_step rfl rfl (r_neqB un4 rfl rfl) ?_
          refine WL_nil ?_
          refine thn_nrm (_hK_30 _ _ ?_)
          clear _hK_30
          refine W_cond rfl (fun _h31 => ?_) (fun _h31 => ?_)
          · have _kb_33 := _h31
            have _h31 := bf_e (bt_n _h31)
            refine W_seq fun _K_34 _hK_34 => ?_
            refine W_region ?_
            refine WL_step rfl rfl (r_assign rfl) ?_
            refine WL_nil ?_
            refine thn_nrm (_hK_34 _ _ ?_)
            clear _hK_34
            refine W_ret (thn_ret ?_)
            clear _hK_29
            exact ret_intro [_] ⟨rfl, trivial⟩ ⟨congrArg Value.bool (by simp_all), E⟩
          · have _kb_33 := _h31
            have _h31 := bt_e (bf_n _h31)
            refine W_skip ?_
            refine thn_nrm (_hK_29 _ _ ?_)
            clear _hK_29
            refine W_seq fun _K_35 _hK_35 => ?_
            refine W_region ?_
            refine WL_step rfl rfl (r_assign rfl) ?_
            refine WL_nil ?_
            refine thn_nrm (_hK_35 _ _ ?_)
            clear _hK_35
            refine W_ret ?_
            exact ret_intro [_] ⟨rfl, trivial⟩ ⟨congrArg Value.bool (by simp_all), E⟩

/-- laws.heldIntS -/
theorem c_laws_heldIntS {w : World} {LL_a _B_a : Nat} {_v_a : Value} {a : List Int} (_h_a : Ls ics 1 w LL_a _B_a _v_a a) (k : Int) (_hk0 : 0 ≤ k) (hkk : k + a.length ≤ 4611686018427387904) :
    Ctr Try.prog 34 #[_v_a, (.int .i64 k)] w (fun v w' => v = .int .i64 (if a = mkInt k a.length then k + a.length else -1) ∧ Ch [] w w') := by
  obtain ⟨_A_a, _C_a, _e1_a⟩ := _h_a.val
  subst _e1_a
  have _l_a := _h_a.len
  have _h_a := _h_a.here (by decide)
  have E := Ch.refl [] w
  refine Ctr_of_W (N := 21) (vs0 := [(.slice _A_a a.length _C_a), (.int .i64 k)]) Try.func34 rfl rfl rfl ?_
  refine W_seq fun _K_1 _hK_1 => ?_
  refine W_region ?_
  refine WL_step rfl rfl (r_assign rfl) ?_
  refine WL_nil ?_
  refine thn_nrm (_hK_1 _ _ ?_)
  clear _hK_1
  refine W_seq fun _K_2 _hK_2 => ?_
  refine W_seq fun _K_3 _hK_3 => ?_
  refine W_region ?_
  refine WL_step rfl rfl (r_assign rfl) ?_
  refine WL_nil ?_
  refine thn_nrm (_hK_3 _ _ ?_)
  clear _hK_3
  refine W_block ?_
  refine W_loop (σ := Nat × Int) (fun ⟨i, kk⟩ => [(0, (.slice _A_a a.length _C_a)), (1, (.int .i64 kk)), (5, (.int .i64 ((i : Nat) : Int)))]) (fun ⟨i, kk⟩ wx => Ch [] w wx ∧ w.heap.size ≤ wx.heap.size ∧ (i ≤ a.length) ∧ (kk = k + i) ∧ (a.take i = mkInt k i)) (fun ⟨i, kk⟩ => a.length - i) (0, k) (Sub.cons rfl (Sub.cons rfl (Sub.cons rfl (Sub.nil _)))) ⟨E, (Nat.le_refl _), (by omega), (by omega), rfl⟩ ?_
  rintro ⟨i, kk⟩ _wr_4 ⟨E, _zz0, hi, hq, _ht⟩
  have _E0h := E
  have _E0hz := _E0h.size
  refine W_seq fun _K_5 _hK_5 => ?_
  refine W_seq fun _K_6 _hK_6 => ?_
  refine W_region ?_
  refine WL_step rfl rfl (r_move rfl) ?_
  refine WL_step rfl rfl (r_move rfl) ?_
  refine WL_step rfl rfl (r_len (by rw [el25]; rfl) rfl) ?_
  refine WL_step rfl rfl (r_lss rfl rfl) ?_
  refine WL_nil ?_
  refine thn_nrm (_hK_6 _ _ ?_)
  clear _hK_6
  refine W_cond rfl (fun _h9 => ?_) (fun _h9 => ?_)
  · have _kb_7 := _h9
    have _h9 := bt_d _h9
    refine W_skip ?_
    refine thn_nrm (_hK_5 _ _ ?_)
    clear _hK_5
    refine W_seq fun _K_8 _hK_8 => ?_
    refine W_block ?_
    refine W_seq fun _K_9 _hK_9 => ?_
    refine W_seq fun _K_10 _hK_10 => ?_
    refine W_region ?_
    refine WL_step rfl rfl (r_move rfl) ?_
    refine WL_step rfl rfl (r_move rfl) ?_
    refine WL_s rfl rfl ?_
    have _f_11 := (_h_a.ch0 _E0h)
    refine (s_index _f_11 ics_len el25 sz3 rfl rfl rfl (by omega) fun _p14 _y14 _hy14 _a14 => ?_)
    refine WL_step rfl rfl (r_loadAt0 _a14 agg3 rfl rfl) ?_
    refine WL_step rfl rfl (r_move rfl) ?_
    refine WL_step rfl rfl (r_neq rfl rfl) ?_
    refine WL_nil ?_
    refine thn_nrm (_hK_10 _ _ ?_)
    clear _hK_10
    refine W_cond rfl (fun _h17 => ?_) (fun _h17 => ?_)
    · have _kb_12 := _h17
      have _h17 := bf_d (bt_n _h17)
      refine W_seq fun _K_13 _hK_13 => ?_
      refine W_region ?_
      refine WL_step rfl rfl (r_assign rfl) ?_
      refine WL_nil ?_
      refine thn_nrm (_hK_13 _ _ ?_)
      clear _hK_13
      refine W_ret (thn_ret (inB_ret (thn_ret (thn_ret (inB_ret (thn_ret ?_))))))
      clear _hK_2 _hK_8 _hK_9
      exact ret_intro [_] ⟨rfl, trivial⟩ ⟨congrArg (Value.int .i64) (if_neg (fun e => _h17 (by have _e2 := (heldInt_get e _hy14); omega))).symm, E⟩
    · have _kb_12 := _h17
      have _h17 := bt_d (bf_n _h17)
      refine W_skip ?_
      refine thn_nrm (_hK_9 _ _ ?_)
      clear _hK_9
      refine W_region ?_
      refine WL_step rfl rfl (r_move rfl) ?_
      refine WL_step rfl rfl (r_add (by omega) rfl rfl) ?_
      refine WL_step rfl rfl (r_assign rfl) ?_
      refine WL_nil ?_
      refine inB_nrm ?_
      refine thn_nrm (_hK_8 _ _ ?_)
      clear _hK_8
      refine W_region ?_
      refine WL_step rfl rfl (r_move rfl) ?_
      refine WL_step rfl rfl (r_add (by omega) rfl rfl) ?_
      refine WL_step rfl rfl (r_assign rfl) ?_
      refine WL_nil ?_
      exact thn_nrm (Exists.intro ((i + 1), (kk + 1)) ⟨⟨E, (by omega), (by omega), (by omega), (heldInt_step _ht hq _hy14 _h17)⟩, Sub.cons rfl (Sub.cons rfl (Sub.cons rfl (Sub.nil _))), (by first | omega | (dsimp only; omega))⟩)
  · have _kb_7 := _h9
    have _h9 := bf_d _h9
    refine W_exit (thn_exit (thn_exit (inB_hit ?_)))
    refine thn_nrm (_hK_2 _ _ ?_)
    clear _hK_2
    refine W_seq fun _K_14 _hK_14 => ?_
    refine W_region ?_
    refine WL_step rfl rfl (r_move rfl) ?_
    refine WL_step rfl rfl (r_assign rfl) ?_
    refine WL_nil ?_
    refine thn_nrm (_hK_14 _ _ ?_)
    clear _hK_14
    refine W_ret ?_
    clear _hK_5
    exact ret_intro [_] ⟨rfl, trivial⟩ ⟨congrArg (Value.int .i64) (by rw [if_pos (heldInt_all _ht (by omega) (by omega))]; omega), E⟩

/-- laws.heldPositions -/
theorem c_laws_heldPositions {w : World} {LL_aL _B_aL : Nat} {_v_aL : Value} {aL : List Int} (_h_aL : Ls ics 1 w LL_aL _B_aL _v_aL aL) (afirst : Int) (alast : Int) {LL_aF _B_aF : Nat} {_v_aF : Value} {aF : List Int} (_h_aF : Ls ics 1 w LL_aF _B_aF _v_aF aF) (anull : Bool) (k : Int) (_hk0 : 0 ≤ k) (hkk : k + aL.length + aF.length ≤ 4611686018427387904) :
    Ctr Try.prog 17 #[(.agg #[_v_aL, (.int .i64 afirst), (.int .i64 alast), _v_aF, (.bool anull)]), (.int .i64 k)] w (fun v w' => v = .int .i64 (if aL = mkInt k aL.length ∧ aF = mkInt (k + aL.length) aF.length then k + aL.length + aF.length else -1) ∧ Ch [] w w') := by
  obtain ⟨_A_aL, _C_aL, _e1_aL⟩ := _h_aL.val
  subst _e1_aL
  have _l_aL := _h_aL.len
  have _h_aL := _h_aL.here (by decide)
  obtain ⟨_A_aF, _C_aF, _e1_aF⟩ := _h_aF.val
  subst _e1_aF
  have _l_aF := _h_aF.len
  have _h_aF := _h_aF.here (by decide)
  have E := Ch.refl [] w
  refine Ctr_of_W (N := 18) (vs0 := [(.agg #[(.slice _A_aL aL.length _C_aL), (.int .i64 afirst), (.int .i64 alast), (.slice _A_aF aF.length _C_aF), (.bool anull)]), (.int .i64 k)]) Try.func17 rfl rfl rfl ?_
  refine W_seq fun _K_1 _hK_1 => ?_
  refine W_region ?_
  refine WL_s rfl rfl ?_
  refine s_box rfl fun _b2 _w_2 _m2 _cw_2 _e2 => ?_
  have _cw_2z := _cw_2.size
  have E := E.trans _cw_2
  have _z2 := _m2.lt
  replace _m2 : Blk _w_2 _b2 37 [(.slice _A_aL aL.length _C_aL), (.int .i64 afirst), (.int .i64 alast), (.slice _A_aF aF.length _C_aF), (.bool anull)] := _m2
  refine WL_step rfl rfl (r_assign rfl) ?_
  refine WL_nil ?_
  refine thn_nrm (_hK_1 _ _ ?_)
  clear _hK_1
  refine W_seq fun _K_3 _hK_3 => ?_
  refine W_region ?_
  refine WL_step rfl rfl (r_fieldAddr fa37_0 rfl) ?_
  refine WL_step rfl rfl (r_loadAt _m2.at_ agg25 rfl rfl) ?_
  refine WL_step rfl rfl (r_move rfl) ?_
  refine WL_s rfl rfl ?_
  have _f_4 := (_h_aL.ch0 _cw_2)
  refine Step.call (r_call (xs := [.tmp 6, .tmp 7]) fk34 rfl) (c_laws_heldIntS _f_4 _ (by omega) (by first | omega | (simp <;> omega))) fun _v8 _w_5 _q8 => ?_
  obtain ⟨rfl, _cw_5⟩ := _q8
  have _cw_5z := _cw_5.size
  have E := E.trans _cw_5
  refine WL_step rfl rfl (r_assign rfl) ?_
  refine WL_nil ?_
  refine thn_nrm (_hK_3 _ _ ?_)
  clear _hK_3
  refine W_seq fun _K_6 _hK_6 => ?_
  refine W_seq fun _K_7 _hK_7 => ?_
  refine W_region ?_
  refine WL_step rfl rfl (r_move rfl) ?_
  refine WL_step rfl rfl (r_lss rfl rfl) ?_
  refine WL_nil ?_
  refine thn_nrm (_hK_7 _ _ ?_)
  clear _hK_7
  refine W_cond rfl (fun _h10 => ?_) (fun _h10 => ?_)
  · have _kb_8 := _h10
    have _h10 := bt_d _h10
    refine W_seq fun _K_9 _hK_9 => ?_
    refine W_region ?_
    refine WL_step rfl rfl (r_assign rfl) ?_
    refine WL_nil ?_
    refine thn_nrm (_hK_9 _ _ ?_)
    clear _hK_9
    refine W_ret (thn_ret ?_)
    clear _hK_6
    exact ret_intro [_] ⟨rfl, trivial⟩ ⟨congrArg (Value.int .i64) (if_neg (fun hc => by rw [if_pos hc.1] at _h10; omega)).symm, E⟩
  · have _kb_8 := _h10
    have _h10 := bf_d _h10
    refine W_skip ?_
    refine thn_nrm (_hK_6 _ _ ?_)
    clear _hK_6
    refine W_seq fun _K_10 _hK_10 => ?_
    refine W_region ?_
    refine WL_step rfl rfl (r_fieldAddr fa37_3 rfl) ?_
    have _f_11 := (_m2.ch0 _cw_5)
    refine WL_step rfl rfl (r_loadAt _f_11.at_ agg25 rfl rfl) ?_
    refine WL_step rfl rfl (r_move rfl) ?_
    refine WL_s rfl rfl ?_
    have _f_12 := ((_h_aF.ch0 _cw_2).ch0 _cw_5)
    refine Step.call (r_call (xs := [.tmp 12, .tmp 13]) fk34 rfl) (c_laws_heldIntS _f_12 _ (by omega) (by first | omega | (simp <;> omega))) fun _v14 _w_13 _q14 => ?_
    obtain ⟨rfl, _cw_13⟩ := _q14
    have _cw_13z := _cw_13.size
    have E := E.trans _cw_13
    refine WL_step rfl rfl (r_assign rfl) ?_
    refine WL_nil ?_
    refine thn_nrm (_hK_10 _ _ ?_)
    clear _hK_10
    refine W_seq fun _K_14 _hK_14 => ?_
    refine W_seq fun _K_15 _hK_15 => ?_
    refine W_region ?_
    refine WL_step rfl rfl (r_move rfl) ?_
    refine WL_step rfl rfl (r_lss rfl rfl) ?_
    refine WL_nil ?_
    refine thn_nrm (_hK_15 _ _ ?_)
    clear _hK_15
    refine W_cond rfl (fun _h16 => ?_) (fun _h16 => ?_)
    · have _kb_16 := _h16
      have _h16 := bt_d _h16
      refine W_seq fun _K_17 _hK_17 => ?_
      refine W_region ?_
      refine WL_step rfl rfl (r_assign rfl) ?_
      refine WL_nil ?_
      refine thn_nrm (_hK_17 _ _ ?_)
      clear _hK_17
      refine W_ret (thn_ret ?_)
      clear _hK_14
      exact ret_intro [_] ⟨rfl, trivial⟩ ⟨congrArg (Value.int .i64) (if_neg (fun hc => by rw [if_pos hc.1, if_pos hc.2] at _h16; omega)).symm, E⟩
    · have _kb_16 := _h16
      have _h16 := bf_d _h16
      refine W_skip ?_
      refine thn_nrm (_hK_14 _ _ ?_)
      clear _hK_14
      refine W_seq fun _K_18 _hK_18 => ?_
      refine W_region ?_
      refine WL_step rfl rfl (r_move rfl) ?_
      refine WL_step rfl rfl (r_assign rfl) ?_
      refine WL_nil ?_
      refine thn_nrm (_hK_18 _ _ ?_)
      clear _hK_18
      refine W_ret ?_
      exact ret_intro [_] ⟨rfl, trivial⟩ ⟨congrArg (Value.int .i64) (Or.elim (Classical.em (aL = mkInt k aL.length)) (fun hA => by rw [if_pos hA] at _h16 ⊢; exact Or.elim (Classical.em (aF = mkInt (k + aL.length) aF.length)) (fun hB => by rw [if_pos hB, if_pos ⟨hA, hB⟩]) (fun hB => by rw [if_neg hB] at _h16; omega)) (fun hA => by rw [if_neg hA] at _h10; omega)), E⟩

/-- laws.markTokenS -/
theorem c_laws_markTokenS {w : World} {e_a : Nat} {_v_a : Value} {a : List Token} (_h_a : Ol Token.cs e_a 4 w _v_a a) (k : Int) (_hk0 : 0 ≤ k) (hkk : k + 4 * a.length ≤ 4611686018427387904) :
    Ctr Try.prog 32 #[_v_a, (.int .i64 k)] w (fun v w' => v = .int .i64 (k + 4 * a.length) ∧ Ol Token.cs e_a 4 w' _v_a (mkToken k a.length) ∧ Ch (bl _v_a) w w') := by
  obtain ⟨_A_a, _C_a, _e1_a⟩ := _h_a.val
  subst _e1_a
  have _l_a := _h_a.len
  have _lt_a := _h_a.lt
  have E := Ch.refl (bl (.slice _A_a a.length _C_a)) w
  refine Ctr_of_W (N := 41) (vs0 := [(.slice _A_a a.length _C_a), (.int .i64 k)]) Try.func32 rfl rfl rfl ?_
  refine W_seq fun _K_1 _hK_1 => ?_
  refine W_region ?_
  refine WL_step rfl rfl (r_assign rfl) ?_
  refine WL_nil ?_
  refine thn_nrm (_hK_1 _ _ ?_)
  clear _hK_1
  refine W_seq fun _K_2 _hK_2 => ?_
  refine W_seq fun _K_3 _hK_3 => ?_
  refine W_region ?_
  refine WL_step rfl rfl (r_assign rfl) ?_
  refine WL_nil ?_
  refine thn_nrm (_hK_3 _ _ ?_)
  clear _hK_3
  refine W_block ?_
  have _oi_4 : Ol Token.cs e_a 4 w (.slice _A_a a.length _C_a) (mkToken k 0 ++ a.drop 0) := by
    have hx := _h_a
    simpa [mkToken] using hx
  refine W_loop (σ := Nat × Int) (fun ⟨i, kk⟩ => [(0, (.slice _A_a a.length _C_a)), (1, (.int .i64 kk)), (4, (.int .i64 0)), (5, (.int .i64 ((i : Nat) : Int)))]) (fun ⟨i, kk⟩ wx => Ch (bl (.slice _A_a a.length _C_a)) w wx ∧ w.heap.size ≤ wx.heap.size ∧ (i ≤ a.length) ∧ (kk = k + 4 * i) ∧ Ol Token.cs e_a 4 wx (.slice _A_a a.length _C_a) (mkToken k i ++ a.drop i)) (fun ⟨i, kk⟩ => a.length - i) (0, k) (Sub.cons rfl (Sub.cons rfl (Sub.cons rfl (Sub.cons rfl (Sub.nil _))))) ⟨E, (Nat.le_refl _), (by omega), (by omega), _oi_4⟩ ?_
  rintro ⟨i, kk⟩ _wr_5 ⟨E, _zz0, hi, hq, _o0_0⟩
  have _E0h := E
  have _E0hz := _E0h.size
  refine W_seq fun _K_6 _hK_6 => ?_
  refine W_seq fun _K_7 _hK_7 => ?_
  refine W_region ?_
  refine WL_step rfl rfl (r_move rfl) ?_
  refine WL_step rfl rfl (r_move rfl) ?_
  refine WL_step rfl rfl (r_len (by rw [el28]; rfl) rfl) ?_
  refine WL_step rfl rfl (r_lss rfl rfl) ?_
  refine WL_nil ?_
  refine thn_nrm (_hK_7 _ _ ?_)
  clear _hK_7
  refine W_cond rfl (fun _h9 => ?_) (fun _h9 => ?_)
  · have _kb_8 := _h9
    have _h9 := bt_d _h9
    refine W_skip ?_
    refine thn_nrm (_hK_6 _ _ ?_)
    clear _hK_6
    refine W_seq fun _K_9 _hK_9 => ?_
    refine W_block ?_
    refine W_seq fun _K_10 _hK_10 => ?_
    refine W_region ?_
    refine WL_step rfl rfl (r_move rfl) ?_
    refine WL_step rfl rfl (r_move rfl) ?_
    refine WL_step rfl rfl (r_move rfl) ?_
    refine WL_s rfl rfl ?_
    refine s_indexO (j := i) _o0_0 el28 sz55 rfl rfl rfl (by first | omega | (simp [mkToken] <;> omega)) fun _g15 _o15 _cp15 _q15 => ?_
    refine WL_step rfl rfl (r_fieldAddr fa55_0 rfl) ?_
    refine WL_s rfl rfl ?_
    obtain ⟨ye_13, hy_14⟩ := get_some (xs := mkToken k i ++ a.drop i) (j := i) (by first | omega | (simp [mkToken] <;> omega))
    refine s_storeF (j := i) 0 (⟨ye_13.kind, ye_13.letter, ye_13.low, ye_13.high⟩ : Token) (⟨kk, ye_13.letter, ye_13.low, ye_13.high⟩ : Token) _o0_0 _q15 hy_14 Token.len rfl sz3 rfl rfl rfl rfl fun _w_11 _o_12 _cw_11 => ?_
    have _cw_11z := _cw_11.size
    have E := E.trans _cw_11
    refine WL_nil ?_
    refine thn_nrm (_hK_10 _ _ ?_)
    clear _hK_10
    refine W_seq fun _K_15 _hK_15 => ?_
    refine W_region ?_
    refine WL_step rfl rfl (r_move rfl) ?_
    refine WL_step rfl rfl (r_add (by omega) rfl rfl) ?_
    refine WL_step rfl rfl (r_assign rfl) ?_
    refine WL_nil ?_
    refine thn_nrm (_hK_15 _ _ ?_)
    clear _hK_15
    refine W_seq fun _K_16 _hK_16 => ?_
    refine W_region ?_
    refine WL_step rfl rfl (r_move rfl) ?_
    refine WL_step rfl rfl (r_move rfl) ?_
    refine WL_step rfl rfl (r_move rfl) ?_
    refine WL_s rfl rfl ?_
    refine s_indexO (j := i) _o_12 el28 sz55 rfl rfl rfl (by first | omega | (simp [mkToken] <;> omega)) fun _g22 _o22 _cp22 _q22 => ?_
    refine WL_step rfl rfl (r_fieldAddr fa55_1 rfl) ?_
    refine WL_s rfl rfl ?_
    refine s_storeF (j := i) 1 (⟨kk, ye_13.letter, ye_13.low, ye_13.high⟩ : Token) (⟨kk, (kk + 1), ye_13.low, ye_13.high⟩ : Token) _o_12 _q22 (get_set hy_14 _) Token.len rfl sz3 rfl rfl rfl rfl fun _w_17 _o_18 _cw_17 => ?_
    rw [List.set_set] at _o_18
    have _cw_17z := _cw_17.size
    have E := E.trans _cw_17
    refine WL_nil ?_
    refine thn_nrm (_hK_16 _ _ ?_)
    clear _hK_16
    refine W_seq fun _K_19 _hK_19 => ?_
    refine W_region ?_
    refine WL_step rfl rfl (r_move rfl) ?_
    refine WL_step rfl rfl (r_add (by omega) rfl rfl) ?_
    refine WL_step rfl rfl (r_assign rfl) ?_
    refine WL_nil ?_
    refine thn_nrm (_hK_19 _ _ ?_)
    clear _hK_19
    refine W_seq fun _K_20 _hK_20 => ?_
    refine W_region ?_
    refine WL_step rfl rfl (r_move rfl) ?_
    refine WL_step rfl rfl (r_move rfl) ?_
    refine WL_step rfl rfl (r_move rfl) ?_
    refine WL_s rfl rfl ?_
    refine s_indexO (j := i) _o_18 el28 sz55 rfl rfl rfl (by first | omega | (simp [mkToken] <;> omega)) fun _g29 _o29 _cp29 _q29 => ?_
    refine WL_step rfl rfl (r_fieldAddr fa55_2 rfl) ?_
    refine WL_s rfl rfl ?_
    refine s_storeF (j := i) 2 (⟨kk, (kk + 1), ye_13.low, ye_13.high⟩ : Token) (⟨kk, (kk + 1), ((kk + 1) + 1), ye_13.high⟩ : Token) _o_18 _q29 (get_set hy_14 _) Token.len rfl sz3 rfl rfl rfl rfl fun _w_21 _o_22 _cw_21 => ?_
    rw [List.set_set] at _o_22
    have _cw_21z := _cw_21.size
    have E := E.trans _cw_21
    refine WL_nil ?_
    refine thn_nrm (_hK_20 _ _ ?_)
    clear _hK_20
    refine W_seq fun _K_23 _hK_23 => ?_
    refine W_region ?_
    refine WL_step rfl rfl (r_move rfl) ?_
    refine WL_step rfl rfl (r_add (by omega) rfl rfl) ?_
    refine WL_step rfl rfl (r_assign rfl) ?_
    refine WL_nil ?_
    refine thn_nrm (_hK_23 _ _ ?_)
    clear _hK_23
    refine W_seq fun _K_24 _hK_24 => ?_
    refine W_region ?_
    refine WL_step rfl rfl (r_move rfl) ?_
    refine WL_step rfl rfl (r_move rfl) ?_
    refine WL_step rfl rfl (r_move rfl) ?_
    refine WL_s rfl rfl ?_
    refine s_indexO (j := i) _o_22 el28 sz55 rfl rfl rfl (by first | omega | (simp [mkToken] <;> omega)) fun _g36 _o36 _cp36 _q36 => ?_
    refine WL_step rfl rfl (r_fieldAddr fa55_3 rfl) ?_
    refine WL_s rfl rfl ?_
    refine s_storeF (j := i) 3 (⟨kk, (kk + 1), ((kk + 1) + 1), ye_13.high⟩ : Token) (⟨kk, (kk + 1), ((kk + 1) + 1), (((kk + 1) + 1) + 1)⟩ : Token) _o_22 _q36 (get_set hy_14 _) Token.len rfl sz3 rfl rfl rfl rfl fun _w_25 _o_26 _cw_25 => ?_
    rw [List.set_set] at _o_26
    have _cw_25z := _cw_25.size
    have E := E.trans _cw_25
    refine WL_nil ?_
    refine thn_nrm (_hK_24 _ _ ?_)
    clear _hK_24
    refine W_region ?_
    refine WL_step rfl rfl (r_move rfl) ?_
    refine WL_step rfl rfl (r_add (by omega) rfl rfl) ?_
    refine WL_step rfl rfl (r_assign rfl) ?_
    refine WL_nil ?_
    refine inB_nrm ?_
    refine thn_nrm (_hK_9 _ _ ?_)
    clear _hK_9
    refine W_region ?_
    refine WL_step rfl rfl (r_move rfl) ?_
    refine WL_step rfl rfl (r_add (by omega) rfl rfl) ?_
    refine WL_step rfl rfl (r_assign rfl) ?_
    refine WL_nil ?_
    have _on_27 : Ol Token.cs e_a 4 _w_25 (.slice _A_a a.length _C_a) (mkToken k (i + 1) ++ a.drop (i + 1)) := by
      have hx := _o_26
      rwa [mkToken_step a (by omega) hq] at hx
    exact thn_nrm (Exists.intro ((i + 1), ((((kk + 1) + 1) + 1) + 1)) ⟨⟨E, (by omega), (by omega), (by omega), _on_27⟩, Sub.cons rfl (Sub.cons rfl (Sub.cons rfl (Sub.cons rfl (Sub.nil _)))), (by first | omega | (dsimp only; omega))⟩)
  · have _kb_8 := _h9
    have _h9 := bf_d _h9
    refine W_exit (thn_exit (thn_exit (inB_hit ?_)))
    refine thn_nrm (_hK_2 _ _ ?_)
    clear _hK_2
    refine W_seq fun _K_28 _hK_28 => ?_
    refine W_region ?_
    refine WL_step rfl rfl (r_move rfl) ?_
    refine WL_step rfl rfl (r_assign rfl) ?_
    refine WL_nil ?_
    refine thn_nrm (_hK_28 _ _ ?_)
    clear _hK_28
    refine W_ret ?_
    clear _hK_6
    have _o_29 : Ol Token.cs e_a 4 _wr_5 (.slice _A_a a.length _C_a) (mkToken k a.length) := by
      have hx := _o0_0
      have _e1 : i = a.length := (by omega); subst _e1; simpa using hx
    exact ret_intro [_] ⟨rfl, trivial⟩ ⟨congrArg (Value.int .i64) (by omega), _o_29, E⟩

/-- laws.markExpr -/
theorem c_laws_markExpr {w : World} {e_a : Nat} {_v_a : Value} {a : List Token} (_h_a : Ol Token.cs e_a 4 w _v_a a) (k : Int) (_hk0 : 0 ≤ k) (hkk : k + 4 * a.length ≤ 4611686018427387904) :
    Ctr Try.prog 15 #[(.agg #[_v_a]), (.int .i64 k)] w (fun v w' => v = .int .i64 (k + 4 * a.length) ∧ Ol Token.cs e_a 4 w' _v_a (mkToken k a.length) ∧ Ch (bl _v_a) w w') := by
  obtain ⟨_A_a, _C_a, _e1_a⟩ := _h_a.val
  subst _e1_a
  have _l_a := _h_a.len
  have _lt_a := _h_a.lt
  have E := Ch.refl (bl (.slice _A_a a.length _C_a)) w
  refine Ctr_of_W (N := 10) (vs0 := [(.agg #[(.slice _A_a a.length _C_a)]), (.int .i64 k)]) Try.func15 rfl rfl rfl ?_
  refine W_seq fun _K_1 _hK_1 => ?_
  refine W_region ?_
  refine WL_s rfl rfl ?_
  refine s_box rfl fun _b2 _w_2 _m2 _cw_2 _e2 => ?_
  have _cw_2z := _cw_2.size
  have E := E.trans _cw_2.of_nil
  have _z2 := _m2.lt
  replace _m2 : Blk _w_2 _b2 30 [(.slice _A_a a.length _C_a)] := _m2
  refine WL_step rfl rfl (r_assign rfl) ?_
  refine WL_nil ?_
  refine thn_nrm (_hK_1 _ _ ?_)
  clear _hK_1
  refine W_seq fun _K_3 _hK_3 => ?_
  refine W_region ?_
  refine WL_step rfl rfl (r_fieldAddr fa30_0 rfl) ?_
  refine WL_step rfl rfl (r_loadAt _m2.at_ agg28 rfl rfl) ?_
  refine WL_step rfl rfl (r_move rfl) ?_
  refine WL_s rfl rfl ?_
  have _f_4 := (_h_a.ch0 _cw_2)
  refine Step.call (r_call (xs := [.tmp 6, .tmp 7]) fk32 rfl) (c_laws_markTokenS _f_4 _ (by omega) (by first | omega | (simp <;> omega))) fun _v8 _w_5 _q8 => ?_
  obtain ⟨rfl, _q8, _cw_5⟩ := _q8
  have _cw_5z := _cw_5.size
  have E := E.trans _cw_5
  refine WL_step rfl rfl (r_assign rfl) ?_
  refine WL_nil ?_
  refine thn_nrm (_hK_3 _ _ ?_)
  clear _hK_3
  refine W_seq fun _K_6 _hK_6 => ?_
  refine W_region ?_
  refine WL_step rfl rfl (r_move rfl) ?_
  refine WL_step rfl rfl (r_assign rfl) ?_
  refine WL_nil ?_
  refine thn_nrm (_hK_6 _ _ ?_)
  clear _hK_6
  refine W_ret ?_
  have _o_7 : Ol Token.cs e_a 4 _w_5 (.slice _A_a a.length _C_a) (mkToken k a.length) := by
    have hx := _q8
    first | exact hx | simpa using hx
  exact ret_intro [_] ⟨rfl, trivial⟩ ⟨congrArg (Value.int .i64) rfl, _o_7, E⟩

/-- laws.markIntS -/
theorem c_laws_markIntS {w : World} {e_a : Nat} {_v_a : Value} {a : List Int} (_h_a : Ol ics e_a 1 w _v_a a) (k : Int) (_hk0 : 0 ≤ k) (hkk : k + a.length ≤ 4611686018427387904) :
    Ctr Try.prog 33 #[_v_a, (.int .i64 k)] w (fun v w' => v = .int .i64 (k + a.length) ∧ Ol ics e_a 1 w' _v_a (mkInt k a.length) ∧ Ch (bl _v_a) w w') := by
  obtain ⟨_A_a, _C_a, _e1_a⟩ := _h_a.val
  subst _e1_a
  have _l_a := _h_a.len
  have _lt_a := _h_a.lt
  have E := Ch.refl (bl (.slice _A_a a.length _C_a)) w
  refine Ctr_of_W (N := 19) (vs0 := [(.slice _A_a a.length _C_a), (.int .i64 k)]) Try.func33 rfl rfl rfl ?_
  refine W_seq fun _K_1 _hK_1 => ?_
  refine W_region ?_
  refine WL_step rfl rfl (r_assign rfl) ?_
  refine WL_nil ?_
  refine thn_nrm (_hK_1 _ _ ?_)
  clear _hK_1
  refine W_seq fun _K_2 _hK_2 => ?_
  refine W_seq fun _K_3 _hK_3 => ?_
  refine W_region ?_
  refine WL_step rfl rfl (r_assign rfl) ?_
  refine WL_nil ?_
  refine thn_nrm (_hK_3 _ _ ?_)
  clear _hK_3
  refine W_block ?_
  have _oi_4 : Ol ics e_a 1 w (.slice _A_a a.length _C_a) (mkInt k 0 ++ a.drop 0) := by
    have hx := _h_a
    simpa [mkInt] using hx
  refine W_loop (σ := Nat × Int) (fun ⟨i, kk⟩ => [(0, (.slice _A_a a.length _C_a)), (1, (.int .i64 kk)), (4, (.int .i64 0)), (5, (.int .i64 ((i : Nat) : Int)))]) (fun ⟨i, kk⟩ wx => Ch (bl (.slice _A_a a.length _C_a)) w wx ∧ w.heap.size ≤ wx.heap.size ∧ (i ≤ a.length) ∧ (kk = k + i) ∧ Ol ics e_a 1 wx (.slice _A_a a.length _C_a) (mkInt k i ++ a.drop i)) (fun ⟨i, kk⟩ => a.length - i) (0, k) (Sub.cons rfl (Sub.cons rfl (Sub.cons rfl (Sub.cons rfl (Sub.nil _))))) ⟨E, (Nat.le_refl _), (by omega), (by omega), _oi_4⟩ ?_
  rintro ⟨i, kk⟩ _wr_5 ⟨E, _zz0, hi, hq, _o0_0⟩
  have _E0h := E
  have _E0hz := _E0h.size
  refine W_seq fun _K_6 _hK_6 => ?_
  refine W_seq fun _K_7 _hK_7 => ?_
  refine W_region ?_
  refine WL_step rfl rfl (r_move rfl) ?_
  refine WL_step rfl rfl (r_move rfl) ?_
  refine WL_step rfl rfl (r_len (by rw [el25]; rfl) rfl) ?_
  refine WL_step rfl rfl (r_lss rfl rfl) ?_
  refine WL_nil ?_
  refine thn_nrm (_hK_7 _ _ ?_)
  clear _hK_7
  refine W_cond rfl (fun _h9 => ?_) (fun _h9 => ?_)
  · have _kb_8 := _h9
    have _h9 := bt_d _h9
    refine W_skip ?_
    refine thn_nrm (_hK_6 _ _ ?_)
    clear _hK_6
    refine W_seq fun _K_9 _hK_9 => ?_
    refine W_block ?_
    refine W_seq fun _K_10 _hK_10 => ?_
    refine W_region ?_
    refine WL_step rfl rfl (r_move rfl) ?_
    refine WL_step rfl rfl (r_move rfl) ?_
    refine WL_step rfl rfl (r_move rfl) ?_
    refine WL_s rfl rfl ?_
    refine s_indexO (j := i) _o0_0 el25 sz3 rfl rfl rfl (by first | omega | (simp [mkInt] <;> omega)) fun _g15 _o15 _cp15 _q15 => ?_
    refine WL_s rfl rfl ?_
    refine s_storeO (j := i) kk _o0_0 _q15 ics_len sz3 rfl rfl rfl rfl (by first | omega | (simp [mkInt] <;> omega)) fun _w_11 _o_12 _cw_11 => ?_
    have _cw_11z := _cw_11.size
    have E := E.trans _cw_11
    refine WL_nil ?_
    refine thn_nrm (_hK_10 _ _ ?_)
    clear _hK_10
    refine W_region ?_
    refine WL_step rfl rfl (r_move rfl) ?_
    refine WL_step rfl rfl (r_add (by omega) rfl rfl) ?_
    refine WL_step rfl rfl (r_assign rfl) ?_
    refine WL_nil ?_
    refine inB_nrm ?_
    refine thn_nrm (_hK_9 _ _ ?_)
    clear _hK_9
    refine W_region ?_
    refine WL_step rfl rfl (r_move rfl) ?_
    refine WL_step rfl rfl (r_add (by omega) rfl rfl) ?_
    refine WL_step rfl rfl (r_assign rfl) ?_
    refine WL_nil ?_
    have _on_13 : Ol ics e_a 1 _w_11 (.slice _A_a a.length _C_a) (mkInt k (i + 1) ++ a.drop (i + 1)) := by
      have hx := _o_12
      rwa [mkInt_step a (by omega) hq] at hx
    exact thn_nrm (Exists.intro ((i + 1), (kk + 1)) ⟨⟨E, (by omega), (by omega), (by omega), _on_13⟩, Sub.cons rfl (Sub.cons rfl (Sub.cons rfl (Sub.cons rfl (Sub.nil _)))), (by first | omega | (dsimp only; omega))⟩)
  · have _kb_8 := _h9
    have _h9 := bf_d _h9
    refine W_exit (thn_exit (thn_exit (inB_hit ?_)))
    refine thn_nrm (_hK_2 _ _ ?_)
    clear _hK_2
    refine W_seq fun _K_14 _hK_14 => ?_
    refine W_region ?_
    refine WL_step rfl rfl (r_move rfl) ?_
    refine WL_step rfl rfl (r_assign rfl) ?_
    refine WL_nil ?_
    refine thn_nrm (_hK_14 _ _ ?_)
    clear _hK_14
    refine W_ret ?_
    clear _hK_6
    have _o_15 : Ol ics e_a 1 _wr_5 (.slice _A_a a.length _C_a) (mkInt k a.length) := by
      have hx := _o0_0
      have _e1 : i = a.length := (by omega); subst _e1; simpa using hx
    exact ret_intro [_] ⟨rfl, trivial⟩ ⟨congrArg (Value.int .i64) (by omega), _o_15, E⟩

/-- laws.markPositions -/
theorem c_laws_markPositions {w : World} {e_aL : Nat} {_v_aL : Value} {aL : List Int} (_h_aL : Ol ics e_aL 1 w _v_aL aL) (afirst : Int) (alast : Int) {e_aF : Nat} {_v_aF : Value} {aF : List Int} (_h_aF : Ol ics e_aF 1 w _v_aF aF) (anull : Bool) (_dj_a : ∀ g ∈ bl _v_aL, g ∉ bl _v_aF) (k : Int) (_hk0 : 0 ≤ k) (hkk : k + aL.length + aF.length ≤ 4611686018427387904) :
    Ctr Try.prog 16 #[(.agg #[_v_aL, (.int .i64 afirst), (.int .i64 alast), _v_aF, (.bool anull)]), (.int .i64 k)] w (fun v w' => v = .int .i64 (k + aL.length + aF.length) ∧ Ol ics e_aL 1 w' _v_aL (mkInt k aL.length) ∧ Ol ics e_aF 1 w' _v_aF (mkInt (k + aL.length) aF.length) ∧ Ch (bl _v_aL ++ bl _v_aF) w w') := by
  obtain ⟨_A_aL, _C_aL, _e1_aL⟩ := _h_aL.val
  subst _e1_aL
  have _l_aL := _h_aL.len
  have _lt_aL := _h_aL.lt
  obtain ⟨_A_aF, _C_aF, _e1_aF⟩ := _h_aF.val
  subst _e1_aF
  have _l_aF := _h_aF.len
  have _lt_aF := _h_aF.lt
  have E := Ch.refl (bl (.slice _A_aL aL.length _C_aL) ++ bl (.slice _A_aF aF.length _C_aF)) w
  refine Ctr_of_W (N := 14) (vs0 := [(.agg #[(.slice _A_aL aL.length _C_aL), (.int .i64 afirst), (.int .i64 alast), (.slice _A_aF aF.length _C_aF), (.bool anull)]), (.int .i64 k)]) Try.func16 rfl rfl rfl ?_
  refine W_seq fun _K_1 _hK_1 => ?_
  refine W_region ?_
  refine WL_s rfl rfl ?_
  refine s_box rfl fun _b2 _w_2 _m2 _cw_2 _e2 => ?_
  have _cw_2z := _cw_2.size
  have E := E.trans _cw_2.of_nil
  have _z2 := _m2.lt
  replace _m2 : Blk _w_2 _b2 37 [(.slice _A_aL aL.length _C_aL), (.int .i64 afirst), (.int .i64 alast), (.slice _A_aF aF.length _C_aF), (.bool anull)] := _m2
  refine WL_step rfl rfl (r_assign rfl) ?_
  refine WL_nil ?_
  refine thn_nrm (_hK_1 _ _ ?_)
  clear _hK_1
  refine W_seq fun _K_3 _hK_3 => ?_
  refine W_region ?_
  refine WL_step rfl rfl (r_fieldAddr fa37_0 rfl) ?_
  refine WL_step rfl rfl (r_loadAt _m2.at_ agg25 rfl rfl) ?_
  refine WL_step rfl rfl (r_move rfl) ?_
  refine WL_s rfl rfl ?_
  have _f_4 := (_h_aL.ch0 _cw_2)
  refine Step.call (r_call (xs := [.tmp 6, .tmp 7]) fk33 rfl) (c_laws_markIntS _f_4 _ (by omega) (by first | omega | (simp <;> omega))) fun _v8 _w_5 _q8 => ?_
  obtain ⟨rfl, _q8, _cw_5⟩ := _q8
  have _cw_5z := _cw_5.size
  have E := E.step _cw_5 (fun i hm => .inr (List.mem_append_left _ hm))
  refine WL_step rfl rfl (r_assign rfl) ?_
  refine WL_nil ?_
  refine thn_nrm (_hK_3 _ _ ?_)
  clear _hK_3
  refine W_seq fun _K_6 _hK_6 => ?_
  refine W_region ?_
  refine WL_step rfl rfl (r_fieldAddr fa37_3 rfl) ?_
  have _f_7 := (_m2.ch _cw_5 (fun hm => by have _h1 := _lt_aL _ hm; have _h2 := _lt_aL _ hm; omega))
  refine WL_step rfl rfl (r_loadAt _f_7.at_ agg25 rfl rfl) ?_
  refine WL_step rfl rfl (r_move rfl) ?_
  refine WL_s rfl rfl ?_
  have _f_8 := ((_h_aF.ch0 _cw_2).ch _cw_5 (fun g hg hm => by exact _dj_a _ hm hg))
  refine Step.call (r_call (xs := [.tmp 10, .tmp 11]) fk33 rfl) (c_laws_markIntS _f_8 _ (by omega) (by first | omega | (simp <;> omega))) fun _v12 _w_9 _q12 => ?_
  obtain ⟨rfl, _q12, _cw_9⟩ := _q12
  have _cw_9z := _cw_9.size
  have E := E.step _cw_9 (fun i hm => .inr (List.mem_append_right _ hm))
  refine WL_step rfl rfl (r_assign rfl) ?_
  refine WL_nil ?_
  refine thn_nrm (_hK_6 _ _ ?_)
  clear _hK_6
  refine W_seq fun _K_10 _hK_10 => ?_
  refine W_region ?_
  refine WL_step rfl rfl (r_move rfl) ?_
  refine WL_step rfl rfl (r_assign rfl) ?_
  refine WL_nil ?_
  refine thn_nrm (_hK_10 _ _ ?_)
  clear _hK_10
  refine W_ret ?_
  have _f_12 := (_q8.ch _cw_9 (fun g hg hm => by exact _dj_a _ hg hm))
  have _o_11 : Ol ics e_aL 1 _w_9 (.slice _A_aL aL.length _C_aL) (mkInt k aL.length) := _f_12
  have _o_13 : Ol ics e_aF 1 _w_9 (.slice _A_aF aF.length _C_aF) (mkInt (k + aL.length) aF.length) := _q12
  exact ret_intro [_] ⟨rfl, trivial⟩ ⟨congrArg (Value.int .i64) rfl, _o_11, _o_13, E⟩

/-- laws.szTokenS -/
theorem c_laws_szTokenS {w : World} {LL_a _B_a : Nat} {_v_a : Value} {a : List Token} (_h_a : Ls Token.cs 4 w LL_a _B_a _v_a a) (left : Int) (hl : left ≤ 1048576) (_h0 : 0 ≤ left) :
    Ctr Try.prog 18 #[_v_a, (.int .i64 left)] w (fun v w' => v = .int .i64 (if left < a.length then -1 else left - a.length) ∧ Ch [] w w') := by
  obtain ⟨_A_a, _C_a, _e1_a⟩ := _h_a.val
  subst _e1_a
  have _l_a := _h_a.len
  have _h_a := _h_a.here (by decide)
  have E := Ch.refl [] w
  refine Ctr_of_W (N := 12) (vs0 := [(.slice _A_a a.length _C_a), (.int .i64 left)]) Try.func18 rfl rfl rfl ?_
  refine W_seq fun _K_1 _hK_1 => ?_
  refine W_region ?_
  refine WL_step rfl rfl (r_assign rfl) ?_
  refine WL_nil ?_
  refine thn_nrm (_hK_1 _ _ ?_)
  clear _hK_1
  refine W_seq fun _K_2 _hK_2 => ?_
  refine W_region ?_
  refine WL_step rfl rfl (r_move rfl) ?_
  refine WL_step rfl rfl (r_move rfl) ?_
  refine WL_step rfl rfl (r_len (by rw [el22]; rfl) rfl) ?_
  refine WL_step rfl rfl (r_sub (by omega) rfl rfl) ?_
  refine WL_step rfl rfl (r_assign rfl) ?_
  refine WL_nil ?_
  refine thn_nrm (_hK_2 _ _ ?_)
  clear _hK_2
  refine W_seq fun _K_3 _hK_3 => ?_
  refine W_seq fun _K_4 _hK_4 => ?_
  refine W_region ?_
  refine WL_step rfl rfl (r_move rfl) ?_
  refine WL_step rfl rfl (r_lss rfl rfl) ?_
  refine WL_nil ?_
  refine thn_nrm (_hK_4 _ _ ?_)
  clear _hK_4
  refine W_cond rfl (fun _h10 => ?_) (fun _h10 => ?_)
  · have _kb_5 := _h10
    have _h10 := bt_d _h10
    refine W_seq fun _K_6 _hK_6 => ?_
    refine W_region ?_
    refine WL_step rfl rfl (r_assign rfl) ?_
    refine WL_nil ?_
    refine thn_nrm (_hK_6 _ _ ?_)
    clear _hK_6
    refine W_ret (thn_ret ?_)
    clear _hK_3
    exact ret_intro [_] ⟨rfl, trivial⟩ ⟨congrArg (Value.int .i64) (if_pos (by omega)).symm, E⟩
  · have _kb_5 := _h10
    have _h10 := bf_d _h10
    refine W_skip ?_
    refine thn_nrm (_hK_3 _ _ ?_)
    clear _hK_3
    refine W_seq fun _K_7 _hK_7 => ?_
    refine W_region ?_
    refine WL_step rfl rfl (r_move rfl) ?_
    refine WL_step rfl rfl (r_assign rfl) ?_
    refine WL_nil ?_
    refine thn_nrm (_hK_7 _ _ ?_)
    clear _hK_7
    refine W_ret ?_
    exact ret_intro [_] ⟨rfl, trivial⟩ ⟨congrArg (Value.int .i64) (if_neg (by omega)).symm, E⟩

/-- laws.szExpr -/
theorem c_laws_szExpr {w : World} {LL_a _B_a : Nat} {_v_a : Value} {a : List Token} (_h_a : Ls Token.cs 4 w LL_a _B_a _v_a a) (left : Int) (hl : left ≤ 1048576) (_h0 : 0 ≤ left) :
    Ctr Try.prog 5 #[(.agg #[_v_a]), (.int .i64 left)] w (fun v w' => v = .int .i64 (if left < a.length then -1 else left - a.length) ∧ Ch [] w w') := by
  obtain ⟨_A_a, _C_a, _e1_a⟩ := _h_a.val
  subst _e1_a
  have _l_a := _h_a.len
  have _h_a := _h_a.here (by decide)
  have E := Ch.refl [] w
  refine Ctr_of_W (N := 12) (vs0 := [(.agg #[(.slice _A_a a.length _C_a)]), (.int .i64 left)]) Try.func5 rfl rfl rfl ?_
  refine W_seq fun _K_1 _hK_1 => ?_
  refine W_region ?_
  refine WL_s rfl rfl ?_
  refine s_box rfl fun _b2 _w_2 _m2 _cw_2 _e2 => ?_
  have _cw_2z := _cw_2.size
  have E := E.trans _cw_2
  have _z2 := _m2.lt
  replace _m2 : Blk _w_2 _b2 24 [(.slice _A_a a.length _C_a)] := _m2
  refine WL_step rfl rfl (r_assign rfl) ?_
  refine WL_nil ?_
  refine thn_nrm (_hK_1 _ _ ?_)
  clear _hK_1
  refine W_seq fun _K_3 _hK_3 => ?_
  refine W_region ?_
  refine WL_step rfl rfl (r_fieldAddr fa24_0 rfl) ?_
  refine WL_step rfl rfl (r_loadAt _m2.at_ agg22 rfl rfl) ?_
  refine WL_step rfl rfl (r_move rfl) ?_
  refine WL_s rfl rfl ?_
  have _f_4 := (_h_a.ch0 _cw_2)
  refine Step.call (r_call (xs := [.tmp 6, .tmp 7]) fk18 rfl) (c_laws_szTokenS _f_4 _ (by omega) (by omega)) fun _v8 _w_5 _q8 => ?_
  obtain ⟨rfl, _cw_5⟩ := _q8
  have _cw_5z := _cw_5.size
  have E := E.trans _cw_5
  refine WL_step rfl rfl (r_assign rfl) ?_
  refine WL_nil ?_
  refine thn_nrm (_hK_3 _ _ ?_)
  clear _hK_3
  refine W_seq fun _K_6 _hK_6 => ?_
  refine W_seq fun _K_7 _hK_7 => ?_
  refine W_region ?_
  refine WL_step rfl rfl (r_move rfl) ?_
  refine WL_step rfl rfl (r_lss rfl rfl) ?_
  refine WL_nil ?_
  refine thn_nrm (_hK_7 _ _ ?_)
  clear _hK_7
  refine W_cond rfl (fun _h10 => ?_) (fun _h10 => ?_)
  · have _kb_8 := _h10
    have _h10 := bt_d _h10
    refine W_seq fun _K_9 _hK_9 => ?_
    refine W_region ?_
    refine WL_step rfl rfl (r_assign rfl) ?_
    refine WL_nil ?_
    refine thn_nrm (_hK_9 _ _ ?_)
    clear _hK_9
    refine W_ret (thn_ret ?_)
    clear _hK_6
    exact ret_intro [_] ⟨rfl, trivial⟩ ⟨congrArg (Value.int .i64) (by split <;> omega), E⟩
  · have _kb_8 := _h10
    have _h10 := bf_d _h10
    refine W_skip ?_
    refine thn_nrm (_hK_6 _ _ ?_)
    clear _hK_6
    refine W_seq fun _K_10 _hK_10 => ?_
    refine W_region ?_
    refine WL_step rfl rfl (r_move rfl) ?_
    refine WL_step rfl rfl (r_assign rfl) ?_
    refine WL_nil ?_
    refine thn_nrm (_hK_10 _ _ ?_)
    clear _hK_10
    refine W_ret ?_
    exact ret_intro [_] ⟨rfl, trivial⟩ ⟨congrArg (Value.int .i64) (by split <;> omega), E⟩

/-- laws.toToken -/
theorem c_laws_toToken {w : World} (a : Token) :
    Ctr Try.prog 41 #[(.agg #[(.int .i64 a.kind), (.int .i64 a.letter), (.int .i64 a.low), (.int .i64 a.high)])] w (fun v w' => v = .agg (Token.cs (a)).toArray ∧ Ch [] w w') := by
  have E := Ch.refl [] w
  refine Ctr_of_W (N := 17) (vs0 := [(.agg #[(.int .i64 a.kind), (.int .i64 a.letter), (.int .i64 a.low), (.int .i64 a.high)])]) Try.func41 rfl rfl rfl ?_
  refine W_seq fun _K_1 _hK_1 => ?_
  refine W_region ?_
  refine WL_s rfl rfl ?_
  refine s_box rfl fun _b1 _w_2 _m1 _cw_2 _e1 => ?_
  have _cw_2z := _cw_2.size
  have E := E.trans _cw_2
  have _z1 := _m1.lt
  replace _m1 : Blk _w_2 _b1 73 [(.int .i64 a.kind), (.int .i64 a.letter), (.int .i64 a.low), (.int .i64 a.high)] := _m1
  refine WL_s rfl rfl ?_
  refine s_alloc zr55 fun _b2 _w_3 _m2 _cw_3 _e2 => ?_
  have _cw_3z := _cw_3.size
  have E := E.trans _cw_3
  have _z2 := _m2.lt
  replace _m2 : Blk _w_3 _b2 55 [(.int .i64 0), (.int .i64 0), (.int .i64 0), (.int .i64 0)] := _m2
  refine WL_nil ?_
  refine thn_nrm (_hK_1 _ _ ?_)
  clear _hK_1
  refine W_seq fun _K_4 _hK_4 => ?_
  refine W_region ?_
  refine WL_s rfl rfl ?_
  refine s_alloc zr55 fun _b3 _w_5 _m3 _cw_5 _e3 => ?_
  have _cw_5z := _cw_5.size
  have E := E.trans _cw_5
  have _z3 := _m3.lt
  replace _m3 : Blk _w_5 _b3 55 [(.int .i64 0), (.int .i64 0), (.int .i64 0), (.int .i64 0)] := _m3
  refine WL_nil ?_
  refine thn_nrm (_hK_4 _ _ ?_)
  clear _hK_4
  refine W_seq fun _K_6 _hK_6 => ?_
  refine W_region ?_
  refine WL_step rfl rfl (r_fieldAddr fa73_0 rfl) ?_
  have _f_7 := ((_m1.ch0 _cw_3).ch0 _cw_5)
  refine WL_step rfl rfl (r_loadAt _f_7.at_ agg3 rfl rfl) ?_
  refine WL_step rfl rfl (r_fieldAddr fa55_0 rfl) ?_
  refine WL_s rfl rfl ?_
  refine s_store1 (off := 0) _m3 sz3 rfl rfl rfl rfl fun _w_8 _m_9 _cw_8 => ?_
  have _cw_8z := _cw_8.size
  have E := E.step _cw_8 (fun i hi => .inl (by have _h1 := List.mem_singleton.1 hi; omega))
  replace _m_9 : Blk _w_8 _b3 55 [(.int .i64 a.kind), (.int .i64 0), (.int .i64 0), (.int .i64 0)] := _m_9
  refine WL_nil ?_
  refine thn_nrm (_hK_6 _ _ ?_)
  clear _hK_6
  refine W_seq fun _K_10 _hK_10 => ?_
  refine W_region ?_
  refine WL_step rfl rfl (r_fieldAddr fa73_1 rfl) ?_
  have _f_11 := (_f_7.ch _cw_8 (fun hm => by have _h1 := List.mem_singleton.1 hm; omega))
  refine WL_step rfl rfl (r_loadAt _f_11.at_ agg3 rfl rfl) ?_
  refine WL_step rfl rfl (r_fieldAddr fa55_1 rfl) ?_
  refine WL_s rfl rfl ?_
  refine s_store1 (off := 1) _m_9 sz3 rfl rfl rfl rfl fun _w_12 _m_13 _cw_12 => ?_
  have _cw_12z := _cw_12.size
  have E := E.step _cw_12 (fun i hi => .inl (by have _h1 := List.mem_singleton.1 hi; omega))
  replace _m_13 : Blk _w_12 _b3 55 [(.int .i64 a.kind), (.int .i64 a.letter), (.int .i64 0), (.int .i64 0)] := _m_13
  refine WL_nil ?_
  refine thn_nrm (_hK_10 _ _ ?_)
  clear _hK_10
  refine W_seq fun _K_14 _hK_14 => ?_
  refine W_region ?_
  refine WL_step rfl rfl (r_fieldAddr fa73_2 rfl) ?_
  have _f_15 := (_f_11.ch _cw_12 (fun hm => by have _h1 := List.mem_singleton.1 hm; omega))
  refine WL_step rfl rfl (r_loadAt _f_15.at_ agg3 rfl rfl) ?_
  refine WL_step rfl rfl (r_fieldAddr fa55_2 rfl) ?_
  refine WL_s rfl rfl ?_
  refine s_store1 (off := 2) _m_13 sz3 rfl rfl rfl rfl fun _w_16 _m_17 _cw_16 => ?_
  have _cw_16z := _cw_16.size
  have E := E.step _cw_16 (fun i hi => .inl (by have _h1 := List.mem_singleton.1 hi; omega))
  replace _m_17 : Blk _w_16 _b3 55 [(.int .i64 a.kind), (.int .i64 a.letter), (.int .i64 a.low), (.int .i64 0)] := _m_17
  refine WL_nil ?_
  refine thn_nrm (_hK_14 _ _ ?_)
  clear _hK_14
  refine W_seq fun _K_18 _hK_18 => ?_
  refine W_region ?_
  refine WL_step rfl rfl (r_fieldAddr fa73_3 rfl) ?_
  have _f_19 := (_f_15.ch _cw_16 (fun hm => by have _h1 := List.mem_singleton.1 hm; omega))
  refine WL_step rfl rfl (r_loadAt _f_19.at_ agg3 rfl rfl) ?_
  refine WL_step rfl rfl (r_fieldAddr fa55_3 rfl) ?_
  refine WL_s rfl rfl ?_
  refine s_store1 (off := 3) _m_17 sz3 rfl rfl rfl rfl fun _w_20 _m_21 _cw_20 => ?_
  have _cw_20z := _cw_20.size
  have E := E.step _cw_20 (fun i hi => .inl (by have _h1 := List.mem_singleton.1 hi; omega))
  replace _m_21 : Blk _w_20 _b3 55 [(.int .i64 a.kind), (.int .i64 a.letter), (.int .i64 a.low), (.int .i64 a.high)] := _m_21
  refine WL_nil ?_
  refine thn_nrm (_hK_18 _ _ ?_)
  clear _hK_18
  refine W_seq fun _K_22 _hK_22 => ?_
  refine W_region ?_
  refine WL_step rfl rfl (r_loadAtA0 _m_21.at_ agg55 sz55 rfl) ?_
  refine WL_s rfl rfl ?_
  have _f_23 := (((((_m2.ch0 _cw_5).ch _cw_8 (fun hm => by have _h1 := List.mem_singleton.1 hm; omega)).ch _cw_12 (fun hm => by have _h1 := List.mem_singleton.1 hm; omega)).ch _cw_16 (fun hm => by have _h1 := List.mem_singleton.1 hm; omega)).ch _cw_20 (fun hm => by have _h1 := List.mem_singleton.1 hm; omega))
  refine s_storeA (off := 0) 4 _f_23 sz55 rfl (us := [(.int .i64 a.kind), (.int .i64 a.letter), (.int .i64 a.low), (.int .i64 a.high)]) rfl rfl rfl rfl fun _w_24 _m_25 _cw_24 => ?_
  have _cw_24z := _cw_24.size
  have E := E.step _cw_24 (fun i hi => .inl (by have _h1 := List.mem_singleton.1 hi; omega))
  replace _m_25 : Blk _w_24 _b2 55 [(.int .i64 a.kind), (.int .i64 a.letter), (.int .i64 a.low), (.int .i64 a.high)] := _m_25
  refine WL_nil ?_
  refine thn_nrm (_hK_22 _ _ ?_)
  clear _hK_22
  refine W_ret ?_
  exact ret_intro [_] (resOf_loadA _m_25 rfl agg55 sz55 trivial) ⟨by simp [packed, Token.cs], E⟩

/-- laws.toTokenS -/
theorem c_laws_toTokenS {w : World} {LL_a _B_a : Nat} {_v_a : Value} {a : List Token} (_h_a : Ls Token.cs 4 w LL_a _B_a _v_a a) (hb : a.length ≤ 1048576) :
    Ctr Try.prog 22 #[_v_a] w (fun v w' => Ol Token.cs 55 4 w' v (a) ∧ Lo w.heap.size v ∧ Ch [] w w') := by
  obtain ⟨_A_a, _C_a, _e1_a⟩ := _h_a.val
  subst _e1_a
  have _l_a := _h_a.len
  have _h_a := _h_a.here (by decide)
  have E := Ch.refl [] w
  refine Ctr_of_W (N := 23) (vs0 := [(.slice _A_a a.length _C_a)]) Try.func22 rfl rfl rfl ?_
  refine W_seq fun _K_1 _hK_1 => ?_
  refine W_region ?_
  refine WL_step rfl rfl (r_assign rfl) ?_
  refine WL_nil ?_
  refine thn_nrm (_hK_1 _ _ ?_)
  clear _hK_1
  refine W_seq fun _K_2 _hK_2 => ?_
  refine W_region ?_
  refine WL_step rfl rfl (r_move rfl) ?_
  refine WL_step rfl rfl (r_len (by rw [el22]; rfl) rfl) ?_
  refine WL_s rfl rfl ?_
  refine s_make (cs := Token.cs) (⟨0, 0, 0, 0⟩ : Token) el28 sz55 by55 zr55 Token.len (by decide) rfl rfl (by omega) (by omega) fun _v7 _w_3 _q7 _lo7 _cw_3 => ?_
  have _cw_3z := _cw_3.size
  have E := E.trans _cw_3
  obtain ⟨_Av7, _Cv7, _ev7⟩ := _q7.val
  subst _ev7
  have _lv7 := _q7.len
  have _hiv7 := _q7.lt
  refine WL_step rfl rfl (r_assign rfl) ?_
  refine WL_nil ?_
  refine thn_nrm (_hK_2 _ _ ?_)
  clear _hK_2
  refine W_seq fun _K_4 _hK_4 => ?_
  refine W_seq fun _K_5 _hK_5 => ?_
  refine W_region ?_
  refine WL_step rfl rfl (r_assign rfl) ?_
  refine WL_nil ?_
  refine thn_nrm (_hK_5 _ _ ?_)
  clear _hK_5
  refine W_block ?_
  have _oi_6 : Ol Token.cs 55 4 _w_3 (.slice _Av7 ((List.replicate a.length (⟨0, 0, 0, 0⟩ : Token))).length _Cv7) (a.take 0 ++ List.replicate (a.length - 0) (⟨0, 0, 0, 0⟩ : Token)) := by
    have hx := _q7
    simpa using hx
  refine W_loop (σ := Nat) (fun (k : Nat) => [(0, (.slice _A_a a.length _C_a)), (2, (.slice none 0 0)), (3, (.slice _Av7 ((List.replicate a.length (⟨0, 0, 0, 0⟩ : Token))).length _Cv7)), (4, (.int .i64 ((k : Nat) : Int)))]) (fun (k : Nat) wx => Ch [] w wx ∧ _w_3.heap.size ≤ wx.heap.size ∧ (k ≤ a.length) ∧ Ol Token.cs 55 4 wx (.slice _Av7 ((List.replicate a.length (⟨0, 0, 0, 0⟩ : Token))).length _Cv7) (a.take k ++ List.replicate (a.length - k) (⟨0, 0, 0, 0⟩ : Token))) (fun (k : Nat) => a.length - k) 0 (Sub.cons rfl (Sub.cons rfl (Sub.cons rfl (Sub.cons rfl (Sub.nil _))))) ⟨E, (Nat.le_refl _), (by omega), _oi_6⟩ ?_
  rintro k _wr_7 ⟨E, _zz0, _hk, _o0_3⟩
  have _E0h := E
  have _E0hz := _E0h.size
  refine W_seq fun _K_8 _hK_8 => ?_
  refine W_seq fun _K_9 _hK_9 => ?_
  refine W_region ?_
  refine WL_step rfl rfl (r_move rfl) ?_
  refine WL_step rfl rfl (r_move rfl) ?_
  refine WL_step rfl rfl (r_len (by rw [el22]; rfl) rfl) ?_
  refine WL_step rfl rfl (r_lss rfl rfl) ?_
  refine WL_nil ?_
  refine thn_nrm (_hK_9 _ _ ?_)
  clear _hK_9
  refine W_cond rfl (fun _h11 => ?_) (fun _h11 => ?_)
  · have _kb_10 := _h11
    have _h11 := bt_d _h11
    refine W_skip ?_
    refine thn_nrm (_hK_8 _ _ ?_)
    clear _hK_8
    refine W_seq fun _K_11 _hK_11 => ?_
    refine W_block ?_
    refine W_region ?_
    refine WL_step rfl rfl (r_move rfl) ?_
    refine WL_step rfl rfl (r_move rfl) ?_
    refine WL_step rfl rfl (r_move rfl) ?_
    refine WL_step rfl rfl (r_move rfl) ?_
    refine WL_s rfl rfl ?_
    have _f_12 := (_h_a.ch0 _E0h)
    refine (s_index _f_12 Token.len el22 sz73 rfl rfl rfl (by omega) fun _p18 _y18 _hy18 _a18 => ?_)
    refine WL_step rfl rfl (r_loadAtA0 _a18 agg73 sz73 rfl) ?_
    refine WL_s rfl rfl ?_
    refine Step.call (r_call (xs := [.tmp 19]) fk41 rfl) (c_laws_toToken _y18 ) fun _v20 _w_13 _q20 => ?_
    obtain ⟨rfl, _cw_13⟩ := _q20
    have _cw_13z := _cw_13.size
    have E := E.trans _cw_13
    refine WL_s rfl rfl ?_
    have _f_14 := (_o0_3.ch0 _cw_13)
    refine s_indexO (j := k) _f_14 el28 sz55 rfl rfl rfl (by simp; omega) fun _g21 _o21 _cp21 _q21 => ?_
    refine WL_s rfl rfl ?_
    refine s_storeO (j := k) _y18 _f_14 _q21 Token.len sz55 rfl rfl rfl rfl (by simp; omega) fun _w_15 _o_16 _cw_15 => ?_
    have _cw_15z := _cw_15.size
    have E := E.step _cw_15 (fun i hi => .inl (by have _h1 := _lo7 _ hi; omega))
    refine WL_nil ?_
    refine inB_nrm ?_
    refine thn_nrm (_hK_11 _ _ ?_)
    clear _hK_11
    refine W_region ?_
    refine WL_step rfl rfl (r_move rfl) ?_
    refine WL_step rfl rfl (r_add (by omega) rfl rfl) ?_
    refine WL_step rfl rfl (r_assign rfl) ?_
    refine WL_nil ?_
    have _on_17 : Ol Token.cs 55 4 _w_15 (.slice _Av7 ((List.replicate a.length (⟨0, 0, 0, 0⟩ : Token))).length _Cv7) (a.take (k + 1) ++ List.replicate (a.length - (k + 1)) (⟨0, 0, 0, 0⟩ : Token)) := by
      have hx := _o_16
      rwa [fill_step a (⟨0, 0, 0, 0⟩ : Token) _hy18] at hx
    exact thn_nrm (Exists.intro (k + 1) ⟨⟨E, (by omega), (by omega), _on_17⟩, Sub.cons rfl (Sub.cons rfl (Sub.cons rfl (Sub.cons rfl (Sub.nil _)))), (by first | omega | (dsimp only; omega))⟩)
  · have _kb_10 := _h11
    have _h11 := bf_d _h11
    refine W_exit (thn_exit (thn_exit (inB_hit ?_)))
    refine thn_nrm (_hK_4 _ _ ?_)
    clear _hK_4
    refine W_seq fun _K_18 _hK_18 => ?_
    refine W_region ?_
    refine WL_step rfl rfl (r_move rfl) ?_
    refine WL_step rfl rfl (r_assign rfl) ?_
    refine WL_nil ?_
    refine thn_nrm (_hK_18 _ _ ?_)
    clear _hK_18
    refine W_ret ?_
    clear _hK_8
    have _o_19 : Ol Token.cs 55 4 _wr_7 (.slice _Av7 ((List.replicate a.length (⟨0, 0, 0, 0⟩ : Token))).length _Cv7) (a) := by
      have hx := _o0_3
      simpa [List.take_of_length_le (show a.length ≤ k by omega), show a.length - k = 0 by omega] using hx
    exact ret_intro [_] ⟨rfl, trivial⟩ ⟨_o_19, Lo.down _lo7 (by omega), E⟩

/-- laws.toExpr -/
theorem c_laws_toExpr {w : World} {LL_a _B_a : Nat} {_v_a : Value} {a : List Token} (_h_a : Ls Token.cs 4 w LL_a _B_a _v_a a) (hb : a.length ≤ 1048576) :
    Ctr Try.prog 7 #[(.agg #[_v_a])] w (fun v w' => ∃ u, v = .agg #[u] ∧ Ol Token.cs 55 4 w' u (a) ∧ Lo w.heap.size u ∧ Ch [] w w') := by
  obtain ⟨_A_a, _C_a, _e1_a⟩ := _h_a.val
  subst _e1_a
  have _l_a := _h_a.len
  have _h_a := _h_a.here (by decide)
  have E := Ch.refl [] w
  refine Ctr_of_W (N := 9) (vs0 := [(.agg #[(.slice _A_a a.length _C_a)])]) Try.func7 rfl rfl rfl ?_
  refine W_seq fun _K_1 _hK_1 => ?_
  refine W_region ?_
  refine WL_s rfl rfl ?_
  refine s_box rfl fun _b1 _w_2 _m1 _cw_2 _e1 => ?_
  have _cw_2z := _cw_2.size
  have E := E.trans _cw_2
  have _z1 := _m1.lt
  replace _m1 : Blk _w_2 _b1 24 [(.slice _A_a a.length _C_a)] := _m1
  refine WL_s rfl rfl ?_
  refine s_alloc zr30 fun _b2 _w_3 _m2 _cw_3 _e2 => ?_
  have _cw_3z := _cw_3.size
  have E := E.trans _cw_3
  have _z2 := _m2.lt
  replace _m2 : Blk _w_3 _b2 30 [(.slice none 0 0)] := _m2
  refine WL_nil ?_
  refine thn_nrm (_hK_1 _ _ ?_)
  clear _hK_1
  refine W_seq fun _K_4 _hK_4 => ?_
  refine W_region ?_
  refine WL_s rfl rfl ?_
  refine s_alloc zr30 fun _b3 _w_5 _m3 _cw_5 _e3 => ?_
  have _cw_5z := _cw_5.size
  have E := E.trans _cw_5
  have _z3 := _m3.lt
  replace _m3 : Blk _w_5 _b3 30 [(.slice none 0 0)] := _m3
  refine WL_nil ?_
  refine thn_nrm (_hK_4 _ _ ?_)
  clear _hK_4
  refine W_seq fun _K_6 _hK_6 => ?_
  refine W_region ?_
  refine WL_step rfl rfl (r_fieldAddr fa24_0 rfl) ?_
  have _f_7 := ((_m1.ch0 _cw_3).ch0 _cw_5)
  refine WL_step rfl rfl (r_loadAt _f_7.at_ agg22 rfl rfl) ?_
  refine WL_s rfl rfl ?_
  have _f_8 := (((_h_a.ch0 _cw_2).ch0 _cw_3).ch0 _cw_5)
  refine Step.call (r_call (xs := [.tmp 5]) fk22 rfl) (c_laws_toTokenS _f_8 (by omega)) fun _v6 _w_9 _q6 => ?_
  obtain ⟨_q6, _lo6, _cw_9⟩ := _q6
  have _cw_9z := _cw_9.size
  have E := E.trans _cw_9
  obtain ⟨_Av6, _Cv6, _ev6⟩ := _q6.val
  subst _ev6
  have _lv6 := _q6.len
  have _hiv6 := _q6.lt
  refine WL_step rfl rfl (r_fieldAddr fa30_0 rfl) ?_
  refine WL_s rfl rfl ?_
  have _f_10 := (_m3.ch0 _cw_9)
  refine s_store1 (off := 0) _f_10 sz28 rfl rfl rfl rfl fun _w_11 _m_12 _cw_11 => ?_
  have _cw_11z := _cw_11.size
  have E := E.step _cw_11 (fun i hi => .inl (by have _h1 := List.mem_singleton.1 hi; omega))
  replace _m_12 : Blk _w_11 _b3 30 [(.slice _Av6 (a).length _Cv6)] := _m_12
  refine WL_nil ?_
  refine thn_nrm (_hK_6 _ _ ?_)
  clear _hK_6
  refine W_seq fun _K_13 _hK_13 => ?_
  refine W_region ?_
  refine WL_step rfl rfl (r_loadAtA0 _m_12.at_ agg30 sz30 rfl) ?_
  refine WL_s rfl rfl ?_
  have _f_14 := (((_m2.ch0 _cw_5).ch0 _cw_9).ch _cw_11 (fun hm => by have _h1 := List.mem_singleton.1 hm; omega))
  refine s_storeA (off := 0) 1 _f_14 sz30 rfl (us := [(.slice _Av6 (a).length _Cv6)]) rfl rfl rfl rfl fun _w_15 _m_16 _cw_15 => ?_
  have _cw_15z := _cw_15.size
  have E := E.step _cw_15 (fun i hi => .inl (by have _h1 := List.mem_singleton.1 hi; omega))
  replace _m_16 : Blk _w_15 _b2 30 [(.slice _Av6 (a).length _Cv6)] := _m_16
  refine WL_nil ?_
  refine thn_nrm (_hK_13 _ _ ?_)
  clear _hK_13
  refine W_ret ?_
  have _f_18 := ((_q6.ch _cw_11 (fun g hg hm => by have _h0 := List.mem_singleton.1 hm; have _h2 := _lo6 _ hg; have _h3 := _hiv6 _ hg; omega)).ch _cw_15 (fun g hg hm => by have _h0 := List.mem_singleton.1 hm; have _h2 := _lo6 _ hg; have _h3 := _hiv6 _ hg; omega))
  have _o_17 : Ol Token.cs 55 4 _w_15 (.slice _Av6 (a).length _Cv6) (a) := by
    have hx := _f_18
    first | exact hx | simpa using hx
  exact ret_intro [_] (resOf_loadA _m_16 rfl agg30 sz30 trivial) ⟨_, rfl, _o_17, Lo.down _lo6 (by omega), E⟩

/-- spec.l1In -/
theorem c_spec_l1In {w : World} (n : Int) (a : Int) (b : Int) :
    Ctr Try.prog 57 #[(.int .i64 n), (.int .i64 a), (.int .i64 b)] w (fun v w' => v = .bool (decide (a ≤ n ∧ n ≤ b)) ∧ Ch [] w w') := by
  have E := Ch.refl [] w
  refine Ctr_of_W (N := 15) (vs0 := [(.int .i64 n), (.int .i64 a), (.int .i64 b)]) Try.func57 rfl rfl rfl ?_
  refine W_seq fun _K_1 _hK_1 => ?_
  refine W_region ?_
  refine WL_step rfl rfl (r_assign rfl) ?_
  refine WL_nil ?_
  refine thn_nrm (_hK_1 _ _ ?_)
  clear _hK_1
  refine W_seq fun _K_2 _hK_2 => ?_
  refine W_region ?_
  refine WL_step rfl rfl (r_move rfl) ?_
  refine WL_step rfl rfl (r_move rfl) ?_
  refine WL_step rfl rfl (r_geq rfl rfl) ?_
  refine WL_step rfl rfl (r_move rfl) ?_
  refine WL_split (d := 10) rfl (fun _h10 => ?_) (fun _h10 => ?_)
  · have _kb_3 := _h10
    have _h10 := bt_d _h10
    refine WL_step rfl rfl (r_move rfl) ?_
    refine WL_step rfl rfl (r_move rfl) ?_
    refine WL_step rfl rfl (r_leq rfl rfl) ?_
    refine WL_step rfl rfl (r_pickT rfl rfl) ?_
    refine WL_step rfl rfl (r_assign rfl) ?_
    refine WL_nil ?_
    refine thn_nrm (_hK_2 _ _ ?_)
    clear _hK_2
    refine W_ret ?_
    exact ret_intro [_] ⟨rfl, trivial⟩ ⟨congrArg Value.bool (by first | rfl | (rw [Bool.eq_iff_iff]; simp <;> omega) | (rw [Bool.eq_iff_iff]; simp_all; done) | simp_all), E⟩
  · have _kb_3 := _h10
    have _h10 := bf_d _h10
    refine WL_skip rfl rfl ?_
    refine WL_skip rfl rfl ?_
    refine WL_skip rfl rfl ?_
    refine WL_step rfl rfl (r_pickF rfl rfl) ?_
    refine WL_step rfl rfl (r_assign rfl) ?_
    refine WL_nil ?_
    refine thn_nrm (_hK_2 _ _ ?_)
    clear _hK_2
    refine W_ret ?_
    exact ret_intro [_] ⟨rfl, trivial⟩ ⟨congrArg Value.bool (by first | rfl | (rw [Bool.eq_iff_iff]; simp <;> omega) | (rw [Bool.eq_iff_iff]; simp_all; done) | simp_all), E⟩

/-- spec.l2Letter -/
theorem c_spec_l2Letter {w : World} (n : Int) :
    Ctr Try.prog 36 #[(.int .i64 n)] w (fun v w' => v = .bool (decide (0 ≤ n ∧ n ≤ 8)) ∧ Ch [] w w') := by
  have E := Ch.refl [] w
  refine Ctr_of_W (N := 5) (vs0 := [(.int .i64 n)]) Try.func36 rfl rfl rfl ?_
  refine W_seq fun _K_1 _hK_1 => ?_
  refine W_region ?_
  refine WL_step rfl rfl (r_assign rfl) ?_
  refine WL_nil ?_
  refine thn_nrm (_hK_1 _ _ ?_)
  clear _hK_1
  refine W_seq fun _K_2 _hK_2 => ?_
  refine W_region ?_
  refine WL_step rfl rfl (r_move rfl) ?_
  refine WL_s rfl rfl ?_
  refine Step.call (r_call (xs := [.tmp 3, .const (Go.Value.int Go.IntKind.i64 0), .const (Go.Value.int Go.IntKind.i64 8)]) fk57 rfl) (c_spec_l1In _ _ _ ) fun _v4 _w_3 _q4 => ?_
  obtain ⟨rfl, _cw_3⟩ := _q4
  have _cw_3z := _cw_3.size
  have E := E.trans _cw_3
  refine WL_step rfl rfl (r_assign rfl) ?_
  refine WL_nil ?_
  refine thn_nrm (_hK_2 _ _ ?_)
  clear _hK_2
  refine W_ret ?_
  exact ret_intro [_] ⟨rfl, trivial⟩ ⟨congrArg Value.bool rfl, E⟩

/-- spec.l8Arity -/
theorem c_spec_l8Arity {w : World} (t : Token) :
    Ctr Try.prog 56 #[(.agg #[(.int .i64 t.kind), (.int .i64 t.letter), (.int .i64 t.low), (.int .i64 t.high)])] w (fun v w' => v = .int .i64 (arT t) ∧ Ch [] w w') := by
  have E := Ch.refl [] w
  refine Ctr_of_W (N := 87) (vs0 := [(.agg #[(.int .i64 t.kind), (.int .i64 t.letter), (.int .i64 t.low), (.int .i64 t.high)])]) Try.func56 rfl rfl rfl ?_
  refine W_seq fun _K_1 _hK_1 => ?_
  refine W_region ?_
  refine WL_s rfl rfl ?_
  refine s_box rfl fun _b1 _w_2 _m1 _cw_2 _e1 => ?_
  have _cw_2z := _cw_2.size
  have E := E.trans _cw_2
  have _z1 := _m1.lt
  replace _m1 : Blk _w_2 _b1 55 [(.int .i64 t.kind), (.int .i64 t.letter), (.int .i64 t.low), (.int .i64 t.high)] := _m1
  refine WL_step rfl rfl (r_assign rfl) ?_
  refine WL_nil ?_
  refine thn_nrm (_hK_1 _ _ ?_)
  clear _hK_1
  refine W_seq fun _K_3 _hK_3 => ?_
  refine W_seq fun _K_4 _hK_4 => ?_
  refine W_region ?_
  refine WL_step rfl rfl (r_fieldAddr fa55_0 rfl) ?_
  refine WL_step rfl rfl (r_loadAt _m1.at_ agg3 rfl rfl) ?_
  refine WL_nil ?_
  refine thn_nrm (_hK_4 _ _ ?_)
  clear _hK_4
  refine W_block ?_
  refine W_seq fun _K_5 _hK_5 => ?_
  refine W_seq fun _K_6 _hK_6 => ?_
  refine W_region ?_
  refine WL_step rfl rfl (r_eql rfl rfl) ?_
  refine WL_step rfl rfl (r_assign rfl) ?_
  refine WL_nil ?_
  refine thn_nrm (_hK_6 _ _ ?_)
  clear _hK_6
  refine W_cond rfl (fun _h5 => ?_) (fun _h5 => ?_)
  · have _kb_7 := _h5
    have _h5 := bt_d _h5
    refine W_skip ?_
    refine thn_nrm (_hK_5 _ _ ?_)
    clear _hK_5
    refine W_condTk rfl _kb_7 ?_
    refine W_seq fun _K_8 _hK_8 => ?_
    refine W_seq fun _K_9 _hK_9 => ?_
    refine W_region ?_
    refine WL_step rfl rfl (r_fieldAddr fa55_1 rfl) ?_
    refine WL_step rfl rfl (r_loadAt _m1.at_ agg3 rfl rfl) ?_
    refine WL_step rfl rfl (r_neq rfl rfl) ?_
    refine WL_step rfl rfl (r_move rfl) ?_
    refine WL_split (d := 11) rfl (fun _h11 => ?_) (fun _h11 => ?_)
    · have _kb_10 := _h11
      have _h11 := bf_d (bt_n _h11)
      refine WL_skip rfl rfl ?_
      refine WL_skip rfl rfl ?_
      refine WL_skip rfl rfl ?_
      refine WL_step rfl rfl (r_pickT rfl rfl) ?_
      refine WL_step rfl rfl (r_move rfl) ?_
      refine WL_skip rfl rfl ?_
      refine WL_skip rfl rfl ?_
      refine WL_skip rfl rfl ?_
      refine WL_step rfl rfl (r_pickT rfl rfl) ?_
      refine WL_nil ?_
      refine thn_nrm (_hK_9 _ _ ?_)
      clear _hK_9
      refine W_condT rfl ?_
      refine W_seq fun _K_11 _hK_11 => ?_
      refine W_region ?_
      refine WL_step rfl rfl (r_assign rfl) ?_
      refine WL_nil ?_
      refine thn_nrm (_hK_11 _ _ ?_)
      clear _hK_11
      refine W_ret (thn_ret (inB_ret (thn_ret ?_)))
      clear _hK_3 _hK_8
      exact ret_intro [_] ⟨rfl, trivial⟩ ⟨congrArg (Value.int .i64) (by unfold arT; repeat (first | rw [if_pos (by omega)] | rw [if_neg (by omega)])), E⟩
    · have _kb_10 := _h11
      have _h11 := bt_d (bf_n _h11)
      refine WL_step rfl rfl (r_fieldAddr fa55_2 rfl) ?_
      refine WL_step rfl rfl (r_loadAt _m1.at_ agg3 rfl rfl) ?_
      refine WL_step rfl rfl (r_neq rfl rfl) ?_
      refine WL_step rfl rfl (r_pickF rfl rfl) ?_
      refine WL_step rfl rfl (r_move rfl) ?_
      refine WL_split (d := 16) rfl (fun _h16 => ?_) (fun _h16 => ?_)
      · have _kb_12 := _h16
        have _h16 := bf_d (bt_n _h16)
        refine WL_skip rfl rfl ?_
        refine WL_skip rfl rfl ?_
        refine WL_skip rfl rfl ?_
        refine WL_step rfl rfl (r_pickT rfl rfl) ?_
        refine WL_nil ?_
        refine thn_nrm (_hK_9 _ _ ?_)
        clear _hK_9
        refine W_condT rfl ?_
        refine W_seq fun _K_13 _hK_13 => ?_
        refine W_region ?_
        refine WL_step rfl rfl (r_assign rfl) ?_
        refine WL_nil ?_
        refine thn_nrm (_hK_13 _ _ ?_)
        clear _hK_13
        refine W_ret (thn_ret (inB_ret (thn_ret ?_)))
        clear _hK_3 _hK_8
        exact ret_intro [_] ⟨rfl, trivial⟩ ⟨congrArg (Value.int .i64) (by unfold arT; repeat (first | rw [if_pos (by omega)] | rw [if_neg (by omega)])), E⟩
      · have _kb_12 := _h16
        have _h16 := bt_d (bf_n _h16)
        refine WL_step rfl rfl (r_fieldAddr fa55_3 rfl) ?_
        refine WL_step rfl rfl (r_loadAt _m1.at_ agg3 rfl rfl) ?_
        refine WL_step rfl rfl (r_neq rfl rfl) ?_
        refine WL_step rfl rfl (r_pickF rfl rfl) ?_
        refine WL_nil ?_
        refine thn_nrm (_hK_9 _ _ ?_)
        clear _hK_9
        refine W_cond rfl (fun _h20 => ?_) (fun _h20 => ?_)
        · have _kb_14 := _h20
          have _h20 := bf_d (bt_n _h20)
          refine W_seq fun _K_15 _hK_15 => ?_
          refine W_region ?_
          refine WL_step rfl rfl (r_assign rfl) ?_
          refine WL_nil ?_
          refine thn_nrm (_hK_15 _ _ ?_)
          clear _hK_15
          refine W_ret (thn_ret (inB_ret (thn_ret ?_)))
          clear _hK_3 _hK_8
          exact ret_intro [_] ⟨rfl, trivial⟩ ⟨congrArg (Value.int .i64) (by unfold arT; repeat (first | rw [if_pos (by omega)] | rw [if_neg (by omega)])), E⟩
        · have _kb_14 := _h20
          have _h20 := bt_d (bf_n _h20)
          refine W_skip ?_
          refine thn_nrm (_hK_8 _ _ ?_)
          clear _hK_8
          refine W_seq fun _K_16 _hK_16 => ?_
          refine W_region ?_
          refine WL_step rfl rfl (r_assign rfl) ?_
          refine WL_nil ?_
          refine thn_nrm (_hK_16 _ _ ?_)
          clear _hK_16
          refine W_ret (inB_ret (thn_ret ?_))
          clear _hK_3
          exact ret_intro [_] ⟨rfl, trivial⟩ ⟨congrArg (Value.int .i64) (by unfold arT; repeat (first | rw [if_pos (by omega)] | rw [if_neg (by omega)])), E⟩
  · have _kb_7 := _h5
    have _h5 := bf_d _h5
    refine W_region ?_
    refine WL_step rfl rfl (r_eql rfl rfl) ?_
    refine WL_step rfl rfl (r_assign rfl) ?_
    refine WL_nil ?_
    refine thn_nrm (_hK_5 _ _ ?_)
    clear _hK_5
    refine W_cond rfl (fun _h5 => ?_) (fun _h5 => ?_)
    · have _kb_17 := _h5
      have _h5 := bt_d _h5
      refine W_seq fun _K_18 _hK_18 => ?_
      refine W_seq fun _K_19 _hK_19 => ?_
      refine W_region ?_
      refine WL_step rfl rfl (r_fieldAddr fa55_1 rfl) ?_
      refine WL_step rfl rfl (r_loadAt _m1.at_ agg3 rfl rfl) ?_
      refine WL_step rfl rfl (r_neq rfl rfl) ?_
      refine WL_step rfl rfl (r_move rfl) ?_
      refine WL_split (d := 11) rfl (fun _h11 => ?_) (fun _h11 => ?_)
      · have _kb_20 := _h11
        have _h11 := bf_d (bt_n _h11)
        refine WL_skip rfl rfl ?_
        refine WL_skip rfl rfl ?_
        refine WL_skip rfl rfl ?_
        refine WL_step rfl rfl (r_pickT rfl rfl) ?_
        refine WL_step rfl rfl (r_move rfl) ?_
        refine WL_skip rfl rfl ?_
        refine WL_skip rfl rfl ?_
        refine WL_skip rfl rfl ?_
        refine WL_step rfl rfl (r_pickT rfl rfl) ?_
        refine WL_nil ?_
        refine thn_nrm (_hK_19 _ _ ?_)
        clear _hK_19
        refine W_condT rfl ?_
        refine W_seq fun _K_21 _hK_21 => ?_
        refine W_region ?_
        refine WL_step rfl rfl (r_assign rfl) ?_
        refine WL_nil ?_
        refine thn_nrm (_hK_21 _ _ ?_)
        clear _hK_21
        refine W_ret (thn_ret (inB_ret (thn_ret ?_)))
        clear _hK_3 _hK_18
        exact ret_intro [_] ⟨rfl, trivial⟩ ⟨congrArg (Value.int .i64) (by unfold arT; repeat (first | rw [if_pos (by omega)] | rw [if_neg (by omega)])), E⟩
      · have _kb_20 := _h11
        have _h11 := bt_d (bf_n _h11)
        refine WL_step rfl rfl (r_fieldAddr fa55_2 rfl) ?_
        refine WL_step rfl rfl (r_loadAt _m1.at_ agg3 rfl rfl) ?_
        refine WL_step rfl rfl (r_neq rfl rfl) ?_
        refine WL_step rfl rfl (r_pickF rfl rfl) ?_
        refine WL_step rfl rfl (r_move rfl) ?_
        refine WL_split (d := 16) rfl (fun _h16 => ?_) (fun _h16 => ?_)
        · have _kb_22 := _h16
          have _h16 := bf_d (bt_n _h16)
          refine WL_skip rfl rfl ?_
          refine WL_skip rfl rfl ?_
          refine WL_skip rfl rfl ?_
          refine WL_step rfl rfl (r_pickT rfl rfl) ?_
          refine WL_nil ?_
          refine thn_nrm (_hK_19 _ _ ?_)
          clear _hK_19
          refine W_condT rfl ?_
          refine W_seq fun _K_23 _hK_23 => ?_
          refine W_region ?_
          refine WL_step rfl rfl (r_assign rfl) ?_
          refine WL_nil ?_
          refine thn_nrm (_hK_23 _ _ ?_)
          clear _hK_23
          refine W_ret (thn_ret (inB_ret (thn_ret ?_)))
          clear _hK_3 _hK_18
          exact ret_intro [_] ⟨rfl, trivial⟩ ⟨congrArg (Value.int .i64) (by unfold arT; repeat (first | rw [if_pos (by omega)] | rw [if_neg (by omega)])), E⟩
        · have _kb_22 := _h16
          have _h16 := bt_d (bf_n _h16)
          refine WL_step rfl rfl (r_fieldAddr fa55_3 rfl) ?_
          refine WL_step rfl rfl (r_loadAt _m1.at_ agg3 rfl rfl) ?_
          refine WL_step rfl rfl (r_neq rfl rfl) ?_
          refine WL_step rfl rfl (r_pickF rfl rfl) ?_
          refine WL_nil ?_
          refine thn_nrm (_hK_19 _ _ ?_)
          clear _hK_19
          refine W_cond rfl (fun _h20 => ?_) (fun _h20 => ?_)
          · have _kb_24 := _h20
            have _h20 := bf_d (bt_n _h20)
            refine W_seq fun _K_25 _hK_25 => ?_
            refine W_region ?_
            refine WL_step rfl rfl (r_assign rfl) ?_
            refine WL_nil ?_
            refine thn_nrm (_hK_25 _ _ ?_)
            clear _hK_25
            refine W_ret (thn_ret (inB_ret (thn_ret ?_)))
            clear _hK_3 _hK_18
            exact ret_intro [_] ⟨rfl, trivial⟩ ⟨congrArg (Value.int .i64) (by unfold arT; repeat (first | rw [if_pos (by omega)] | rw [if_neg (by omega)])), E⟩
          · have _kb_24 := _h20
            have _h20 := bt_d (bf_n _h20)
            refine W_skip ?_
            refine thn_nrm (_hK_18 _ _ ?_)
            clear _hK_18
            refine W_seq fun _K_26 _hK_26 => ?_
            refine W_region ?_
            refine WL_step rfl rfl (r_assign rfl) ?_
            refine WL_nil ?_
            refine thn_nrm (_hK_26 _ _ ?_)
            clear _hK_26
            refine W_ret (inB_ret (thn_ret ?_))
            clear _hK_3
            exact ret_intro [_] ⟨rfl, trivial⟩ ⟨congrArg (Value.int .i64) (by unfold arT; repeat (first | rw [if_pos (by omega)] | rw [if_neg (by omega)])), E⟩
    · have _kb_17 := _h5
      have _h5 := bf_d _h5
      refine W_seq fun _K_27 _hK_27 => ?_
      refine W_region ?_
      refine WL_step rfl rfl (r_eql rfl rfl) ?_
      refine WL_step rfl rfl (r_assign rfl) ?_
      refine WL_nil ?_
      refine thn_nrm (_hK_27 _ _ ?_)
      clear _hK_27
      refine W_cond rfl (fun _h21 => ?_) (fun _h21 => ?_)
      · have _kb_28 := _h21
        have _h21 := bt_d _h21
        refine W_seq fun _K_29 _hK_29 => ?_
        refine W_seq fun _K_30 _hK_30 => ?_
        refine W_region ?_
        refine WL_step rfl rfl (r_fieldAddr fa55_1 rfl) ?_
        refine WL_step rfl rfl (r_loadAt _m1.at_ agg3 rfl rfl) ?_
        refine WL_s rfl rfl ?_
        refine Step.call (r_call (xs := [.tmp 24]) fk36 rfl) (c_spec_l2Letter _ ) fun _v25 _w_31 _q25 => ?_
        obtain ⟨rfl, _cw_31⟩ := _q25
        have _cw_31z := _cw_31.size
        have E := E.trans _cw_31
        refine WL_step rfl rfl (r_not rfl) ?_
        refine WL_step rfl rfl (r_move rfl) ?_
        refine WL_split (d := 27) rfl (fun _h27 => ?_) (fun _h27 => ?_)
        · have _kb_32 := _h27
          have _h27 := bf_d (bt_n _h27)
          refine WL_skip rfl rfl ?_
          refine WL_skip rfl rfl ?_
          refine WL_skip rfl rfl ?_
          refine WL_step rfl rfl (r_pickT rfl rfl) ?_
          refine WL_step rfl rfl (r_move rfl) ?_
          refine WL_skip rfl rfl ?_
          refine WL_skip rfl rfl ?_
          refine WL_skip rfl rfl ?_
          refine WL_step rfl rfl (r_pickT rfl rfl) ?_
          refine WL_nil ?_
          refine thn_nrm (_hK_30 _ _ ?_)
          clear _hK_30
          refine W_condT rfl ?_
          refine W_seq fun _K_33 _hK_33 => ?_
          refine W_region ?_
          refine WL_step rfl rfl (r_assign rfl) ?_
          refine WL_nil ?_
          refine thn_nrm (_hK_33 _ _ ?_)
          clear _hK_33
          refine W_ret (thn_ret (inB_ret (thn_ret ?_)))
          clear _hK_3 _hK_29
          exact ret_intro [_] ⟨rfl, trivial⟩ ⟨congrArg (Value.int .i64) (by unfold arT; repeat (first | rw [if_pos (by omega)] | rw [if_neg (by omega)])), E⟩
        · have _kb_32 := _h27
          have _h27 := bt_d (bf_n _h27)
          refine WL_step rfl rfl (r_fieldAddr fa55_2 rfl) ?_
          have _f_34 := (_m1.ch0 _cw_31)
          refine WL_step rfl rfl (r_loadAt _f_34.at_ agg3 rfl rfl) ?_
          refine WL_step rfl rfl (r_neq rfl rfl) ?_
          refine WL_step rfl rfl (r_pickF rfl rfl) ?_
          refine WL_step rfl rfl (r_move rfl) ?_
          refine WL_split (d := 32) rfl (fun _h32 => ?_) (fun _h32 => ?_)
          · have _kb_35 := _h32
            have _h32 := bf_d (bt_n _h32)
            refine WL_skip rfl rfl ?_
            refine WL_skip rfl rfl ?_
            refine WL_skip rfl rfl ?_
            refine WL_step rfl rfl (r_pickT rfl rfl) ?_
            refine WL_nil ?_
            refine thn_nrm (_hK_30 _ _ ?_)
            clear _hK_30
            refine W_condT rfl ?_
            refine W_seq fun _K_36 _hK_36 => ?_
            refine W_region ?_
            refine WL_step rfl rfl (r_assign rfl) ?_
            refine WL_nil ?_
            refine thn_nrm (_hK_36 _ _ ?_)
            clear _hK_36
            refine W_ret (thn_ret (inB_ret (thn_ret ?_)))
            clear _hK_3 _hK_29
            exact ret_intro [_] ⟨rfl, trivial⟩ ⟨congrArg (Value.int .i64) (by unfold arT; repeat (first | rw [if_pos (by omega)] | rw [if_neg (by omega)])), E⟩
          · have _kb_35 := _h32
            have _h32 := bt_d (bf_n _h32)
            refine WL_step rfl rfl (r_fieldAddr fa55_3 rfl) ?_
            refine WL_step rfl rfl (r_loadAt _f_34.at_ agg3 rfl rfl) ?_
            refine WL_step rfl rfl (r_neq rfl rfl) ?_
            refine WL_step rfl rfl (r_pickF rfl rfl) ?_
            refine WL_nil ?_
            refine thn_nrm (_hK_30 _ _ ?_)
            clear _hK_30
            refine W_cond rfl (fun _h36 => ?_) (fun _h36 => ?_)
            · have _kb_37 := _h36
              have _h36 := bf_d (bt_n _h36)
              refine W_seq fun _K_38 _hK_38 => ?_
              refine W_region ?_
              refine WL_step rfl rfl (r_assign rfl) ?_
              refine WL_nil ?_
              refine thn_nrm (_hK_38 _ _ ?_)
              clear _hK_38
              refine W_ret (thn_ret (inB_ret (thn_ret ?_)))
              clear _hK_3 _hK_29
              exact ret_intro [_] ⟨rfl, trivial⟩ ⟨congrArg (Value.int .i64) (by unfold arT; repeat (first | rw [if_pos (by omega)] | rw [if_neg (by omega)])), E⟩
            · have _kb_37 := _h36
              have _h36 := bt_d (bf_n _h36)
              refine W_skip ?_
              refine thn_nrm (_hK_29 _ _ ?_)
              clear _hK_29
              refine W_seq fun _K_39 _hK_39 => ?_
              refine W_region ?_
              refine WL_step rfl rfl (r_assign rfl) ?_
              refine WL_nil ?_
              refine thn_nrm (_hK_39 _ _ ?_)
              clear _hK_39
              refine W_ret (inB_ret (thn_ret ?_))
              clear _hK_3
              exact ret_intro [_] ⟨rfl, trivial⟩ ⟨congrArg (Value.int .i64) (by unfold arT; repeat (first | rw [if_pos (by omega)] | rw [if_neg (by omega)])), E⟩
      · have _kb_28 := _h21
        have _h21 := bf_d _h21
        refine W_seq fun _K_40 _hK_40 => ?_
        refine W_seq fun _K_41 _hK_41 => ?_
        refine W_region ?_
        refine WL_step rfl rfl (r_eql rfl rfl) ?_
        refine WL_step rfl rfl (r_assign rfl) ?_
        refine WL_nil ?_
        refine thn_nrm (_hK_41 _ _ ?_)
        clear _hK_41
        refine W_cond rfl (fun _h37 => ?_) (fun _h37 => ?_)
        · have _kb_42 := _h37
          have _h37 := bt_d _h37
          refine W_skip ?_
          refine thn_nrm (_hK_40 _ _ ?_)
          clear _hK_40
          refine W_condTk rfl _kb_42 ?_
          refine W_seq fun _K_43 _hK_43 => ?_
          refine W_seq fun _K_44 _hK_44 => ?_
          refine W_region ?_
          refine WL_step rfl rfl (r_fieldAddr fa55_1 rfl) ?_
          refine WL_step rfl rfl (r_loadAt _m1.at_ agg3 rfl rfl) ?_
          refine WL_step rfl rfl (r_neq rfl rfl) ?_
          refine WL_step rfl rfl (r_move rfl) ?_
          refine WL_split (d := 43) rfl (fun _h43 => ?_) (fun _h43 => ?_)
          · have _kb_45 := _h43
            have _h43 := bf_d (bt_n _h43)
            refine WL_skip rfl rfl ?_
            refine WL_skip rfl rfl ?_
            refine WL_skip rfl rfl ?_
            refine WL_step rfl rfl (r_pickT rfl rfl) ?_
            refine WL_step rfl rfl (r_move rfl) ?_
            refine WL_skip rfl rfl ?_
            refine WL_skip rfl rfl ?_
            refine WL_skip rfl rfl ?_
            refine WL_step rfl rfl (r_pickT rfl rfl) ?_
            refine WL_nil ?_
            refine thn_nrm (_hK_44 _ _ ?_)
            clear _hK_44
            refine W_condT rfl ?_
            refine W_seq fun _K_46 _hK_46 => ?_
            refine W_region ?_
            refine WL_step rfl rfl (r_assign rfl) ?_
            refine WL_nil ?_
            refine thn_nrm (_hK_46 _ _ ?_)
            clear _hK_46
            refine W_ret (thn_ret (inB_ret (thn_ret ?_)))
            clear _hK_3 _hK_43
            exact ret_intro [_] ⟨rfl, trivial⟩ ⟨congrArg (Value.int .i64) (by unfold arT; repeat (first | rw [if_pos (by omega)] | rw [if_neg (by omega)])), E⟩
          · have _kb_45 := _h43
            have _h43 := bt_d (bf_n _h43)
            refine WL_step rfl rfl (r_fieldAddr fa55_2 rfl) ?_
            refine WL_step rfl rfl (r_loadAt _m1.at_ agg3 rfl rfl) ?_
            refine WL_step rfl rfl (r_neq rfl rfl) ?_
            refine WL_step rfl rfl (r_pickF rfl rfl) ?_
            refine WL_step rfl rfl (r_move rfl) ?_
            refine WL_split (d := 48) rfl (fun _h48 => ?_) (fun _h48 => ?_)
            · have _kb_47 := _h48
              have _h48 := bf_d (bt_n _h48)
              refine WL_skip rfl rfl ?_
              refine WL_skip rfl rfl ?_
              refine WL_skip rfl rfl ?_
              refine WL_step rfl rfl (r_pickT rfl rfl) ?_
              refine WL_nil ?_
              refine thn_nrm (_hK_44 _ _ ?_)
              clear _hK_44
              refine W_condT rfl ?_
              refine W_seq fun _K_48 _hK_48 => ?_
              refine W_region ?_
              refine WL_step rfl rfl (r_assign rfl) ?_
              refine WL_nil ?_
              refine thn_nrm (_hK_48 _ _ ?_)
              clear _hK_48
              refine W_ret (thn_ret (inB_ret (thn_ret ?_)))
              clear _hK_3 _hK_43
              exact ret_intro [_] ⟨rfl, trivial⟩ ⟨congrArg (Value.int .i64) (by unfold arT; repeat (first | rw [if_pos (by omega)] | rw [if_neg (by omega)])), E⟩
            · have _kb_47 := _h48
              have _h48 := bt_d (bf_n _h48)
              refine WL_step rfl rfl (r_fieldAddr fa55_3 rfl) ?_
              refine WL_step rfl rfl (r_loadAt _m1.at_ agg3 rfl rfl) ?_
              refine WL_step rfl rfl (r_neq rfl rfl) ?_
              refine WL_step rfl rfl (r_pickF rfl rfl) ?_
              refine WL_nil ?_
              refine thn_nrm (_hK_44 _ _ ?_)
              clear _hK_44
              refine W_cond rfl (fun _h52 => ?_) (fun _h52 => ?_)
              · have _kb_49 := _h52
                have _h52 := bf_d (bt_n _h52)
                refine W_seq fun _K_50 _hK_50 => ?_
                refine W_region ?_
                refine WL_step rfl rfl (r_assign rfl) ?_
                refine WL_nil ?_
                refine thn_nrm (_hK_50 _ _ ?_)
                clear _hK_50
                refine W_ret (thn_ret (inB_ret (thn_ret ?_)))
                clear _hK_3 _hK_43
                exact ret_intro [_] ⟨rfl, trivial⟩ ⟨congrArg (Value.int .i64) (by unfold arT; repeat (first | rw [if_pos (by omega)] | rw [if_neg (by omega)])), E⟩
              · have _kb_49 := _h52
                have _h52 := bt_d (bf_n _h52)
                refine W_skip ?_
                refine thn_nrm (_hK_43 _ _ ?_)
                clear _hK_43
                refine W_seq fun _K_51 _hK_51 => ?_
                refine W_region ?_
                refine WL_step rfl rfl (r_assign rfl) ?_
                refine WL_nil ?_
                refine thn_nrm (_hK_51 _ _ ?_)
                clear _hK_51
                refine W_ret (inB_ret (thn_ret ?_))
                clear _hK_3
                exact ret_intro [_] ⟨rfl, trivial⟩ ⟨congrArg (Value.int .i64) (by unfold arT; repeat (first | rw [if_pos (by omega)] | rw [if_neg (by omega)])), E⟩
        · have _kb_42 := _h37
          have _h37 := bf_d _h37
          refine W_region ?_
          refine WL_step rfl rfl (r_eql rfl rfl) ?_
          refine WL_step rfl rfl (r_assign rfl) ?_
          refine WL_nil ?_
          refine thn_nrm (_hK_40 _ _ ?_)
          clear _hK_40
          refine W_cond rfl (fun _h37 => ?_) (fun _h37 => ?_)
          · have _kb_52 := _h37
            have _h37 := bt_d _h37
            refine W_seq fun _K_53 _hK_53 => ?_
            refine W_seq fun _K_54 _hK_54 => ?_
            refine W_region ?_
            refine WL_step rfl rfl (r_fieldAddr fa55_1 rfl) ?_
            refine WL_step rfl rfl (r_loadAt _m1.at_ agg3 rfl rfl) ?_
            refine WL_step rfl rfl (r_neq rfl rfl) ?_
            refine WL_step rfl rfl (r_move rfl) ?_
            refine WL_split (d := 43) rfl (fun _h43 => ?_) (fun _h43 => ?_)
            · have _kb_55 := _h43
              have _h43 := bf_d (bt_n _h43)
              refine WL_skip rfl rfl ?_
              refine WL_skip rfl rfl ?_
              refine WL_skip rfl rfl ?_
              refine WL_step rfl rfl (r_pickT rfl rfl) ?_
              refine WL_step rfl rfl (r_move rfl) ?_
              refine WL_skip rfl rfl ?_
              refine WL_skip rfl rfl ?_
              refine WL_skip rfl rfl ?_
              refine WL_step rfl rfl (r_pickT rfl rfl) ?_
              refine WL_nil ?_
              refine thn_nrm (_hK_54 _ _ ?_)
              clear _hK_54
              refine W_condT rfl ?_
              refine W_seq fun _K_56 _hK_56 => ?_
              refine W_region ?_
              refine WL_step rfl rfl (r_assign rfl) ?_
              refine WL_nil ?_
              refine thn_nrm (_hK_56 _ _ ?_)
              clear _hK_56
              refine W_ret (thn_ret (inB_ret (thn_ret ?_)))
              clear _hK_3 _hK_53
              exact ret_intro [_] ⟨rfl, trivial⟩ ⟨congrArg (Value.int .i64) (by unfold arT; repeat (first | rw [if_pos (by omega)] | rw [if_neg (by omega)])), E⟩
            · have _kb_55 := _h43
              have _h43 := bt_d (bf_n _h43)
              refine WL_step rfl rfl (r_fieldAddr fa55_2 rfl) ?_
              refine WL_step rfl rfl (r_loadAt _m1.at_ agg3 rfl rfl) ?_
              refine WL_step rfl rfl (r_neq rfl rfl) ?_
              refine WL_step rfl rfl (r_pickF rfl rfl) ?_
              refine WL_step rfl rfl (r_move rfl) ?_
              refine WL_split (d := 48) rfl (fun _h48 => ?_) (fun _h48 => ?_)
              · have _kb_57 := _h48
                have _h48 := bf_d (bt_n _h48)
                refine WL_skip rfl rfl ?_
                refine WL_skip rfl rfl ?_
                refine WL_skip rfl rfl ?_
                refine WL_step rfl rfl (r_pickT rfl rfl) ?_
                refine WL_nil ?_
                refine thn_nrm (_hK_54 _ _ ?_)
                clear _hK_54
                refine W_condT rfl ?_
                refine W_seq fun _K_58 _hK_58 => ?_
                refine W_region ?_
                refine WL_step rfl rfl (r_assign rfl) ?_
                refine WL_nil ?_
                refine thn_nrm (_hK_58 _ _ ?_)
                clear _hK_58
                refine W_ret (thn_ret (inB_ret (thn_ret ?_)))
                clear _hK_3 _hK_53
                exact ret_intro [_] ⟨rfl, trivial⟩ ⟨congrArg (Value.int .i64) (by unfold arT; repeat (first | rw [if_pos (by omega)] | rw [if_neg (by omega)])), E⟩
              · have _kb_57 := _h48
                have _h48 := bt_d (bf_n _h48)
                refine WL_step rfl rfl (r_fieldAddr fa55_3 rfl) ?_
                refine WL_step rfl rfl (r_loadAt _m1.at_ agg3 rfl rfl) ?_
                refine WL_step rfl rfl (r_neq rfl rfl) ?_
                refine WL_step rfl rfl (r_pickF rfl rfl) ?_
                refine WL_nil ?_
                refine thn_nrm (_hK_54 _ _ ?_)
                clear _hK_54
                refine W_cond rfl (fun _h52 => ?_) (fun _h52 => ?_)
                · have _kb_59 := _h52
                  have _h52 := bf_d (bt_n _h52)
                  refine W_seq fun _K_60 _hK_60 => ?_
                  refine W_region ?_
                  refine WL_step rfl rfl (r_assign rfl) ?_
                  refine WL_nil ?_
                  refine thn_nrm (_hK_60 _ _ ?_)
                  clear _hK_60
                  refine W_ret (thn_ret (inB_ret (thn_ret ?_)))
                  clear _hK_3 _hK_53
                  exact ret_intro [_] ⟨rfl, trivial⟩ ⟨congrArg (Value.int .i64) (by unfold arT; repeat (first | rw [if_pos (by omega)] | rw [if_neg (by omega)])), E⟩
                · have _kb_59 := _h52
                  have _h52 := bt_d (bf_n _h52)
                  refine W_skip ?_
                  refine thn_nrm (_hK_53 _ _ ?_)
                  clear _hK_53
                  refine W_seq fun _K_61 _hK_61 => ?_
                  refine W_region ?_
                  refine WL_step rfl rfl (r_assign rfl) ?_
                  refine WL_nil ?_
                  refine thn_nrm (_hK_61 _ _ ?_)
                  clear _hK_61
                  refine W_ret (inB_ret (thn_ret ?_))
                  clear _hK_3
                  exact ret_intro [_] ⟨rfl, trivial⟩ ⟨congrArg (Value.int .i64) (by unfold arT; repeat (first | rw [if_pos (by omega)] | rw [if_neg (by omega)])), E⟩
          · have _kb_52 := _h37
            have _h37 := bf_d _h37
            refine W_seq fun _K_62 _hK_62 => ?_
            refine W_region ?_
            refine WL_step rfl rfl (r_eql rfl rfl) ?_
            refine WL_step rfl rfl (r_assign rfl) ?_
            refine WL_nil ?_
            refine thn_nrm (_hK_62 _ _ ?_)
            clear _hK_62
            refine W_cond rfl (fun _h53 => ?_) (fun _h53 => ?_)
            · have _kb_63 := _h53
              have _h53 := bt_d _h53
              refine W_seq fun _K_64 _hK_64 => ?_
              refine W_seq fun _K_65 _hK_65 => ?_
              refine W_region ?_
              refine WL_step rfl rfl (r_fieldAddr fa55_1 rfl) ?_
              refine WL_step rfl rfl (r_loadAt _m1.at_ agg3 rfl rfl) ?_
              refine WL_step rfl rfl (r_neq rfl rfl) ?_
              refine WL_step rfl rfl (r_move rfl) ?_
              refine WL_split (d := 58) rfl (fun _h58 => ?_) (fun _h58 => ?_)
              · have _kb_66 := _h58
                have _h58 := bf_d (bt_n _h58)
                refine WL_skip rfl rfl ?_
                refine WL_skip rfl rfl ?_
                refine WL_skip rfl rfl ?_
                refine WL_step rfl rfl (r_pickT rfl rfl) ?_
                refine WL_step rfl rfl (r_move rfl) ?_
                refine WL_skip rfl rfl ?_
                refine WL_skip rfl rfl ?_
                refine WL_skip rfl rfl ?_
                refine WL_step rfl rfl (r_pickT rfl rfl) ?_
                refine WL_nil ?_
                refine thn_nrm (_hK_65 _ _ ?_)
                clear _hK_65
                refine W_condT rfl ?_
                refine W_seq fun _K_67 _hK_67 => ?_
                refine W_region ?_
                refine WL_step rfl rfl (r_assign rfl) ?_
                refine WL_nil ?_
                refine thn_nrm (_hK_67 _ _ ?_)
                clear _hK_67
                refine W_ret (thn_ret (inB_ret (thn_ret ?_)))
                clear _hK_3 _hK_64
                exact ret_intro [_] ⟨rfl, trivial⟩ ⟨congrArg (Value.int .i64) (by unfold arT; repeat (first | rw [if_pos (by omega)] | rw [if_neg (by omega)])), E⟩
              · have _kb_66 := _h58
                have _h58 := bt_d (bf_n _h58)
                refine WL_step rfl rfl (r_fieldAddr fa55_2 rfl) ?_
                refine WL_step rfl rfl (r_loadAt _m1.at_ agg3 rfl rfl) ?_
                refine WL_step rfl rfl (r_neq rfl rfl) ?_
                refine WL_step rfl rfl (r_pickF rfl rfl) ?_
                refine WL_step rfl rfl (r_move rfl) ?_
                refine WL_split (d := 63) rfl (fun _h63 => ?_) (fun _h63 => ?_)
                · have _kb_68 := _h63
                  have _h63 := bf_d (bt_n _h63)
                  refine WL_skip rfl rfl ?_
                  refine WL_skip rfl rfl ?_
                  refine WL_skip rfl rfl ?_
                  refine WL_step rfl rfl (r_pickT rfl rfl) ?_
                  refine WL_nil ?_
                  refine thn_nrm (_hK_65 _ _ ?_)
                  clear _hK_65
                  refine W_condT rfl ?_
                  refine W_seq fun _K_69 _hK_69 => ?_
                  refine W_region ?_
                  refine WL_step rfl rfl (r_assign rfl) ?_
                  refine WL_nil ?_
                  refine thn_nrm (_hK_69 _ _ ?_)
                  clear _hK_69
                  refine W_ret (thn_ret (inB_ret (thn_ret ?_)))
                  clear _hK_3 _hK_64
                  exact ret_intro [_] ⟨rfl, trivial⟩ ⟨congrArg (Value.int .i64) (by unfold arT; repeat (first | rw [if_pos (by omega)] | rw [if_neg (by omega)])), E⟩
                · have _kb_68 := _h63
                  have _h63 := bt_d (bf_n _h63)
                  refine WL_step rfl rfl (r_fieldAddr fa55_3 rfl) ?_
                  refine WL_step rfl rfl (r_loadAt _m1.at_ agg3 rfl rfl) ?_
                  refine WL_step rfl rfl (r_neq rfl rfl) ?_
                  refine WL_step rfl rfl (r_pickF rfl rfl) ?_
                  refine WL_nil ?_
                  refine thn_nrm (_hK_65 _ _ ?_)
                  clear _hK_65
                  refine W_cond rfl (fun _h67 => ?_) (fun _h67 => ?_)
                  · have _kb_70 := _h67
                    have _h67 := bf_d (bt_n _h67)
                    refine W_seq fun _K_71 _hK_71 => ?_
                    refine W_region ?_
                    refine WL_step rfl rfl (r_assign rfl) ?_
                    refine WL_nil ?_
                    refine thn_nrm (_hK_71 _ _ ?_)
                    clear _hK_71
                    refine W_ret (thn_ret (inB_ret (thn_ret ?_)))
                    clear _hK_3 _hK_64
                    exact ret_intro [_] ⟨rfl, trivial⟩ ⟨congrArg (Value.int .i64) (by unfold arT; repeat (first | rw [if_pos (by omega)] | rw [if_neg (by omega)])), E⟩
                  · have _kb_70 := _h67
                    have _h67 := bt_d (bf_n _h67)
                    refine W_skip ?_
                    refine thn_nrm (_hK_64 _ _ ?_)
                    clear _hK_64
                    refine W_seq fun _K_72 _hK_72 => ?_
                    refine W_region ?_
                    refine WL_step rfl rfl (r_assign rfl) ?_
                    refine WL_nil ?_
                    refine thn_nrm (_hK_72 _ _ ?_)
                    clear _hK_72
                    refine W_ret (inB_ret (thn_ret ?_))
                    clear _hK_3
                    exact ret_intro [_] ⟨rfl, trivial⟩ ⟨congrArg (Value.int .i64) (by unfold arT; repeat (first | rw [if_pos (by omega)] | rw [if_neg (by omega)])), E⟩
            · have _kb_63 := _h53
              have _h53 := bf_d _h53
              refine W_seq fun _K_73 _hK_73 => ?_
              refine W_region ?_
              refine WL_step rfl rfl (r_eql rfl rfl) ?_
              refine WL_step rfl rfl (r_assign rfl) ?_
              refine WL_nil ?_
              refine thn_nrm (_hK_73 _ _ ?_)
              clear _hK_73
              refine W_cond rfl (fun _h68 => ?_) (fun _h68 => ?_)
              · have _kb_74 := _h68
                have _h68 := bt_d _h68
                refine W_seq fun _K_75 _hK_75 => ?_
                refine W_seq fun _K_76 _hK_76 => ?_
                refine W_region ?_
                refine WL_step rfl rfl (r_fieldAddr fa55_1 rfl) ?_
                refine WL_step rfl rfl (r_loadAt _m1.at_ agg3 rfl rfl) ?_
                refine WL_step rfl rfl (r_neq rfl rfl) ?_
                refine WL_step rfl rfl (r_move rfl) ?_
                refine WL_split (d := 73) rfl (fun _h73 => ?_) (fun _h73 => ?_)
                · have _kb_77 := _h73
                  have _h73 := bf_d (bt_n _h73)
                  refine WL_skip rfl rfl ?_
                  refine WL_skip rfl rfl ?_
                  refine WL_skip rfl rfl ?_
                  refine WL_skip rfl rfl ?_
                  refine WL_step rfl rfl (r_pickT rfl rfl) ?_
                  refine WL_step rfl rfl (r_move rfl) ?_
                  refine WL_skip rfl rfl ?_
                  refine WL_skip rfl rfl ?_
                  refine WL_skip rfl rfl ?_
                  refine WL_skip rfl rfl ?_
                  refine WL_skip rfl rfl ?_
                  refine WL_skip rfl rfl ?_
                  refine WL_step rfl rfl (r_pickT rfl rfl) ?_
                  refine WL_nil ?_
                  refine thn_nrm (_hK_76 _ _ ?_)
                  clear _hK_76
                  refine W_condT rfl ?_
                  refine W_seq fun _K_78 _hK_78 => ?_
                  refine W_region ?_
                  refine WL_step rfl rfl (r_assign rfl) ?_
                  refine WL_nil ?_
                  refine thn_nrm (_hK_78 _ _ ?_)
                  clear _hK_78
                  refine W_ret (thn_ret (inB_ret (thn_ret ?_)))
                  clear _hK_3 _hK_75
                  exact ret_intro [_] ⟨rfl, trivial⟩ ⟨congrArg (Value.int .i64) (by unfold arT; repeat (first | rw [if_pos (by omega)] | rw [if_neg (by omega)])), E⟩
                · have _kb_77 := _h73
                  have _h73 := bt_d (bf_n _h73)
                  refine WL_step rfl rfl (r_fieldAddr fa55_3 rfl) ?_
                  refine WL_step rfl rfl (r_loadAt _m1.at_ agg3 rfl rfl) ?_
                  refine WL_s rfl rfl ?_
                  refine Step.call (r_call (xs := [.tmp 75, .const (Go.Value.int Go.IntKind.i64 1), .const (Go.Value.int Go.IntKind.i64 3)]) fk57 rfl) (c_spec_l1In _ _ _ ) fun _v76 _w_79 _q76 => ?_
                  obtain ⟨rfl, _cw_79⟩ := _q76
                  have _cw_79z := _cw_79.size
                  have E := E.trans _cw_79
                  refine WL_step rfl rfl (r_not rfl) ?_
                  refine WL_step rfl rfl (r_pickF rfl rfl) ?_
                  refine WL_step rfl rfl (r_move rfl) ?_
                  refine WL_split (d := 79) rfl (fun _h79 => ?_) (fun _h79 => ?_)
                  · have _kb_80 := _h79
                    have _h79 := bf_d (bt_n _h79)
                    refine WL_skip rfl rfl ?_
                    refine WL_skip rfl rfl ?_
                    refine WL_skip rfl rfl ?_
                    refine WL_skip rfl rfl ?_
                    refine WL_skip rfl rfl ?_
                    refine WL_skip rfl rfl ?_
                    refine WL_step rfl rfl (r_pickT rfl rfl) ?_
                    refine WL_nil ?_
                    refine thn_nrm (_hK_76 _ _ ?_)
                    clear _hK_76
                    refine W_condT rfl ?_
                    refine W_seq fun _K_81 _hK_81 => ?_
                    refine W_region ?_
                    refine WL_step rfl rfl (r_assign rfl) ?_
                    refine WL_nil ?_
                    refine thn_nrm (_hK_81 _ _ ?_)
                    clear _hK_81
                    refine W_ret (thn_ret (inB_ret (thn_ret ?_)))
                    clear _hK_3 _hK_75
                    exact ret_intro [_] ⟨rfl, trivial⟩ ⟨congrArg (Value.int .i64) (by unfold arT; repeat (first | rw [if_pos (by omega)] | rw [if_neg (by omega)])), E⟩
                  · have _kb_80 := _h79
                    have _h79 := bt_d (bf_n _h79)
                    refine WL_step rfl rfl (r_fieldAddr fa55_2 rfl) ?_
                    have _f_82 := (_m1.ch0 _cw_79)
                    refine WL_step rfl rfl (r_loadAt _f_82.at_ agg3 rfl rfl) ?_
                    refine WL_step rfl rfl (r_fieldAddr fa55_3 rfl) ?_
                    refine WL_step rfl rfl (r_loadAt _f_82.at_ agg3 rfl rfl) ?_
                    refine WL_s rfl rfl ?_
                    refine Step.call (r_call (xs := [.tmp 81, .const (Go.Value.int Go.IntKind.i64 0), .tmp 83]) fk57 rfl) (c_spec_l1In _ _ _ ) fun _v84 _w_83 _q84 => ?_
                    obtain ⟨rfl, _cw_83⟩ := _q84
                    have _cw_83z := _cw_83.size
                    have E := E.trans _cw_83
                    refine WL_step rfl rfl (r_not rfl) ?_
                    refine WL_step rfl rfl (r_pickF rfl rfl) ?_
                    refine WL_nil ?_
                    refine thn_nrm (_hK_76 _ _ ?_)
                    clear _hK_76
                    refine W_cond rfl (fun _h86 => ?_) (fun _h86 => ?_)
                    · have _kb_84 := _h86
                      have _h86 := bf_d (bt_n _h86)
                      refine W_seq fun _K_85 _hK_85 => ?_
                      refine W_region ?_
                      refine WL_step rfl rfl (r_assign rfl) ?_
                      refine WL_nil ?_
                      refine thn_nrm (_hK_85 _ _ ?_)
                      clear _hK_85
                      refine W_ret (thn_ret (inB_ret (thn_ret ?_)))
                      clear _hK_3 _hK_75
                      exact ret_intro [_] ⟨rfl, trivial⟩ ⟨congrArg (Value.int .i64) (by unfold arT; repeat (first | rw [if_pos (by omega)] | rw [if_neg (by omega)])), E⟩
                    · have _kb_84 := _h86
                      have _h86 := bt_d (bf_n _h86)
                      refine W_skip ?_
                      refine thn_nrm (_hK_75 _ _ ?_)
                      clear _hK_75
                      refine W_seq fun _K_86 _hK_86 => ?_
                      refine W_region ?_
                      refine WL_step rfl rfl (r_assign rfl) ?_
                      refine WL_nil ?_
                      refine thn_nrm (_hK_86 _ _ ?_)
                      clear _hK_86
                      refine W_ret (inB_ret (thn_ret ?_))
                      clear _hK_3
                      exact ret_intro [_] ⟨rfl, trivial⟩ ⟨congrArg (Value.int .i64) (by unfold arT; repeat (first | rw [if_pos (by omega)] | rw [if_neg (by omega)])), E⟩
              · have _kb_74 := _h68
                have _h68 := bf_d _h68
                refine W_skip ?_
                refine inB_nrm ?_
                refine thn_nrm (_hK_3 _ _ ?_)
                clear _hK_3
                refine W_seq fun _K_87 _hK_87 => ?_
                refine W_region ?_
                refine WL_step rfl rfl (r_assign rfl) ?_
                refine WL_nil ?_
                refine thn_nrm (_hK_87 _ _ ?_)
                clear _hK_87
                refine W_ret ?_
                exact ret_intro [_] ⟨rfl, trivial⟩ ⟨congrArg (Value.int .i64) (by unfold arT; repeat (first | rw [if_pos (by omega)] | rw [if_neg (by omega)])), E⟩

/-- spec.IsExpr -/
theorem c_spec_IsExpr {w : World} {LL_e _B_e : Nat} {_v_e : Value} {e : List Token} (_h_e : Ls Token.cs 4 w LL_e _B_e _v_e e) :
    Ctr Try.prog 35 #[(.agg #[_v_e])] w (fun v w' => v = .bool (isE e) ∧ Ch [] w w') := by
  obtain ⟨_A_e, _C_e, _e1_e⟩ := _h_e.val
  subst _e1_e
  have _l_e := _h_e.len
  have _h_e := _h_e.here (by decide)
  have E := Ch.refl [] w
  refine Ctr_of_W (N := 32) (vs0 := [(.agg #[(.slice _A_e e.length _C_e)])]) Try.func35 rfl rfl rfl ?_
  refine W_seq fun _K_1 _hK_1 => ?_
  refine W_region ?_
  refine WL_s rfl rfl ?_
  refine s_box rfl fun _b1 _w_2 _m1 _cw_2 _e1 => ?_
  have _cw_2z := _cw_2.size
  have E := E.trans _cw_2
  have _z1 := _m1.lt
  replace _m1 : Blk _w_2 _b1 30 [(.slice _A_e e.length _C_e)] := _m1
  refine WL_step rfl rfl (r_assign rfl) ?_
  refine WL_nil ?_
  refine thn_nrm (_hK_1 _ _ ?_)
  clear _hK_1
  refine W_seq fun _K_3 _hK_3 => ?_
  refine W_region ?_
  refine WL_step rfl rfl (r_assign rfl) ?_
  refine WL_nil ?_
  refine thn_nrm (_hK_3 _ _ ?_)
  clear _hK_3
  refine W_seq fun _K_4 _hK_4 => ?_
  refine W_seq fun _K_5 _hK_5 => ?_
  refine W_region ?_
  refine WL_step rfl rfl (r_assign rfl) ?_
  refine WL_nil ?_
  refine thn_nrm (_hK_5 _ _ ?_)
  clear _hK_5
  refine W_block ?_
  refine W_loop (σ := Nat × Int × List Tr) (fun ⟨i, d, st⟩ => [(1, (.pointer (some ⟨_b1, 0, none⟩))), (3, (.int .i64 d)), (4, (.int .i64 ((i : Nat) : Int)))]) (fun ⟨i, d, st⟩ wx => Ch [] w wx ∧ _w_2.heap.size ≤ wx.heap.size ∧ (i ≤ e.length) ∧ (d = st.length) ∧ (st.length ≤ i) ∧ (prs [] (e.take i) = some st) ∧ Blk wx _b1 30 [(.slice _A_e e.length _C_e)]) (fun ⟨i, d, st⟩ => e.length - i) (0, 0, ([] : List Tr)) (Sub.cons rfl (Sub.cons rfl (Sub.cons rfl (Sub.nil _)))) ⟨E, (Nat.le_refl _), (by omega), rfl, (Nat.le_refl _), rfl, _m1⟩ ?_
  rintro ⟨i, d, st⟩ _wr_6 ⟨E, _zz0, hi, hd, hs, hp, _F0_0⟩
  have _E0h := E
  have _E0hz := _E0h.size
  have _F0_0z := _F0_0.lt
  refine W_seq fun _K_7 _hK_7 => ?_
  refine W_seq fun _K_8 _hK_8 => ?_
  refine W_region ?_
  refine WL_step rfl rfl (r_move rfl) ?_
  refine WL_step rfl rfl (r_fieldAddr fa30_0 rfl) ?_
  refine WL_step rfl rfl (r_loadAt _F0_0.at_ agg28 rfl rfl) ?_
  refine WL_step rfl rfl (r_len (by rw [el28]; rfl) rfl) ?_
  refine WL_step rfl rfl (r_lss rfl rfl) ?_
  refine WL_nil ?_
  refine thn_nrm (_hK_8 _ _ ?_)
  clear _hK_8
  refine W_cond rfl (fun _h10 => ?_) (fun _h10 => ?_)
  · have _kb_9 := _h10
    have _h10 := bt_d _h10
    refine W_skip ?_
    refine thn_nrm (_hK_7 _ _ ?_)
    clear _hK_7
    refine W_seq fun _K_10 _hK_10 => ?_
    refine W_block ?_
    refine W_seq fun _K_11 _hK_11 => ?_
    refine W_region ?_
    refine WL_step rfl rfl (r_fieldAddr fa30_0 rfl) ?_
    refine WL_step rfl rfl (r_loadAt _F0_0.at_ agg28 rfl rfl) ?_
    refine WL_step rfl rfl (r_move rfl) ?_
    refine WL_s rfl rfl ?_
    have _f_12 := (_h_e.ch0 _E0h)
    refine (s_index _f_12 Token.len el28 sz55 rfl rfl rfl (by omega) fun _p16 _y16 _hy16 _a16 => ?_)
    refine WL_step rfl rfl (r_loadAtA0 _a16 agg55 sz55 rfl) ?_
    refine WL_s rfl rfl ?_
    refine Step.call (r_call (xs := [.tmp 17]) fk56 rfl) (c_spec_l8Arity _y16 ) fun _v18 _w_13 _q18 => ?_
    obtain ⟨rfl, _cw_13⟩ := _q18
    have _cw_13z := _cw_13.size
    have E := E.trans _cw_13
    have _a18 := arT_cases _y16
    refine WL_step rfl rfl (r_assign rfl) ?_
    refine WL_nil ?_
    refine thn_nrm (_hK_11 _ _ ?_)
    clear _hK_11
    refine W_seq fun _K_14 _hK_14 => ?_
    refine W_seq fun _K_15 _hK_15 => ?_
    refine W_region ?_
    refine WL_step rfl rfl (r_move rfl) ?_
    refine WL_step rfl rfl (r_lss rfl rfl) ?_
    refine WL_step rfl rfl (r_move rfl) ?_
    refine WL_split (d := 21) rfl (fun _h21 => ?_) (fun _h21 => ?_)
    · have _kb_16 := _h21
      have _h21 := bt_d _h21
      refine WL_skip rfl rfl ?_
      refine WL_skip rfl rfl ?_
      refine WL_skip rfl rfl ?_
      refine WL_step rfl rfl (r_pickT rfl rfl) ?_
      refine WL_nil ?_
      refine thn_nrm (_hK_15 _ _ ?_)
      clear _hK_15
      refine W_condT rfl ?_
      refine W_seq fun _K_17 _hK_17 => ?_
      refine W_region ?_
      refine WL_step rfl rfl (r_assign rfl) ?_
      refine WL_nil ?_
      refine thn_nrm (_hK_17 _ _ ?_)
      clear _hK_17
      refine W_ret (thn_ret (inB_ret (thn_ret (thn_ret (inB_ret (thn_ret ?_))))))
      clear _hK_4 _hK_10 _hK_14
      exact ret_intro [_] ⟨rfl, trivial⟩ ⟨congrArg Value.bool (by first | (rw [isE_end hp (by omega), hd]; done) | exact isE_none (isE_no hp _hy16 (push_no (by omega)))), E⟩
    · have _kb_16 := _h21
      have _h21 := bf_d _h21
      refine WL_step rfl rfl (r_move rfl) ?_
      refine WL_step rfl rfl (r_move rfl) ?_
      refine WL_step rfl rfl (r_gtr rfl rfl) ?_
      refine WL_step rfl rfl (r_pickF rfl rfl) ?_
      refine WL_nil ?_
      refine thn_nrm (_hK_15 _ _ ?_)
      clear _hK_15
      refine W_cond rfl (fun _h25 => ?_) (fun _h25 => ?_)
      · have _kb_18 := _h25
        have _h25 := bt_d _h25
        refine W_seq fun _K_19 _hK_19 => ?_
        refine W_region ?_
        refine WL_step rfl rfl (r_assign rfl) ?_
        refine WL_nil ?_
        refine thn_nrm (_hK_19 _ _ ?_)
        clear _hK_19
        refine W_ret (thn_ret (inB_ret (thn_ret (thn_ret (inB_ret (thn_ret ?_))))))
        clear _hK_4 _hK_10 _hK_14
        exact ret_intro [_] ⟨rfl, trivial⟩ ⟨congrArg Value.bool (by first | (rw [isE_end hp (by omega), hd]; done) | exact isE_none (isE_no hp _hy16 (push_no (by omega)))), E⟩
      · have _kb_18 := _h25
        have _h25 := bf_d _h25
        refine W_skip ?_
        refine thn_nrm (_hK_14 _ _ ?_)
        clear _hK_14
        refine W_region ?_
        refine WL_step rfl rfl (r_move rfl) ?_
        refine WL_step rfl rfl (r_move rfl) ?_
        refine WL_step rfl rfl (r_sub (by omega) rfl rfl) ?_
        refine WL_step rfl rfl (r_add (by omega) rfl rfl) ?_
        refine WL_step rfl rfl (r_assign rfl) ?_
        refine WL_nil ?_
        refine inB_nrm ?_
        refine thn_nrm (_hK_10 _ _ ?_)
        clear _hK_10
        refine W_region ?_
        refine WL_step rfl rfl (r_move rfl) ?_
        refine WL_step rfl rfl (r_add (by omega) rfl rfl) ?_
        refine WL_step rfl rfl (r_assign rfl) ?_
        refine WL_nil ?_
        obtain ⟨s2, _p2, _l2⟩ := push_yes (t := _y16) (st := st) (by omega) (by omega)
        have _f_20 := (_F0_0.ch0 _cw_13)
        exact thn_nrm (Exists.intro ((i + 1), ((d - arT _y16) + 1), s2) ⟨⟨E, (by omega), (by omega), (by omega), (by omega), ((prs_snoc hp _hy16).trans _p2), _f_20⟩, Sub.cons rfl (Sub.cons rfl (Sub.cons rfl (Sub.nil _))), (by first | omega | (dsimp only; omega))⟩)
  · have _kb_9 := _h10
    have _h10 := bf_d _h10
    refine W_exit (thn_exit (thn_exit (inB_hit ?_)))
    refine thn_nrm (_hK_4 _ _ ?_)
    clear _hK_4
    refine W_seq fun _K_21 _hK_21 => ?_
    refine W_region ?_
    refine WL_step rfl rfl (r_move rfl) ?_
    refine WL_step rfl rfl (r_eql rfl rfl) ?_
    refine WL_step rfl rfl (r_assign rfl) ?_
    refine WL_nil ?_
    refine thn_nrm (_hK_21 _ _ ?_)
    clear _hK_21
    refine W_ret ?_
    clear _hK_7
    exact ret_intro [_] ⟨rfl, trivial⟩ ⟨congrArg Value.bool (by first | (rw [isE_end hp (by omega), hd]; done) | exact isE_none (isE_no hp _hy16 (push_no (by omega)))), E⟩

/-- spec.IsValidExpr -/
theorem c_spec_IsValidExpr {w : World} {LL_e _B_e : Nat} {_v_e : Value} {e : List Token} (_h_e : Ls Token.cs 4 w LL_e _B_e _v_e e) :
    Ctr Try.prog 19 #[(.agg #[_v_e])] w (fun v w' => v = .bool (ivE e) ∧ Ch [] w w') := by
  obtain ⟨_A_e, _C_e, _e1_e⟩ := _h_e.val
  subst _e1_e
  have _l_e := _h_e.len
  have _h_e := _h_e.here (by decide)
  have E := Ch.refl [] w
  refine Ctr_of_W (N := 11) (vs0 := [(.agg #[(.slice _A_e e.length _C_e)])]) Try.func19 rfl rfl rfl ?_
  refine W_seq fun _K_1 _hK_1 => ?_
  refine W_region ?_
  refine WL_s rfl rfl ?_
  refine s_box rfl fun _b1 _w_2 _m1 _cw_2 _e1 => ?_
  have _cw_2z := _cw_2.size
  have E := E.trans _cw_2
  have _z1 := _m1.lt
  replace _m1 : Blk _w_2 _b1 30 [(.slice _A_e e.length _C_e)] := _m1
  refine WL_step rfl rfl (r_assign rfl) ?_
  refine WL_nil ?_
  refine thn_nrm (_hK_1 _ _ ?_)
  clear _hK_1
  refine W_seq fun _K_3 _hK_3 => ?_
  refine W_region ?_
  refine WL_step rfl rfl (r_fieldAddr fa30_0 rfl) ?_
  refine WL_step rfl rfl (r_loadAt _m1.at_ agg28 rfl rfl) ?_
  refine WL_step rfl rfl (r_len (by rw [el28]; rfl) rfl) ?_
  refine WL_step rfl rfl (r_leq rfl rfl) ?_
  refine WL_step rfl rfl (r_move rfl) ?_
  refine WL_split (d := 7) rfl (fun _h7 => ?_) (fun _h7 => ?_)
  · have _kb_4 := _h7
    have _h7 := bt_d _h7
    refine WL_step rfl rfl (r_loadAtA0 _m1.at_ agg30 sz30 rfl) ?_
    refine WL_s rfl rfl ?_
    have _f_5 := (_h_e.ch0 _cw_2)
    refine Step.call (r_call (xs := [.tmp 8]) fk35 rfl) (c_spec_IsExpr _f_5 ) fun _v9 _w_6 _q9 => ?_
    obtain ⟨rfl, _cw_6⟩ := _q9
    have _cw_6z := _cw_6.size
    have E := E.trans _cw_6
    refine WL_step rfl rfl (r_pickT rfl rfl) ?_
    refine WL_step rfl rfl (r_assign rfl) ?_
    refine WL_nil ?_
    refine thn_nrm (_hK_3 _ _ ?_)
    clear _hK_3
    refine W_ret ?_
    exact ret_intro [_] ⟨rfl, trivial⟩ ⟨congrArg Value.bool (by unfold ivE; first | (rw [decide_eq_true (by omega)]; rfl) | (rw [decide_eq_false (by omega)]; rfl)), E⟩
  · have _kb_4 := _h7
    have _h7 := bf_d _h7
    refine WL_skip rfl rfl ?_
    refine WL_skip rfl rfl ?_
    refine WL_step rfl rfl (r_pickF rfl rfl) ?_
    refine WL_step rfl rfl (r_assign rfl) ?_
    refine WL_nil ?_
    refine thn_nrm (_hK_3 _ _ ?_)
    clear _hK_3
    refine W_ret ?_
    exact ret_intro [_] ⟨rfl, trivial⟩ ⟨congrArg Value.bool (by unfold ivE; first | (rw [decide_eq_true (by omega)]; rfl) | (rw [decide_eq_false (by omega)]; rfl)), E⟩

/-- spec.l8Copy -/
theorem c_spec_l8Copy {w : World} {LL_l _B_l : Nat} {_v_l : Value} {l : List Token} (_h_l : Ls Token.cs 4 w LL_l _B_l _v_l l) (hb : l.length ≤ 4194304) :
    Ctr Try.prog 66 #[_v_l] w (fun v w' => ∃ u, v = .agg #[u] ∧ Ol Token.cs 55 4 w' u (l) ∧ Lo w.heap.size u ∧ Ch [] w w') := by
  obtain ⟨_A_l, _C_l, _e1_l⟩ := _h_l.val
  subst _e1_l
  have _l_l := _h_l.len
  have _h_l := _h_l.here (by decide)
  have E := Ch.refl [] w
  refine Ctr_of_W (N := 7) (vs0 := [(.slice _A_l l.length _C_l)]) Try.func66 rfl rfl rfl ?_
  refine W_seq fun _K_1 _hK_1 => ?_
  refine W_region ?_
  refine WL_s rfl rfl ?_
  refine s_alloc zr30 fun _b2 _w_2 _m2 _cw_2 _e2 => ?_
  have _cw_2z := _cw_2.size
  have E := E.trans _cw_2
  have _z2 := _m2.lt
  replace _m2 : Blk _w_2 _b2 30 [(.slice none 0 0)] := _m2
  refine WL_nil ?_
  refine thn_nrm (_hK_1 _ _ ?_)
  clear _hK_1
  refine W_seq fun _K_3 _hK_3 => ?_
  refine W_region ?_
  refine WL_s rfl rfl ?_
  refine s_buildSlice0 (k := 4) Token.cs el28 sz55 fun _v3 _w_4 _q3 _lo3 _cw_4 => ?_
  have _cw_4z := _cw_4.size
  have E := E.trans _cw_4
  obtain ⟨_Av3, _Cv3, _ev3⟩ := _q3.val
  subst _ev3
  have _lv3 := _q3.len
  have _hiv3 := _q3.lt
  refine WL_step rfl rfl (r_move rfl) ?_
  refine WL_s rfl rfl ?_
  have _f_6 := ((_h_l.ch0 _cw_2).ch0 _cw_4)
  refine s_append (cs := Token.cs) el28 sz55 by55 zr55 rfl (by decide) Token.one _q3 _f_6 rfl rfl (by first | omega | (simp only [List.length_append, List.length_nil, List.length_cons, List.length_replicate, List.length_set, List.length_reverse, List.length_map] at *; omega) | (simp at *; omega)) (by first | omega | (simp only [List.length_append, List.length_nil, List.length_cons, List.length_replicate, List.length_set, List.length_reverse, List.length_map] at *; omega) | (simp at *; omega)) _lo3 (by omega) fun _v5 _w_5 _q5 _lo5 _ap5 _cw_5 => ?_
  have _cw_5z := _cw_5.size
  have E := E.step _cw_5 (fun i hi => .inl (by have _h1 := _lo3 _ hi; omega))
  replace _q5 : Ol Token.cs 55 4 _w_5 _v5 l := _q5
  obtain ⟨_Av5, _Cv5, _ev5⟩ := _q5.val
  subst _ev5
  have _lv5 := _q5.len
  have _hiv5 := _q5.lt
  refine WL_step rfl rfl (r_build (parts := [(0, .tmp 5)]) (cells := [(.slice _Av5 (l).length _Cv5)]) zr30 pl30 rfl rfl) ?_
  refine WL_s rfl rfl ?_
  have _f_7 := ((_m2.ch0 _cw_4).ch _cw_5 (fun hm => by have _h1 := _lo3 _ hm; have _h2 := _hiv3 _ hm; omega))
  refine s_storeA (off := 0) 1 _f_7 sz30 rfl (us := [(.slice _Av5 (l).length _Cv5)]) rfl rfl rfl rfl fun _w_8 _m_9 _cw_8 => ?_
  have _cw_8z := _cw_8.size
  have E := E.step _cw_8 (fun i hi => .inl (by have _h1 := List.mem_singleton.1 hi; omega))
  replace _m_9 : Blk _w_8 _b2 30 [(.slice _Av5 (l).length _Cv5)] := _m_9
  refine WL_nil ?_
  refine thn_nrm (_hK_3 _ _ ?_)
  clear _hK_3
  refine W_ret ?_
  have _f_11 := (_q5.ch _cw_8 (fun g hg hm => by have _h0 := List.mem_singleton.1 hm; rcases _ap5 with ea | ea; (rw [ea] at hg; have _h2 := _lo3 _ hg; have _h3 := _hiv3 _ hg; omega); (rw [ea] at hg; have _z1 := List.mem_singleton.1 hg; omega)))
  have _o_10 : Ol Token.cs 55 4 _w_8 (.slice _Av5 (l).length _Cv5) (l) := by
    have hx := _f_11
    first | exact hx | simpa using hx
  exact ret_intro [_] (resOf_loadA _m_9 rfl agg30 sz30 trivial) ⟨_, rfl, _o_10, Lo.down _lo5 (by omega), E⟩

/-- spec.l8Join -/
theorem c_spec_l8Join {w : World} {LL_a _B_a : Nat} {_v_a : Value} {a : List Token} (_h_a : Ls Token.cs 4 w LL_a _B_a _v_a a) {LL_b _B_b : Nat} {_v_b : Value} {b : List Token} (_h_b : Ls Token.cs 4 w LL_b _B_b _v_b b) (t : Token) (hb : a.length + b.length ≤ 4194304) :
    Ctr Try.prog 62 #[(.agg #[_v_a]), (.agg #[_v_b]), (.agg #[(.int .i64 t.kind), (.int .i64 t.letter), (.int .i64 t.low), (.int .i64 t.high)])] w (fun v w' => ∃ u, v = .agg #[u] ∧ Ol Token.cs 55 4 w' u (a ++ b ++ [t]) ∧ Lo w.heap.size u ∧ Ch [] w w') := by
  obtain ⟨_A_a, _C_a, _e1_a⟩ := _h_a.val
  subst _e1_a
  have _l_a := _h_a.len
  have _h_a := _h_a.here (by decide)
  obtain ⟨_A_b, _C_b, _e1_b⟩ := _h_b.val
  subst _e1_b
  have _l_b := _h_b.len
  have _h_b := _h_b.here (by decide)
  have E := Ch.refl [] w
  refine Ctr_of_W (N := 24) (vs0 := [(.agg #[(.slice _A_a a.length _C_a)]), (.agg #[(.slice _A_b b.length _C_b)]), (.agg #[(.int .i64 t.kind), (.int .i64 t.letter), (.int .i64 t.low), (.int .i64 t.high)])]) Try.func62 rfl rfl rfl ?_
  refine W_seq fun _K_1 _hK_1 => ?_
  refine W_region ?_
  refine WL_s rfl rfl ?_
  refine s_box rfl fun _b3 _w_2 _m3 _cw_2 _e3 => ?_
  have _cw_2z := _cw_2.size
  have E := E.trans _cw_2
  have _z3 := _m3.lt
  replace _m3 : Blk _w_2 _b3 30 [(.slice _A_a a.length _C_a)] := _m3
  refine WL_s rfl rfl ?_
  refine s_box rfl fun _b4 _w_3 _m4 _cw_3 _e4 => ?_
  have _cw_3z := _cw_3.size
  have E := E.trans _cw_3
  have _z4 := _m4.lt
  replace _m4 : Blk _w_3 _b4 30 [(.slice _A_b b.length _C_b)] := _m4
  refine WL_s rfl rfl ?_
  refine s_box rfl fun _b5 _w_4 _m5 _cw_4 _e5 => ?_
  have _cw_4z := _cw_4.size
  have E := E.trans _cw_4
  have _z5 := _m5.lt
  replace _m5 : Blk _w_4 _b5 55 [(.int .i64 t.kind), (.int .i64 t.letter), (.int .i64 t.low), (.int .i64 t.high)] := _m5
  refine WL_s rfl rfl ?_
  refine s_alloc zr30 fun _b6 _w_5 _m6 _cw_5 _e6 => ?_
  have _cw_5z := _cw_5.size
  have E := E.trans _cw_5
  have _z6 := _m6.lt
  replace _m6 : Blk _w_5 _b6 30 [(.slice none 0 0)] := _m6
  refine WL_nil ?_
  refine thn_nrm (_hK_1 _ _ ?_)
  clear _hK_1
  refine W_seq fun _K_6 _hK_6 => ?_
  refine W_region ?_
  refine WL_step rfl rfl (r_fieldAddr fa30_0 rfl) ?_
  have _f_7 := (((_m3.ch0 _cw_3).ch0 _cw_4).ch0 _cw_5)
  refine WL_step rfl rfl (r_loadAt _f_7.at_ agg28 rfl rfl) ?_
  refine WL_s rfl rfl ?_
  have _f_8 := ((((_h_a.ch0 _cw_2).ch0 _cw_3).ch0 _cw_4).ch0 _cw_5)
  refine Step.call (r_call (xs := [.tmp 9]) fk66 rfl) (c_spec_l8Copy _f_8 (by omega)) fun _v10 _w_9 _q10 => ?_
  obtain ⟨_u10, rfl, _q10, _lo10, _cw_9⟩ := _q10
  have _cw_9z := _cw_9.size
  have E := E.trans _cw_9
  obtain ⟨_Au10, _Cu10, _eu10⟩ := _q10.val
  subst _eu10
  have _lu10 := _q10.len
  have _hiu10 := _q10.lt
  refine WL_s rfl rfl ?_
  refine s_alloc zr30 fun _b7 _w_10 _m7 _cw_10 _e7 => ?_
  have _cw_10z := _cw_10.size
  have E := E.trans _cw_10
  have _z7 := _m7.lt
  replace _m7 : Blk _w_10 _b7 30 [(.slice none 0 0)] := _m7
  refine WL_s rfl rfl ?_
  refine s_storeA (off := 0) 1 _m7 sz30 rfl (us := [(.slice _Au10 (a).length _Cu10)]) rfl rfl rfl rfl fun _w_11 _m_12 _cw_11 => ?_
  have _cw_11z := _cw_11.size
  have E := E.step _cw_11 (fun i hi => .inl (by have _h1 := List.mem_singleton.1 hi; omega))
  replace _m_12 : Blk _w_11 _b7 30 [(.slice _Au10 (a).length _Cu10)] := _m_12
  refine WL_nil ?_
  refine thn_nrm (_hK_6 _ _ ?_)
  clear _hK_6
  refine W_seq fun _K_13 _hK_13 => ?_
  refine W_region ?_
  refine WL_step rfl rfl (r_fieldAddr fa30_0 rfl) ?_
  refine WL_step rfl rfl (r_loadAt _m_12.at_ agg28 rfl rfl) ?_
  refine WL_step rfl rfl (r_fieldAddr fa30_0 rfl) ?_
  have _f_14 := (((((_m4.ch0 _cw_4).ch0 _cw_5).ch0 _cw_9).ch0 _cw_10).ch _cw_11 (fun hm => by have _h1 := List.mem_singleton.1 hm; omega))
  refine WL_step rfl rfl (r_loadAt _f_14.at_ agg28 rfl rfl) ?_
  refine WL_s rfl rfl ?_
  have _f_16 := ((_q10.ch0 _cw_10).ch _cw_11 (fun g hg hm => by have _h0 := List.mem_singleton.1 hm; have _h2 := _lo10 _ hg; have _h3 := _hiu10 _ hg; omega))
  have _f_17 := (((((((_h_b.ch0 _cw_2).ch0 _cw_3).ch0 _cw_4).ch0 _cw_5).ch0 _cw_9).ch0 _cw_10).ch _cw_11 (fun i hi => by have _h1 := List.mem_singleton.1 hi; omega))
  refine s_append (cs := Token.cs) el28 sz55 by55 zr55 rfl (by decide) Token.one _f_16 _f_17 rfl rfl (by first | omega | (simp only [List.length_append, List.length_nil, List.length_cons, List.length_replicate, List.length_set, List.length_reverse, List.length_map] at *; omega) | (simp at *; omega)) (by first | omega | (simp only [List.length_append, List.length_nil, List.length_cons, List.length_replicate, List.length_set, List.length_reverse, List.length_map] at *; omega) | (simp at *; omega)) _lo10 (by omega) fun _v15 _w_15 _q15 _lo15 _ap15 _cw_15 => ?_
  have _cw_15z := _cw_15.size
  have E := E.step _cw_15 (fun i hi => .inl (by have _h1 := _lo10 _ hi; omega))
  obtain ⟨_Av15, _Cv15, _ev15⟩ := _q15.val
  subst _ev15
  have _lv15 := _q15.len
  have _hiv15 := _q15.lt
  refine WL_step rfl rfl (r_fieldAddr fa30_0 rfl) ?_
  refine WL_s rfl rfl ?_
  have _f_18 := (_m_12.ch _cw_15 (fun hm => by have _h1 := _lo10 _ hm; have _h2 := _hiu10 _ hm; omega))
  refine s_store1 (off := 0) _f_18 sz28 rfl rfl rfl rfl fun _w_19 _m_20 _cw_19 => ?_
  have _cw_19z := _cw_19.size
  have E := E.step _cw_19 (fun i hi => .inl (by have _h1 := List.mem_singleton.1 hi; omega))
  replace _m_20 : Blk _w_19 _b7 30 [(.slice _Av15 ((a ++ b)).length _Cv15)] := _m_20
  refine WL_nil ?_
  refine thn_nrm (_hK_13 _ _ ?_)
  clear _hK_13
  refine W_seq fun _K_21 _hK_21 => ?_
  refine W_region ?_
  refine WL_step rfl rfl (r_fieldAddr fa30_0 rfl) ?_
  refine WL_step rfl rfl (r_loadAt _m_20.at_ agg28 rfl rfl) ?_
  have _f_22 := ((((((_m5.ch0 _cw_5).ch0 _cw_9).ch0 _cw_10).ch _cw_11 (fun hm => by have _h1 := List.mem_singleton.1 hm; omega)).ch _cw_15 (fun hm => by have _h1 := _lo10 _ hm; have _h2 := _hiu10 _ hm; omega)).ch _cw_19 (fun hm => by have _h1 := List.mem_singleton.1 hm; omega))
  refine WL_step rfl rfl (r_loadAtA0 _f_22.at_ agg55 sz55 rfl) ?_
  refine WL_s rfl rfl ?_
  refine s_buildSlice (cs := Token.cs) (parts := [(0, .tmp 19)]) (⟨0, 0, 0, 0⟩ : Token) [t] el28 sz55 zr55 Token.len (by decide) rfl rfl rfl (by decide) (by decide) rfl fun _v20 _w_23 _q20 _lo20 _cw_23 => ?_
  have _cw_23z := _cw_23.size
  have E := E.trans _cw_23
  obtain ⟨_Av20, _Cv20, _ev20⟩ := _q20.val
  subst _ev20
  have _lv20 := _q20.len
  have _hiv20 := _q20.lt
  refine WL_s rfl rfl ?_
  have _f_25 := ((_q15.ch _cw_19 (fun g hg hm => by have _h0 := List.mem_singleton.1 hm; rcases _ap15 with ea | ea; (rw [ea] at hg; have _h2 := _lo10 _ hg; have _h3 := _hiu10 _ hg; omega); (rw [ea] at hg; have _z1 := List.mem_singleton.1 hg; omega))).ch0 _cw_23)
  refine s_append (cs := Token.cs) el28 sz55 by55 zr55 rfl (by decide) Token.one _f_25 _q20.ls rfl rfl (by first | omega | (simp only [List.length_append, List.length_nil, List.length_cons, List.length_replicate, List.length_set, List.length_reverse, List.length_map] at *; omega) | (simp at *; omega)) (by first | omega | (simp only [List.length_append, List.length_nil, List.length_cons, List.length_replicate, List.length_set, List.length_reverse, List.length_map] at *; omega) | (simp at *; omega)) _lo15 (by omega) fun _v21 _w_24 _q21 _lo21 _ap21 _cw_24 => ?_
  have _cw_24z := _cw_24.size
  have E := E.step _cw_24 (fun i hi => .inl (by have _h1 := _lo15 _ hi; omega))
  obtain ⟨_Av21, _Cv21, _ev21⟩ := _q21.val
  subst _ev21
  have _lv21 := _q21.len
  have _hiv21 := _q21.lt
  refine WL_step rfl rfl (r_fieldAddr fa30_0 rfl) ?_
  refine WL_s rfl rfl ?_
  have _f_26 := ((_m_20.ch0 _cw_23).ch _cw_24 (fun hm => by rcases _ap15 with ea | ea; (rw [ea] at hm; have _h1 := _lo10 _ hm; have _h2 := _hiu10 _ hm; omega); (rw [ea] at hm; have _z1 := List.mem_singleton.1 hm; omega)))
  refine s_store1 (off := 0) _f_26 sz28 rfl rfl rfl rfl fun _w_27 _m_28 _cw_27 => ?_
  have _cw_27z := _cw_27.size
  have E := E.step _cw_27 (fun i hi => .inl (by have _h1 := List.mem_singleton.1 hi; omega))
  replace _m_28 : Blk _w_27 _b7 30 [(.slice _Av21 (((a ++ b) ++ [t])).length _Cv21)] := _m_28
  refine WL_nil ?_
  refine thn_nrm (_hK_21 _ _ ?_)
  clear _hK_21
  refine W_seq fun _K_29 _hK_29 => ?_
  refine W_region ?_
  refine WL_step rfl rfl (r_loadAtA0 _m_28.at_ agg30 sz30 rfl) ?_
  refine WL_s rfl rfl ?_
  have _f_30 := ((((((((_m6.ch0 _cw_9).ch0 _cw_10).ch _cw_11 (fun hm => by have _h1 := List.mem_singleton.1 hm; omega)).ch _cw_15 (fun hm => by have _h1 := _lo10 _ hm; have _h2 := _hiu10 _ hm; omega)).ch _cw_19 (fun hm => by have _h1 := List.mem_singleton.1 hm; omega)).ch0 _cw_23).ch _cw_24 (fun hm => by rcases _ap15 with ea | ea; (rw [ea] at hm; have _h1 := _lo10 _ hm; have _h2 := _hiu10 _ hm; omega); (rw [ea] at hm; have _z1 := List.mem_singleton.1 hm; omega))).ch _cw_27 (fun hm => by have _h1 := List.mem_singleton.1 hm; omega))
  refine s_storeA (off := 0) 1 _f_30 sz30 rfl (us := [(.slice _Av21 (((a ++ b) ++ [t])).length _Cv21)]) rfl rfl rfl rfl fun _w_31 _m_32 _cw_31 => ?_
  have _cw_31z := _cw_31.size
  have E := E.step _cw_31 (fun i hi => .inl (by have _h1 := List.mem_singleton.1 hi; omega))
  replace _m_32 : Blk _w_31 _b6 30 [(.slice _Av21 (((a ++ b) ++ [t])).length _Cv21)] := _m_32
  refine WL_nil ?_
  refine thn_nrm (_hK_29 _ _ ?_)
  clear _hK_29
  refine W_ret ?_
  have _f_34 := ((_q21.ch _cw_27 (fun g hg hm => by have _h0 := List.mem_singleton.1 hm; rcases _ap21 with ea | ea; (rw [ea] at hg; rcases _ap15 with ea | ea; (rw [ea] at hg; have _h2 := _lo10 _ hg; have _h3 := _hiu10 _ hg; omega); (rw [ea] at hg; have _z1 := List.mem_singleton.1 hg; omega)); (rw [ea] at hg; have _z1 := List.mem_singleton.1 hg; omega))).ch _cw_31 (fun g hg hm => by have _h0 := List.mem_singleton.1 hm; rcases _ap21 with ea | ea; (rw [ea] at hg; rcases _ap15 with ea | ea; (rw [ea] at hg; have _h2 := _lo10 _ hg; have _h3 := _hiu10 _ hg; omega); (rw [ea] at hg; have _z1 := List.mem_singleton.1 hg; omega)); (rw [ea] at hg; have _z1 := List.mem_singleton.1 hg; omega)))
  have _o_33 : Ol Token.cs 55 4 _w_31 (.slice _Av21 (((a ++ b) ++ [t])).length _Cv21) (a ++ b ++ [t]) := by
    have hx := _f_34
    first | exact hx | simpa using hx
  exact ret_intro [_] (resOf_loadA _m_32 rfl agg30 sz30 trivial) ⟨_, rfl, _o_33, Lo.down _lo21 (by omega), E⟩

/-- spec.l8Leaf -/
theorem c_spec_l8Leaf {w : World} (kind : Int) :
    Ctr Try.prog 67 #[(.int .i64 kind)] w (fun v w' => ∃ u, v = .agg #[u] ∧ Ol Token.cs 55 4 w' u ([(⟨kind, 0, 0, 0⟩ : Token)]) ∧ Lo w.heap.size u ∧ Ch [] w w') := by
  have E := Ch.refl [] w
  refine Ctr_of_W (N := 7) (vs0 := [(.int .i64 kind)]) Try.func67 rfl rfl rfl ?_
  refine W_seq fun _K_1 _hK_1 => ?_
  refine W_region ?_
  refine WL_s rfl rfl ?_
  refine s_alloc zr30 fun _b2 _w_2 _m2 _cw_2 _e2 => ?_
  have _cw_2z := _cw_2.size
  have E := E.trans _cw_2
  have _z2 := _m2.lt
  replace _m2 : Blk _w_2 _b2 30 [(.slice none 0 0)] := _m2
  refine WL_nil ?_
  refine thn_nrm (_hK_1 _ _ ?_)
  clear _hK_1
  refine W_seq fun _K_3 _hK_3 => ?_
  refine W_region ?_
  refine WL_step rfl rfl (r_move rfl) ?_
  refine WL_step rfl rfl (r_build (parts := [(0, .tmp 3)]) (cells := [(.int .i64 kind), (.int .i64 0), (.int .i64 0), (.int .i64 0)]) zr55 pl55 rfl rfl) ?_
  refine WL_s rfl rfl ?_
  refine s_buildSlice (cs := Token.cs) (parts := [(0, .tmp 4)]) (⟨0, 0, 0, 0⟩ : Token) [(⟨kind, 0, 0, 0⟩ : Token)] el28 sz55 zr55 Token.len (by decide) rfl rfl rfl (by decide) (by decide) rfl fun _v5 _w_4 _q5 _lo5 _cw_4 => ?_
  have _cw_4z := _cw_4.size
  have E := E.trans _cw_4
  obtain ⟨_Av5, _Cv5, _ev5⟩ := _q5.val
  subst _ev5
  have _lv5 := _q5.len
  have _hiv5 := _q5.lt
  refine WL_step rfl rfl (r_build (parts := [(0, .tmp 5)]) (cells := [(.slice _Av5 ([(⟨kind, 0, 0, 0⟩ : Token)]).length _Cv5)]) zr30 pl30 rfl rfl) ?_
  refine WL_s rfl rfl ?_
  have _f_5 := (_m2.ch0 _cw_4)
  refine s_storeA (off := 0) 1 _f_5 sz30 rfl (us := [(.slice _Av5 ([(⟨kind, 0, 0, 0⟩ : Token)]).length _Cv5)]) rfl rfl rfl rfl fun _w_6 _m_7 _cw_6 => ?_
  have _cw_6z := _cw_6.size
  have E := E.step _cw_6 (fun i hi => .inl (by have _h1 := List.mem_singleton.1 hi; omega))
  replace _m_7 : Blk _w_6 _b2 30 [(.slice _Av5 ([(⟨kind, 0, 0, 0⟩ : Token)]).length _Cv5)] := _m_7
  refine WL_nil ?_
  refine thn_nrm (_hK_3 _ _ ?_)
  clear _hK_3
  refine W_ret ?_
  have _f_9 := (_q5.ch _cw_6 (fun g hg hm => by have _h0 := List.mem_singleton.1 hm; have _h2 := _lo5 _ hg; have _h3 := _hiv5 _ hg; omega))
  have _o_8 : Ol Token.cs 55 4 _w_6 (.slice _Av5 ([(⟨kind, 0, 0, 0⟩ : Token)]).length _Cv5) ([(⟨kind, 0, 0, 0⟩ : Token)]) := by
    have hx := _f_9
    first | exact hx | simpa using hx
  exact ret_intro [_] (resOf_loadA _m_7 rfl agg30 sz30 trivial) ⟨_, rfl, _o_8, Lo.down _lo5 (by omega), E⟩

/-- spec.l10Times -/
theorem c_spec_l10Times_n : ∀ (n : Nat) {w : World} {LL_e _B_e : Nat} {_v_e : Value} {e : List Token} (_h_e : Ls Token.cs 4 w LL_e _B_e _v_e e) (low : Int) (high : Int) (x : Tr) (he : e = x.flat) (hx : x.sz ≤ 5000) (_h0 : 0 ≤ low) (hh : 0 ≤ high) (_h3 : high ≤ 3) (_h4 : low ≤ 3) (hsz : high.toNat < n),
    Ctr Try.prog 63 #[(.agg #[_v_e]), (.int .i64 low), (.int .i64 high)] w (fun v w' => ∃ u, v = .agg #[u] ∧ Ol Token.cs 55 4 w' u ((timT x low (high).toNat).flat) ∧ Lo w.heap.size u ∧ Ch [] w w') := by
  intro n
  induction n with
  | zero => intros; omega
  | succ n ih =>
  intro w LL_e _B_e _v_e e _h_e low high x he hx _h0 hh _h3 _h4 hsz
  obtain ⟨_A_e, _C_e, _e1_e⟩ := _h_e.val
  subst _e1_e
  have _l_e := _h_e.len
  have _h_e := _h_e.here (by decide)
  have E := Ch.refl [] w
  have xl := x.flat_len; rw [← he] at xl
  refine Ctr_of_W (N := 28) (vs0 := [(.agg #[(.slice _A_e e.length _C_e)]), (.int .i64 low), (.int .i64 high)]) Try.func63 rfl rfl rfl ?_
  refine W_seq fun _K_1 _hK_1 => ?_
  refine W_region ?_
  refine WL_s rfl rfl ?_
  refine s_box rfl fun _b3 _w_2 _m3 _cw_2 _e3 => ?_
  have _cw_2z := _cw_2.size
  have E := E.trans _cw_2
  have _z3 := _m3.lt
  replace _m3 : Blk _w_2 _b3 30 [(.slice _A_e e.length _C_e)] := _m3
  refine WL_s rfl rfl ?_
  refine s_alloc zr30 fun _b6 _w_3 _m6 _cw_3 _e6 => ?_
  have _cw_3z := _cw_3.size
  have E := E.trans _cw_3
  have _z6 := _m6.lt
  replace _m6 : Blk _w_3 _b6 30 [(.slice none 0 0)] := _m6
  refine WL_nil ?_
  refine thn_nrm (_hK_1 _ _ ?_)
  clear _hK_1
  refine W_seq fun _K_4 _hK_4 => ?_
  refine W_seq fun _K_5 _hK_5 => ?_
  refine W_region ?_
  refine WL_step rfl rfl (r_move rfl) ?_
  refine WL_step rfl rfl (r_eql rfl rfl) ?_
  refine WL_nil ?_
  refine thn_nrm (_hK_5 _ _ ?_)
  clear _hK_5
  refine W_cond rfl (fun _h9 => ?_) (fun _h9 => ?_)
  · have _kb_6 := _h9
    have _h9 := bt_d _h9
    refine W_seq fun _K_7 _hK_7 => ?_
    refine W_region ?_
    refine WL_s rfl rfl ?_
    refine Step.call (r_call (xs := [.const (Go.Value.int Go.IntKind.i64 2)]) fk67 rfl) (c_spec_l8Leaf _ ) fun _v10 _w_8 _q10 => ?_
    obtain ⟨_u10, rfl, _q10, _lo10, _cw_8⟩ := _q10
    have _cw_8z := _cw_8.size
    have E := E.trans _cw_8
    obtain ⟨_Au10, _Cu10, _eu10⟩ := _q10.val
    subst _eu10
    have _lu10 := _q10.len
    have _hiu10 := _q10.lt
    refine WL_s rfl rfl ?_
    have _f_9 := (_m6.ch0 _cw_8)
    refine s_storeA (off := 0) 1 _f_9 sz30 rfl (us := [(.slice _Au10 ([(⟨2, 0, 0, 0⟩ : Token)]).length _Cu10)]) rfl rfl rfl rfl fun _w_10 _m_11 _cw_10 => ?_
    have _cw_10z := _cw_10.size
    have E := E.step _cw_10 (fun i hi => .inl (by have _h1 := List.mem_singleton.1 hi; omega))
    replace _m_11 : Blk _w_10 _b6 30 [(.slice _Au10 ([(⟨2, 0, 0, 0⟩ : Token)]).length _Cu10)] := _m_11
    refine WL_nil ?_
    refine thn_nrm (_hK_7 _ _ ?_)
    clear _hK_7
    refine W_ret (thn_ret ?_)
    clear _hK_4
    have _f_13 := (_q10.ch _cw_10 (fun g hg hm => by have _h0 := List.mem_singleton.1 hm; have _h2 := _lo10 _ hg; have _h3 := _hiu10 _ hg; omega))
    have _o_12 : Ol Token.cs 55 4 _w_10 (.slice _Au10 ([(⟨2, 0, 0, 0⟩ : Token)]).length _Cu10) ((timT x low (high).toNat).flat) := by
      have hx := _f_13
      exact hx.eq (by first | (rw [← tim0 (x := x) (low := low) (by omega)]; rfl) | (rw [← timp (x := x) (low := low) (by omega) (by omega) (by omega), he]; rfl) | (rw [← timn (x := x) (low := low) (by omega) (by omega) (by omega), he]; rfl))
    exact ret_intro [_] (resOf_loadA _m_11 rfl agg30 sz30 trivial) ⟨_, rfl, _o_12, Lo.down _lo10 (by omega), E⟩
  · have _kb_6 := _h9
    have _h9 := bf_d _h9
    refine W_skip ?_
    refine thn_nrm (_hK_4 _ _ ?_)
    clear _hK_4
    refine W_seq fun _K_14 _hK_14 => ?_
    have _J_16 : ∀ (lj : KL) (_wj_15 : World) (jb7 : Nat) (ju7_0 : Value), Go.KLib.Sub [(1, (.int .i64 low)), (6, (.pointer (some ⟨_b6, 0, none⟩))), (7, (.pointer (some ⟨jb7, 0, none⟩)))] lj → Ch [] _w_3 _wj_15 → Ol Token.cs 55 4 _wj_15 ju7_0 (e ++ ((timT x (if (low - 1) > 0 then (low - 1) else 0) ((high - 1)).toNat).flat) ++ [(⟨4, 0, 0, 0⟩ : Token)]) → Lo _w_3.heap.size ju7_0 → Blk _wj_15 jb7 30 [ju7_0] → _w_3.heap.size ≤ jb7 → jb7 ∉ bl ju7_0 → _K_14 lj _wj_15 := by
      intro lj _wj_15 jb7 ju7_0 _jsub _cjK_14 _qju7_0 _loju7_0 _mjb7 _ejb7 _nbjb7ju7_0
      refine _hK_14 _ _ (W_sub _jsub ?_)
      clear _hK_14
      have _cjK_14z := _cjK_14.size
      have E := E.trans _cjK_14
      obtain ⟨_Aju7_0, _Cju7_0, _eju7_0⟩ := _qju7_0.val
      subst _eju7_0
      have _lju7_0 := _qju7_0.len
      have _hiju7_0 := _qju7_0.lt
      have _zjb7 := _mjb7.lt
      refine W_seq fun _K_17 _hK_17 => ?_
      refine W_seq fun _K_18 _hK_18 => ?_
      refine W_region ?_
      refine WL_step rfl rfl (r_move rfl) ?_
      refine WL_step rfl rfl (r_gtr rfl rfl) ?_
      refine WL_nil ?_
      refine thn_nrm (_hK_18 _ _ ?_)
      clear _hK_18
      refine W_cond rfl (fun _h22 => ?_) (fun _h22 => ?_)
      · have _kb_19 := _h22
        have _h22 := bt_d _h22
        refine W_seq fun _K_20 _hK_20 => ?_
        refine W_region ?_
        refine WL_step rfl rfl (r_loadAtA0 _mjb7.at_ agg30 sz30 rfl) ?_
        refine WL_s rfl rfl ?_
        have _f_21 := (_m6.ch0 _cjK_14)
        refine s_storeA (off := 0) 1 _f_21 sz30 rfl (us := [(.slice _Aju7_0 (e ++ ((timT x (if (low - 1) > 0 then (low - 1) else 0) ((high - 1)).toNat).flat) ++ [(⟨4, 0, 0, 0⟩ : Token)]).length _Cju7_0)]) rfl rfl rfl rfl fun _w_22 _m_23 _cw_22 => ?_
        have _cw_22z := _cw_22.size
        have E := E.step _cw_22 (fun i hi => .inl (by have _h1 := List.mem_singleton.1 hi; omega))
        replace _m_23 : Blk _w_22 _b6 30 [(.slice _Aju7_0 (e ++ ((timT x (if (low - 1) > 0 then (low - 1) else 0) ((high - 1)).toNat).flat) ++ [(⟨4, 0, 0, 0⟩ : Token)]).length _Cju7_0)] := _m_23
        refine WL_nil ?_
        refine thn_nrm (_hK_20 _ _ ?_)
        clear _hK_20
        refine W_ret (thn_ret ?_)
        clear _hK_17
        have _f_25 := (_qju7_0.ch _cw_22 (fun g hg hm => by have _h0 := List.mem_singleton.1 hm; have _h2 := _loju7_0 _ hg; have _h3 := _hiju7_0 _ hg; omega))
        have _o_24 : Ol Token.cs 55 4 _w_22 (.slice _Aju7_0 (e ++ ((timT x (if (low - 1) > 0 then (low - 1) else 0) ((high - 1)).toNat).flat) ++ [(⟨4, 0, 0, 0⟩ : Token)]).length _Cju7_0) ((timT x low (high).toNat).flat) := by
          have hx := _f_25
          exact hx.eq (by first | (rw [← tim0 (x := x) (low := low) (by omega)]; rfl) | (rw [← timp (x := x) (low := low) (by omega) (by omega) (by omega), he]; rfl) | (rw [← timn (x := x) (low := low) (by omega) (by omega) (by omega), he]; rfl))
        exact ret_intro [_] (resOf_loadA _m_23 rfl agg30 sz30 trivial) ⟨_, rfl, _o_24, Lo.down _loju7_0 (by omega), E⟩
      · have _kb_19 := _h22
        have _h22 := bf_d _h22
        refine W_skip ?_
        refine thn_nrm (_hK_17 _ _ ?_)
        clear _hK_17
        refine W_seq fun _K_26 _hK_26 => ?_
        refine W_drawC [_b6] 5 mixed rfl fun _w_27 _cw_27 => ?_
        have _cw_27z := _cw_27.size
        have E := E.trans _cw_27
        have _f_28 := (_mjb7.ch0 _cw_27)
        refine DR_s 0 rfl (by kernel_rfl) rfl rfl (t_loadAtA0 _f_28.at_ (fun i hm => by have _h1 := List.mem_singleton.1 hm; omega) agg30 sz30 rfl ?_)
        refine DR_s 2 rfl (by kernel_rfl) rfl rfl (t_v (fun _ => (r_build (parts := [(0, .const (Go.Value.int Go.IntKind.i64 5))]) (cells := [(.int .i64 5), (.int .i64 0), (.int .i64 0), (.int .i64 0)]) zr55 pl55 rfl rfl)) ?_)
        refine DR_one 1 (by kernel_rfl) ?_
        refine DO_s rfl rfl rfl ?_
        refine Step.call (r_call (xs := [.const (Go.Value.int Go.IntKind.i64 2)]) fk67 rfl) (c_spec_l8Leaf _ ) fun _v25 _w_29 _q25 => ?_
        obtain ⟨_u25, rfl, _q25, _lo25, _cw_29⟩ := _q25
        have _cw_29z := _cw_29.size
        have E := E.trans _cw_29
        obtain ⟨_Au25, _Cu25, _eu25⟩ := _q25.val
        subst _eu25
        have _lu25 := _q25.len
        have _hiu25 := _q25.lt
        have _S_30 : Ch [_b6] _w_27 _w_29 := ((Ch.refl _ _).trans _cw_29.of_nil)
        refine ⟨_S_30, ?_⟩
        refine DR_one 3 (by kernel_rfl) ?_
        refine DO_s rfl rfl rfl ?_
        have _f_31 := ((_qju7_0.ch0 _cw_27).ch0 _cw_29)
        refine Step.call (r_call (xs := [.tmp 24, .tmp 25, .tmp 26]) fk62 rfl) (c_spec_l8Join _f_31.ls _q25.ls ⟨5, 0, 0, 0⟩ (by have _h9 := timT_le (x := x) (n := high - 1) (if low - 1 > 0 then low - 1 else 0) hx (by omega); simp only [List.length_append, List.length_singleton, Tr.flat_len]; omega)) fun _v27 _w_32 _q27 => ?_
        obtain ⟨_u27, rfl, _q27, _lo27, _cw_32⟩ := _q27
        have _cw_32z := _cw_32.size
        have E := E.trans _cw_32
        obtain ⟨_Au27, _Cu27, _eu27⟩ := _q27.val
        subst _eu27
        have _lu27 := _q27.len
        have _hiu27 := _q27.lt
        have _S_33 : Ch [_b6] _w_27 _w_32 := (_S_30.trans _cw_32.of_nil)
        refine ⟨_S_33, ?_⟩
        refine DR_one 4 (by kernel_rfl) ?_
        refine DO_s rfl rfl rfl ?_
        have _f_34 := ((((_m6.ch0 _cjK_14).ch0 _cw_27).ch0 _cw_29).ch0 _cw_32)
        refine s_storeA (off := 0) 1 _f_34 sz30 rfl (us := [(.slice _Au27 ((e ++ ((timT x (if (low - 1) > 0 then (low - 1) else 0) ((high - 1)).toNat).flat) ++ [(⟨4, 0, 0, 0⟩ : Token)]) ++ ([(⟨2, 0, 0, 0⟩ : Token)]) ++ [(⟨5, 0, 0, 0⟩ : Token)]).length _Cu27)]) rfl rfl rfl rfl fun _w_35 _m_36 _cw_35 => ?_
        have _cw_35z := _cw_35.size
        have E := E.step _cw_35 (fun i hi => .inl (by have _h1 := List.mem_singleton.1 hi; omega))
        replace _m_36 : Blk _w_35 _b6 30 [(.slice _Au27 ((e ++ ((timT x (if (low - 1) > 0 then (low - 1) else 0) ((high - 1)).toNat).flat) ++ [(⟨4, 0, 0, 0⟩ : Token)]) ++ ([(⟨2, 0, 0, 0⟩ : Token)]) ++ [(⟨5, 0, 0, 0⟩ : Token)]).length _Cu27)] := _m_36
        have _S_37 : Ch [_b6] _w_27 _w_35 := (_S_33.step _cw_35 (fun i hm => by have _h0 := List.mem_singleton.1 hm; exact .inr (by rw [_h0]; exact (List.mem_singleton.2 rfl))))
        refine ⟨_S_37, ?_⟩
        refine DR_done (by kernel_rfl) ?_
        refine thn_nrm (_hK_26 _ _ ?_)
        clear _hK_26
        refine W_ret ?_
        have _f_39 := (_q27.ch _cw_35 (fun g hg hm => by have _h0 := List.mem_singleton.1 hm; have _h2 := _lo27 _ hg; have _h3 := _hiu27 _ hg; omega))
        have _o_38 : Ol Token.cs 55 4 _w_35 (.slice _Au27 ((e ++ ((timT x (if (low - 1) > 0 then (low - 1) else 0) ((high - 1)).toNat).flat) ++ [(⟨4, 0, 0, 0⟩ : Token)]) ++ ([(⟨2, 0, 0, 0⟩ : Token)]) ++ [(⟨5, 0, 0, 0⟩ : Token)]).length _Cu27) ((timT x low (high).toNat).flat) := by
          have hx := _f_39
          exact hx.eq (by first | (rw [← tim0 (x := x) (low := low) (by omega)]; rfl) | (rw [← timp (x := x) (low := low) (by omega) (by omega) (by omega), he]; rfl) | (rw [← timn (x := x) (low := low) (by omega) (by omega) (by omega), he]; rfl))
        exact ret_intro [_] (resOf_loadA _m_36 rfl agg30 sz30 trivial) ⟨_, rfl, _o_38, Lo.down _lo27 (by omega), E⟩
    clear _hK_14
    refine W_drawC [] 12 mixed rfl fun _w_40 _cw_40 => ?_
    have _cw_40z := _cw_40.size
    have E := E.trans _cw_40
    have _f_41 := ((_m3.ch0 _cw_3).ch0 _cw_40)
    refine DR_s 0 rfl (by kernel_rfl) rfl rfl (t_loadAtA0 _f_41.at_ (fun i hi => absurd hi List.not_mem_nil) agg30 sz30 rfl ?_)
    refine DR_s 1 rfl (by kernel_rfl) rfl rfl (t_loadAtA0 _f_41.at_ (fun i hi => absurd hi List.not_mem_nil) agg30 sz30 rfl ?_)
    refine DR_s 2 rfl (by kernel_rfl) rfl rfl (t_v (fun _ => (r_move rfl)) ?_)
    refine DR_s 3 rfl (by kernel_rfl) rfl rfl (t_v (fun _ => (r_sub (by omega) rfl rfl)) ?_)
    refine DR_s 4 rfl (by kernel_rfl) rfl rfl (t_v (fun _ => (r_max rfl rfl)) ?_)
    refine DR_s 5 rfl (by kernel_rfl) rfl rfl (t_v (fun _ => (r_move rfl)) ?_)
    refine DR_s 6 rfl (by kernel_rfl) rfl rfl (t_v (fun _ => (r_sub (by omega) rfl rfl)) ?_)
    refine DR_s 8 rfl (by kernel_rfl) rfl rfl (t_v (fun _ => (r_build (parts := [(0, .const (Go.Value.int Go.IntKind.i64 4))]) (cells := [(.int .i64 4), (.int .i64 0), (.int .i64 0), (.int .i64 0)]) zr55 pl55 rfl rfl)) ?_)
    refine DR_two 7 10 (by kernel_rfl) ?_ ?_
    · refine DO_s rfl rfl rfl ?_
      have _f_42 := (((_h_e.ch0 _cw_2).ch0 _cw_3).ch0 _cw_40)
      refine Step.call (r_call (xs := [.tmp 12, .tmp 15, .tmp 17]) fk63 rfl) (ih _f_42 _ _ x he hx (by split <;> omega) (by omega) (by omega) (by split <;> omega) (by omega)) fun _v18 _w_43 _q18 => ?_
      obtain ⟨_u18, rfl, _q18, _lo18, _cw_43⟩ := _q18
      have _cw_43z := _cw_43.size
      have E := E.trans _cw_43
      obtain ⟨_Au18, _Cu18, _eu18⟩ := _q18.val
      subst _eu18
      have _lu18 := _q18.len
      have _hiu18 := _q18.lt
      have _S_44 : Ch [] _w_40 _w_43 := ((Ch.refl _ _).trans _cw_43)
      refine ⟨_S_44, ?_⟩
      refine DR_two 9 10 (by kernel_rfl) ?_ ?_
      · refine DO_s rfl rfl rfl ?_
        have _f_45 := (_f_42.ch0 _cw_43)
        refine Step.call (r_call (xs := [.tmp 11, .tmp 18, .tmp 19]) fk62 rfl) (c_spec_l8Join _f_45 _q18.ls ⟨4, 0, 0, 0⟩ (by have _h9 := timT_le (x := x) (n := high - 1) (if low - 1 > 0 then low - 1 else 0) hx (by omega); rw [Tr.flat_len]; omega)) fun _v20 _w_46 _q20 => ?_
        obtain ⟨_u20, rfl, _q20, _lo20, _cw_46⟩ := _q20
        have _cw_46z := _cw_46.size
        have E := E.trans _cw_46
        obtain ⟨_Au20, _Cu20, _eu20⟩ := _q20.val
        subst _eu20
        have _lu20 := _q20.len
        have _hiu20 := _q20.lt
        have _S_47 : Ch [] _w_40 _w_46 := (_S_44.trans _cw_46)
        refine ⟨_S_47, ?_⟩
        refine DR_one 10 (by kernel_rfl) ?_
        refine DO_s rfl rfl rfl ?_
        refine s_alloc zr30 fun _b7 _w_48 _m7 _cw_48 _e7 => ?_
        have _cw_48z := _cw_48.size
        have E := E.trans _cw_48
        have _z7 := _m7.lt
        replace _m7 : Blk _w_48 _b7 30 [(.slice none 0 0)] := _m7
        have _S_49 : Ch [] _w_40 _w_48 := (_S_47.trans _cw_48)
        refine ⟨_S_49, ?_⟩
        refine DR_one 11 (by kernel_rfl) ?_
        refine DO_s rfl rfl rfl ?_
        refine s_storeA (off := 0) 1 _m7 sz30 rfl (us := [(.slice _Au20 (e ++ ((timT x (if (low - 1) > 0 then (low - 1) else 0) ((high - 1)).toNat).flat) ++ [(⟨4, 0, 0, 0⟩ : Token)]).length _Cu20)]) rfl rfl rfl rfl fun _w_50 _m_51 _cw_50 => ?_
        have _cw_50z := _cw_50.size
        have E := E.step _cw_50 (fun i hi => .inl (by have _h1 := List.mem_singleton.1 hi; omega))
        replace _m_51 : Blk _w_50 _b7 30 [(.slice _Au20 (e ++ ((timT x (if (low - 1) > 0 then (low - 1) else 0) ((high - 1)).toNat).flat) ++ [(⟨4, 0, 0, 0⟩ : Token)]).length _Cu20)] := _m_51
        have _S_52 : Ch [] _w_40 _w_50 := (_S_49.step _cw_50 (fun i hm => by have _h0 := List.mem_singleton.1 hm; left; omega))
        refine ⟨_S_52, ?_⟩
        refine DR_done (by kernel_rfl) ?_
        refine thn_nrm ?_
        have _f_53 := ((_q20.ch0 _cw_48).ch _cw_50 (fun g hg hm => by have _h0 := List.mem_singleton.1 hm; have _h2 := _lo20 _ hg; have _h3 := _hiu20 _ hg; omega))
        exact _J_16 _ _ _b7 (.slice _Au20 (e ++ ((timT x (if (low - 1) > 0 then (low - 1) else 0) ((high - 1)).toNat).flat) ++ [(⟨4, 0, 0, 0⟩ : Token)]).length _Cu20) (Sub.cons rfl (Sub.cons rfl (Sub.cons rfl (Sub.nil _)))) ((((((Ch.refl [] _w_3).trans _cw_40).trans _cw_43).trans _cw_46).trans _cw_48).step _cw_50 (fun i hi => .inl (by have _h1 := List.mem_singleton.1 hi; omega))) _f_53 (Lo.down _lo20 (by omega)) _m_51 (by omega) (fun hm => by have _h1 := _lo20 _ hm; have _h2 := _hiu20 _ hm; omega)
      · refine DO_s rfl rfl rfl ?_
        refine s_alloc zr30 fun _b7 _w_54 _m7 _cw_54 _e7 => ?_
        have _cw_54z := _cw_54.size
        have E := E.trans _cw_54
        have _z7 := _m7.lt
        replace _m7 : Blk _w_54 _b7 30 [(.slice none 0 0)] := _m7
        have _S_55 : Ch [] _w_40 _w_54 := (_S_44.trans _cw_54)
        refine ⟨_S_55, ?_⟩
        refine DR_one 9 (by kernel_rfl) ?_
        refine DO_s rfl rfl rfl ?_
        have _f_56 := ((_f_42.ch0 _cw_43).ch0 _cw_54)
        have _f_57 := (_q18.ch0 _cw_54)
        refine Step.call (r_call (xs := [.tmp 11, .tmp 18, .tmp 19]) fk62 rfl) (c_spec_l8Join _f_56 _f_57.ls ⟨4, 0, 0, 0⟩ (by have _h9 := timT_le (x := x) (n := high - 1) (if low - 1 > 0 then low - 1 else 0) hx (by omega); rw [Tr.flat_len]; omega)) fun _v20 _w_58 _q20 => ?_
        obtain ⟨_u20, rfl, _q20, _lo20, _cw_58⟩ := _q20
        have _cw_58z := _cw_58.size
        have E := E.trans _cw_58
        obtain ⟨_Au20, _Cu20, _eu20⟩ := _q20.val
        subst _eu20
        have _lu20 := _q20.len
        have _hiu20 := _q20.lt
        have _S_59 : Ch [] _w_40 _w_58 := (_S_55.trans _cw_58)
        refine ⟨_S_59, ?_⟩
        refine DR_one 11 (by kernel_rfl) ?_
        refine DO_s rfl rfl rfl ?_
        have _f_60 := (_m7.ch0 _cw_58)
        refine s_storeA (off := 0) 1 _f_60 sz30 rfl (us := [(.slice _Au20 (e ++ ((timT x (if (low - 1) > 0 then (low - 1) else 0) ((high - 1)).toNat).flat) ++ [(⟨4, 0, 0, 0⟩ : Token)]).length _Cu20)]) rfl rfl rfl rfl fun _w_61 _m_62 _cw_61 => ?_
        have _cw_61z := _cw_61.size
        have E := E.step _cw_61 (fun i hi => .inl (by have _h1 := List.mem_singleton.1 hi; omega))
        replace _m_62 : Blk _w_61 _b7 30 [(.slice _Au20 (e ++ ((timT x (if (low - 1) > 0 then (low - 1) else 0) ((high - 1)).toNat).flat) ++ [(⟨4, 0, 0, 0⟩ : Token)]).length _Cu20)] := _m_62
        have _S_63 : Ch [] _w_40 _w_61 := (_S_59.step _cw_61 (fun i hm => by have _h0 := List.mem_singleton.1 hm; left; omega))
        refine ⟨_S_63, ?_⟩
        refine DR_done (by kernel_rfl) ?_
        refine thn_nrm ?_
        have _f_64 := (_q20.ch _cw_61 (fun g hg hm => by have _h0 := List.mem_singleton.1 hm; have _h2 := _lo20 _ hg; have _h3 := _hiu20 _ hg; omega))
        exact _J_16 _ _ _b7 (.slice _Au20 (e ++ ((timT x (if (low - 1) > 0 then (low - 1) else 0) ((high - 1)).toNat).flat) ++ [(⟨4, 0, 0, 0⟩ : Token)]).length _Cu20) (Sub.cons rfl (Sub.cons rfl (Sub.cons rfl (Sub.nil _)))) ((((((Ch.refl [] _w_3).trans _cw_40).trans _cw_43).trans _cw_54).trans _cw_58).step _cw_61 (fun i hi => .inl (by have _h1 := List.mem_singleton.1 hi; omega))) _f_64 (Lo.down _lo20 (by omega)) _m_62 (by omega) (fun hm => by have _h1 := _lo20 _ hm; have _h2 := _hiu20 _ hm; omega)
    · refine DO_s rfl rfl rfl ?_
      refine s_alloc zr30 fun _b7 _w_65 _m7 _cw_65 _e7 => ?_
      have _cw_65z := _cw_65.size
      have E := E.trans _cw_65
      have _z7 := _m7.lt
      replace _m7 : Blk _w_65 _b7 30 [(.slice none 0 0)] := _m7
      have _S_66 : Ch [] _w_40 _w_65 := ((Ch.refl _ _).trans _cw_65)
      refine ⟨_S_66, ?_⟩
      refine DR_one 7 (by kernel_rfl) ?_
      refine DO_s rfl rfl rfl ?_
      have _f_67 := ((((_h_e.ch0 _cw_2).ch0 _cw_3).ch0 _cw_40).ch0 _cw_65)
      refine Step.call (r_call (xs := [.tmp 12, .tmp 15, .tmp 17]) fk63 rfl) (ih _f_67 _ _ x he hx (by split <;> omega) (by omega) (by omega) (by split <;> omega) (by omega)) fun _v18 _w_68 _q18 => ?_
      obtain ⟨_u18, rfl, _q18, _lo18, _cw_68⟩ := _q18
      have _cw_68z := _cw_68.size
      have E := E.trans _cw_68
      obtain ⟨_Au18, _Cu18, _eu18⟩ := _q18.val
      subst _eu18
      have _lu18 := _q18.len
      have _hiu18 := _q18.lt
      have _S_69 : Ch [] _w_40 _w_68 := (_S_66.trans _cw_68)
      refine ⟨_S_69, ?_⟩
      refine DR_one 9 (by kernel_rfl) ?_
      refine DO_s rfl rfl rfl ?_
      have _f_70 := (_f_67.ch0 _cw_68)
      refine Step.call (r_call (xs := [.tmp 11, .tmp 18, .tmp 19]) fk62 rfl) (c_spec_l8Join _f_70 _q18.ls ⟨4, 0, 0, 0⟩ (by have _h9 := timT_le (x := x) (n := high - 1) (if low - 1 > 0 then low - 1 else 0) hx (by omega); rw [Tr.flat_len]; omega)) fun _v20 _w_71 _q20 => ?_
      obtain ⟨_u20, rfl, _q20, _lo20, _cw_71⟩ := _q20
      have _cw_71z := _cw_71.size
      have E := E.trans _cw_71
      obtain ⟨_Au20, _Cu20, _eu20⟩ := _q20.val
      subst _eu20
      have _lu20 := _q20.len
      have _hiu20 := _q20.lt
      have _S_72 : Ch [] _w_40 _w_71 := (_S_69.trans _cw_71)
      refine ⟨_S_72, ?_⟩
      refine DR_one 11 (by kernel_rfl) ?_
      refine DO_s rfl rfl rfl ?_
      have _f_73 := ((_m7.ch0 _cw_68).ch0 _cw_71)
      refine s_storeA (off := 0) 1 _f_73 sz30 rfl (us := [(.slice _Au20 (e ++ ((timT x (if (low - 1) > 0 then (low - 1) else 0) ((high - 1)).toNat).flat) ++ [(⟨4, 0, 0, 0⟩ : Token)]).length _Cu20)]) rfl rfl rfl rfl fun _w_74 _m_75 _cw_74 => ?_
      have _cw_74z := _cw_74.size
      have E := E.step _cw_74 (fun i hi => .inl (by have _h1 := List.mem_singleton.1 hi; omega))
      replace _m_75 : Blk _w_74 _b7 30 [(.slice _Au20 (e ++ ((timT x (if (low - 1) > 0 then (low - 1) else 0) ((high - 1)).toNat).flat) ++ [(⟨4, 0, 0, 0⟩ : Token)]).length _Cu20)] := _m_75
      have _S_76 : Ch [] _w_40 _w_74 := (_S_72.step _cw_74 (fun i hm => by have _h0 := List.mem_singleton.1 hm; left; omega))
      refine ⟨_S_76, ?_⟩
      refine DR_done (by kernel_rfl) ?_
      refine thn_nrm ?_
      have _f_77 := (_q20.ch _cw_74 (fun g hg hm => by have _h0 := List.mem_singleton.1 hm; have _h2 := _lo20 _ hg; have _h3 := _hiu20 _ hg; omega))
      exact _J_16 _ _ _b7 (.slice _Au20 (e ++ ((timT x (if (low - 1) > 0 then (low - 1) else 0) ((high - 1)).toNat).flat) ++ [(⟨4, 0, 0, 0⟩ : Token)]).length _Cu20) (Sub.cons rfl (Sub.cons rfl (Sub.cons rfl (Sub.nil _)))) ((((((Ch.refl [] _w_3).trans _cw_40).trans _cw_65).trans _cw_68).trans _cw_71).step _cw_74 (fun i hi => .inl (by have _h1 := List.mem_singleton.1 hi; omega))) _f_77 (Lo.down _lo20 (by omega)) _m_75 (by omega) (fun hm => by have _h1 := _lo20 _ hm; have _h2 := _hiu20 _ hm; omega)
theorem c_spec_l10Times {w : World} {LL_e _B_e : Nat} {_v_e : Value} {e : List Token} (_h_e : Ls Token.cs 4 w LL_e _B_e _v_e e) (low : Int) (high : Int) (x : Tr) (he : e = x.flat) (hx : x.sz ≤ 5000) (_h0 : 0 ≤ low) (hh : 0 ≤ high) (_h3 : high ≤ 3) (_h4 : low ≤ 3) :
    Ctr Try.prog 63 #[(.agg #[_v_e]), (.int .i64 low), (.int .i64 high)] w (fun v w' => ∃ u, v = .agg #[u] ∧ Ol Token.cs 55 4 w' u ((timT x low (high).toNat).flat) ∧ Lo w.heap.size u ∧ Ch [] w w') := c_spec_l10Times_n _ _h_e low high x he hx _h0 hh _h3 _h4 (Nat.lt_succ_self _)

/-- spec.l8Start -/
theorem c_spec_l8Start {w : World} {LL_l _B_l : Nat} {_v_l : Value} {l : List Token} (_h_l : Ls Token.cs 4 w LL_l _B_l _v_l l) (p : List Token) (t : Tr) (hok : Okd t) (hl : l = p ++ t.flat) :
    Ctr Try.prog 50 #[_v_l] w (fun v w' => v = .int .i64 (((p.length : Nat) : Int)) ∧ Ch [] w w') := by
  obtain ⟨_A_l, _C_l, _e1_l⟩ := _h_l.val
  subst _e1_l
  have _l_l := _h_l.len
  have _h_l := _h_l.here (by decide)
  have E := Ch.refl [] w
  refine Ctr_of_W (N := 20) (vs0 := [(.slice _A_l l.length _C_l)]) Try.func50 rfl rfl rfl ?_
  refine W_seq fun _K_1 _hK_1 => ?_
  refine W_region ?_
  refine WL_step rfl rfl (r_assign rfl) ?_
  refine WL_nil ?_
  refine thn_nrm (_hK_1 _ _ ?_)
  clear _hK_1
  refine W_seq fun _K_2 _hK_2 => ?_
  refine W_region ?_
  refine WL_step rfl rfl (r_assign rfl) ?_
  refine WL_nil ?_
  refine thn_nrm (_hK_2 _ _ ?_)
  clear _hK_2
  refine W_seq fun _K_3 _hK_3 => ?_
  refine W_region ?_
  refine WL_step rfl rfl (r_move rfl) ?_
  refine WL_step rfl rfl (r_len (by rw [el28]; rfl) rfl) ?_
  refine WL_step rfl rfl (r_assign rfl) ?_
  refine WL_nil ?_
  refine thn_nrm (_hK_3 _ _ ?_)
  clear _hK_3
  refine W_seq fun _K_4 _hK_4 => ?_
  refine W_block ?_
  refine W_loop (σ := Int × Int × List Tr) (fun ⟨n, k, ts⟩ => [(0, (.slice _A_l l.length _C_l)), (2, (.int .i64 0)), (3, (.int .i64 n)), (4, (.int .i64 k))]) (fun ⟨n, k, ts⟩ wx => Ch [] w wx ∧ w.heap.size ≤ wx.heap.size ∧ (0 ≤ k) ∧ (k ≤ l.length) ∧ (n = ts.length) ∧ (l.take k.toNat = p ++ flats ts) ∧ (∀ x ∈ ts, Okd x)) (fun ⟨n, k, ts⟩ => k.toNat) (1, (l.length : Int), [t]) (Sub.cons rfl (Sub.cons rfl (Sub.cons rfl (Sub.cons rfl (Sub.nil _))))) ⟨E, (Nat.le_refl _), (by omega), (by omega), rfl, (by rw [show ((l.length : Int)).toNat = l.length from by omega, List.take_length, hl]; simp [flats]), (fun x hx => by rw [List.mem_singleton.1 hx]; exact hok)⟩ ?_
  rintro ⟨n, k, ts⟩ _wr_5 ⟨E, _zz0, _h0, _hk, hn, hp, ho⟩
  have _E0h := E
  have _E0hz := _E0h.size
  have s1 := start_len hp _h0
  refine W_seq fun _K_6 _hK_6 => ?_
  refine W_seq fun _K_7 _hK_7 => ?_
  refine W_region ?_
  refine WL_step rfl rfl (r_move rfl) ?_
  refine WL_step rfl rfl (r_gtr rfl rfl) ?_
  refine WL_nil ?_
  refine thn_nrm (_hK_7 _ _ ?_)
  clear _hK_7
  refine W_cond rfl (fun _h8 => ?_) (fun _h8 => ?_)
  · have _kb_8 := _h8
    have _h8 := bt_d _h8
    refine W_skip ?_
    refine thn_nrm (_hK_6 _ _ ?_)
    clear _hK_6
    refine W_block ?_
    refine W_seq fun _K_9 _hK_9 => ?_
    refine W_region ?_
    refine WL_step rfl rfl (r_move rfl) ?_
    refine WL_step rfl rfl (r_sub (by omega) rfl rfl) ?_
    refine WL_step rfl rfl (r_assign rfl) ?_
    refine WL_nil ?_
    refine thn_nrm (_hK_9 _ _ ?_)
    clear _hK_9
    refine W_region ?_
    refine WL_step rfl rfl (r_move rfl) ?_
    refine WL_step rfl rfl (r_sub (by omega) rfl rfl) ?_
    refine WL_step rfl rfl (r_move rfl) ?_
    refine WL_step rfl rfl (r_move rfl) ?_
    refine WL_s rfl rfl ?_
    have _f_10 := (_h_l.ch0 _E0h)
    refine (s_index (j := (k - 1).toNat) _f_10 Token.len el28 sz55 rfl rfl (by omega) (by omega) fun _p15 _y15 _hy15 _a15 => ?_)
    refine WL_step rfl rfl (r_loadAtA0 _a15 agg55 sz55 rfl) ?_
    refine WL_s rfl rfl ?_
    refine Step.call (r_call (xs := [.tmp 16]) fk56 rfl) (c_spec_l8Arity _y15 ) fun _v17 _w_11 _q17 => ?_
    obtain ⟨rfl, _cw_11⟩ := _q17
    have _cw_11z := _cw_11.size
    have E := E.trans _cw_11
    have _a17 := arT_cases _y15
    obtain ⟨s2, _p2, _l2, _o2⟩ := start_step hp ho (by omega) _h0 _hk _hy15
    have s3 := start_len _p2 (by omega)
    refine WL_step rfl rfl (r_add (by omega) rfl rfl) ?_
    refine WL_step rfl rfl (r_assign rfl) ?_
    refine WL_nil ?_
    refine inB_nrm ?_
    exact thn_nrm (Exists.intro (((n - 1) + arT _y15), (k - 1), s2) ⟨⟨E, (by omega), (by omega), (by omega), (by omega), _p2, _o2⟩, Sub.cons rfl (Sub.cons rfl (Sub.cons rfl (Sub.cons rfl (Sub.nil _)))), (by first | omega | (dsimp only; omega))⟩)
  · have _kb_8 := _h8
    have _h8 := bf_d _h8
    refine W_exit (thn_exit (thn_exit (inB_hit ?_)))
    refine thn_nrm (_hK_4 _ _ ?_)
    clear _hK_4
    refine W_seq fun _K_12 _hK_12 => ?_
    refine W_region ?_
    refine WL_step rfl rfl (r_move rfl) ?_
    refine WL_step rfl rfl (r_assign rfl) ?_
    refine WL_nil ?_
    refine thn_nrm (_hK_12 _ _ ?_)
    clear _hK_12
    refine W_ret ?_
    clear _hK_6
    exact ret_intro [_] ⟨rfl, trivial⟩ ⟨congrArg (Value.int .i64) (start_end hp hn (by omega) _h0 _hk), E⟩

end Go.Proofs.Ythcoliemlekojaa
