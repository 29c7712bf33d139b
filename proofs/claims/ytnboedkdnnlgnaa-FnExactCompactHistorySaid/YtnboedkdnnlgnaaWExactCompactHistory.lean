/- Walks of functions that FnExactCompactHistory reaches: what each returns, and that it leaves the memory that was there alone. -/
import Derived.Test.YtnboedkdnnlgnaaKF
import Derived.Test.YtnboedkdnnlgnaaKG
import Derived.Test.YtnboedkdnnlgnaaKH
import Derived.Test.YtnboedkdnnlgnaaKI
import Derived.Test.YtnboedkdnnlgnaaKJ
import Derived.Test.YtnboedkdnnlgnaaKM
import Derived.Test.YtnboedkdnnlgnaaKN
import Derived.Test.YtnboedkdnnlgnaaKO
import Derived.Test.YtnboedkdnnlgnaaKP
import Derived.Test.YtnboedkdnnlgnaaKQ
import Derived.Test.YtnboedkdnnlgnaaKR
import Derived.Test.YtnboedkdnnlgnaaKS
import Derived.Test.YtnboedkdnnlgnaaKT
import Derived.Test.YtnboedkdnnlgnaaKU
import Derived.Test.YtnboedkdnnlgnaaKV
import Derived.Test.YtnboedkdnnlgnaaKX
import Derived.Test.YtnboedkdnnlgnaaKY
import Derived.Test.YtnboedkdnnlgnaaKZ
import Derived.Test.YtnboedkdnnlgnaaJA
import Derived.Test.YtnboedkdnnlgnaaJB
import Derived.Test.YtnboedkdnnlgnaaJC
import Derived.Test.YtnboedkdnnlgnaaJD
import Derived.Test.YtnboedkdnnlgnaaJE
import Derived.Test.YtnboedkdnnlgnaaJF
import Derived.Test.YtnboedkdnnlgnaaJG
import Derived.Test.YtnboedkdnnlgnaaJH
import Derived.Test.YtnboedkdnnlgnaaJI
import Derived.Test.YtnboedkdnnlgnaaJK
import Derived.Test.YtnboedkdnnlgnaaJM
import Derived.Test.YtnboedkdnnlgnaaJN
import Derived.Test.YtnboedkdnnlgnaaJO
import Derived.Test.YtnboedkdnnlgnaaJP
import Derived.Test.YtnboedkdnnlgnaaJQ
import Derived.Test.YtnboedkdnnlgnaaJR
import Derived.Test.YtnboedkdnnlgnaaProg
namespace Go.Proofs.Ytnboedkdnnlgnaa
open Go.KLib Go.Shelf
set_option maxRecDepth 20000
set_option linter.unusedVariables false
set_option linter.unusedSimpArgs false
namespace TExactCompactHistory
theorem agg168 : aggB Try.prog 168 = some true := by kernel_rfl
theorem agg26 : aggB Try.prog 26 = some false := by kernel_rfl
theorem agg28 : aggB Try.prog 28 = some true := by kernel_rfl
theorem agg3 : aggB Try.prog 3 = some false := by kernel_rfl
theorem agg43 : aggB Try.prog 43 = some false := by kernel_rfl
theorem agg44 : aggB Try.prog 44 = some false := by kernel_rfl
theorem agg55 : aggB Try.prog 55 = some false := by kernel_rfl
theorem agg57 : aggB Try.prog 57 = some true := by kernel_rfl
theorem by168 : bytesB Try.prog 168 = some 32 := by kernel_rfl
theorem by3 : bytesB Try.prog 3 = some 8 := by kernel_rfl
theorem by57 : bytesB Try.prog 57 = some 48 := by kernel_rfl
theorem el26 : elB Try.prog 26 = some 57 := by kernel_rfl
theorem el43 : elB Try.prog 43 = some 3 := by kernel_rfl
theorem el44 : elB Try.prog 44 = some 171 := by kernel_rfl
theorem el55 : elB Try.prog 55 = some 168 := by kernel_rfl
theorem fa168_0 : faB Try.prog 168 0 = some 0 := by kernel_rfl
theorem fa168_1 : faB Try.prog 168 1 = some 1 := by kernel_rfl
theorem fa168_2 : faB Try.prog 168 2 = some 2 := by kernel_rfl
theorem fa168_3 : faB Try.prog 168 3 = some 3 := by kernel_rfl
theorem fa28_0 : faB Try.prog 28 0 = some 0 := by kernel_rfl
theorem fa28_1 : faB Try.prog 28 1 = some 1 := by kernel_rfl
theorem fa46_0 : faB Try.prog 46 0 = some 0 := by kernel_rfl
theorem fa46_1 : faB Try.prog 46 1 = some 1 := by kernel_rfl
theorem fa57_0 : faB Try.prog 57 0 = some 0 := by kernel_rfl
theorem fa57_1 : faB Try.prog 57 1 = some 1 := by kernel_rfl
theorem fk107 : fnB Try.prog 107 = true := by kernel_rfl
theorem fk113 : fnB Try.prog 113 = true := by kernel_rfl
theorem fk117 : fnB Try.prog 117 = true := by kernel_rfl
theorem fk118 : fnB Try.prog 118 = true := by kernel_rfl
theorem fk119 : fnB Try.prog 119 = true := by kernel_rfl
theorem fk133 : fnB Try.prog 133 = true := by kernel_rfl
theorem fk139 : fnB Try.prog 139 = true := by kernel_rfl
theorem fk156 : fnB Try.prog 156 = true := by kernel_rfl
theorem fk160 : fnB Try.prog 160 = true := by kernel_rfl
theorem fk165 : fnB Try.prog 165 = true := by kernel_rfl
theorem fk32 : fnB Try.prog 32 = true := by kernel_rfl
theorem fk59 : fnB Try.prog 59 = true := by kernel_rfl
theorem fk60 : fnB Try.prog 60 = true := by kernel_rfl
theorem fk61 : fnB Try.prog 61 = true := by kernel_rfl
theorem fk62 : fnB Try.prog 62 = true := by kernel_rfl
theorem fk63 : fnB Try.prog 63 = true := by kernel_rfl
theorem fk72 : fnB Try.prog 72 = true := by kernel_rfl
theorem fk73 : fnB Try.prog 73 = true := by kernel_rfl
theorem fk88 : fnB Try.prog 88 = true := by kernel_rfl
theorem fk89 : fnB Try.prog 89 = true := by kernel_rfl
theorem fk91 : fnB Try.prog 91 = true := by kernel_rfl
theorem fk92 : fnB Try.prog 92 = true := by kernel_rfl
theorem fk97 : fnB Try.prog 97 = true := by kernel_rfl
theorem mixed : Try.prog.follows .mixedOrders = true := by kernel_rfl
theorem pl28 : placesB Try.prog 28 = some [(0, 1), (1, 1)] := by kernel_rfl
theorem pl57 : placesB Try.prog 57 = some [(0, 1), (1, 1)] := by kernel_rfl
theorem sz168 : sizeB Try.prog 168 = some 4 := by kernel_rfl
theorem sz26 : sizeB Try.prog 26 = some 1 := by kernel_rfl
theorem sz28 : sizeB Try.prog 28 = some 2 := by kernel_rfl
theorem sz3 : sizeB Try.prog 3 = some 1 := by kernel_rfl
theorem sz57 : sizeB Try.prog 57 = some 2 := by kernel_rfl
theorem zr168 : zeroB Try.prog 168 = some (.agg #[.int .i64 0, .int .i64 0, .int .i64 0, .int .i64 0]) := by kernel_rfl
theorem zr28 : zeroB Try.prog 28 = some (.agg #[.int .i64 0, .slice none 0 0]) := by kernel_rfl
theorem zr3 : zeroB Try.prog 3 = some (.int .i64 0) := by kernel_rfl
theorem zr57 : zeroB Try.prog 57 = some (.agg #[.slice none 0 0, .slice none 0 0]) := by kernel_rfl
end TExactCompactHistory
open TExactCompactHistory

/-- impl.within -/
theorem c_impl_within {w : World} (n : Int) (a : Int) (b : Int) :
    Ctr Try.prog 107 #[(.int .i64 n), (.int .i64 a), (.int .i64 b)] w (fun v w' => v = .bool (decide (a ≤ n ∧ n ≤ b)) ∧ Ch [] w w') := by
  have E := Ch.refl [] w
  refine Ctr_of_W (N := 15) (vs0 := [(.int .i64 n), (.int .i64 a), (.int .i64 b)]) Try.func107 rfl rfl rfl ?_
  refine W_seq fun _K_1 _hK_1 => ?_
  refine W_region ?_
  refine WL_step rfl rfl (r_assign rfl) ?_
  refine WL_nil ?_
  refine thn_nrm (_hK_1 _ _ ?_)
  clear _hK_1
  refine W_seq fun _K_2 _hK_2 => ?_
  refine W_region ?_
  refine WL_step rfl rfl (r_move rfl) ?_
  refine WL_step rfl rfl (r_move rfl) ?_
  refine WL_step rfl rfl (r_geq rfl rfl) ?_
  refine WL_step rfl rfl (r_move rfl) ?_
  refine WL_split (d := 10) rfl (fun _h10 => ?_) (fun _h10 => ?_)
  · have _kb_3 := _h10
    have _h10 := bt_d _h10
    refine WL_step rfl rfl (r_move rfl) ?_
    refine WL_step rfl rfl (r_move rfl) ?_
    refine WL_step rfl rfl (r_leq rfl rfl) ?_
    refine WL_step rfl rfl (r_pickT rfl rfl) ?_
    refine WL_step rfl rfl (r_assign rfl) ?_
    refine WL_nil ?_
    refine thn_nrm (_hK_2 _ _ ?_)
    clear _hK_2
    refine W_ret ?_
    exact ret_intro [_] ⟨rfl, trivial⟩ ⟨congrArg Value.bool (by first | rfl | (rw [Bool.eq_iff_iff]; simp <;> omega) | (rw [Bool.eq_iff_iff]; simp_all; done) | simp_all), E⟩
  · have _kb_3 := _h10
    have _h10 := bf_d _h10
    refine WL_skip rfl rfl ?_
    refine WL_skip rfl rfl ?_
    refine WL_skip rfl rfl ?_
    refine WL_step rfl rfl (r_pickF rfl rfl) ?_
    refine WL_step rfl rfl (r_assign rfl) ?_
    refine WL_nil ?_
    refine thn_nrm (_hK_2 _ _ ?_)
    clear _hK_2
    refine W_ret ?_
    exact ret_intro [_] ⟨rfl, trivial⟩ ⟨congrArg Value.bool (by first | rfl | (rw [Bool.eq_iff_iff]; simp <;> omega) | (rw [Bool.eq_iff_iff]; simp_all; done) | simp_all), E⟩

/-- impl.edgeOk -/
theorem c_impl_edgeOk {w : World} (e : GEdge) (n : Int) (hn : 0 ≤ n ∧ n ≤ 9223372036854775807) :
    Ctr Try.prog 165 #[(.agg #[(.int .i64 e.id), (.int .i64 e.f), (.int .i64 e.t), (.int .i64 e.label)]), (.int .i64 n)] w (fun v w' => v = .bool (tt (EdgeOk (n - 1) e)) ∧ Ch [] w w') := by
  have E := Ch.refl [] w
  refine Ctr_of_W (N := 27) (vs0 := [(.agg #[(.int .i64 e.id), (.int .i64 e.f), (.int .i64 e.t), (.int .i64 e.label)]), (.int .i64 n)]) Try.func165 rfl rfl rfl ?_
  refine W_seq fun _K_1 _hK_1 => ?_
  refine W_region ?_
  refine WL_s rfl rfl ?_
  refine s_box rfl fun _b2 _w_2 _m2 _cw_2 _e2 => ?_
  have _cw_2z := _cw_2.size
  have E := E.trans _cw_2
  have _z2 := _m2.lt
  replace _m2 : Blk _w_2 _b2 168 [(.int .i64 e.id), (.int .i64 e.f), (.int .i64 e.t), (.int .i64 e.label)] := _m2
  refine WL_step rfl rfl (r_assign rfl) ?_
  refine WL_nil ?_
  refine thn_nrm (_hK_1 _ _ ?_)
  clear _hK_1
  refine W_seq fun _K_3 _hK_3 => ?_
  refine W_region ?_
  refine WL_step rfl rfl (r_fieldAddr fa168_0 rfl) ?_
  refine WL_step rfl rfl (r_loadAt _m2.at_ agg3 rfl rfl) ?_
  refine WL_s rfl rfl ?_
  refine Step.call (r_call (xs := [.tmp 6, .const (Go.Value.int Go.IntKind.i64 1), .const (Go.Value.int Go.IntKind.i64 99)]) fk107 rfl) (c_impl_within _ _ _ ) fun _v7 _w_4 _q7 => ?_
  obtain ⟨rfl, _cw_4⟩ := _q7
  have _cw_4z := _cw_4.size
  have E := E.trans _cw_4
  refine WL_step rfl rfl (r_move rfl) ?_
  refine WL_split (d := 8) rfl (fun _h8 => ?_) (fun _h8 => ?_)
  · have _kb_5 := _h8
    have _h8 := bt_d _h8
    refine WL_step rfl rfl (r_fieldAddr fa168_1 rfl) ?_
    have _f_6 := (_m2.ch0 _cw_4)
    refine WL_step rfl rfl (r_loadAt _f_6.at_ agg3 rfl rfl) ?_
    refine WL_step rfl rfl (r_move rfl) ?_
    refine WL_step rfl rfl (r_sub (by omega) rfl rfl) ?_
    refine WL_s rfl rfl ?_
    refine Step.call (r_call (xs := [.tmp 10, .const (Go.Value.int Go.IntKind.i64 0), .tmp 12]) fk107 rfl) (c_impl_within _ _ _ ) fun _v13 _w_7 _q13 => ?_
    obtain ⟨rfl, _cw_7⟩ := _q13
    have _cw_7z := _cw_7.size
    have E := E.trans _cw_7
    refine WL_step rfl rfl (r_pickT rfl rfl) ?_
    refine WL_step rfl rfl (r_move rfl) ?_
    refine WL_split (d := 15) rfl (fun _h15 => ?_) (fun _h15 => ?_)
    · have _kb_8 := _h15
      have _h15 := bt_d _h15
      refine WL_step rfl rfl (r_fieldAddr fa168_2 rfl) ?_
      have _f_9 := (_f_6.ch0 _cw_7)
      refine WL_step rfl rfl (r_loadAt _f_9.at_ agg3 rfl rfl) ?_
      refine WL_step rfl rfl (r_move rfl) ?_
      refine WL_step rfl rfl (r_sub (by omega) rfl rfl) ?_
      refine WL_s rfl rfl ?_
      refine Step.call (r_call (xs := [.tmp 17, .const (Go.Value.int Go.IntKind.i64 0), .tmp 19]) fk107 rfl) (c_impl_within _ _ _ ) fun _v20 _w_10 _q20 => ?_
      obtain ⟨rfl, _cw_10⟩ := _q20
      have _cw_10z := _cw_10.size
      have E := E.trans _cw_10
      refine WL_step rfl rfl (r_pickT rfl rfl) ?_
      refine WL_step rfl rfl (r_move rfl) ?_
      refine WL_split (d := 22) rfl (fun _h22 => ?_) (fun _h22 => ?_)
      · have _kb_11 := _h22
        have _h22 := bt_d _h22
        refine WL_step rfl rfl (r_fieldAddr fa168_3 rfl) ?_
        have _f_12 := (_f_9.ch0 _cw_10)
        refine WL_step rfl rfl (r_loadAt _f_12.at_ agg3 rfl rfl) ?_
        refine WL_s rfl rfl ?_
        refine Step.call (r_call (xs := [.tmp 24, .const (Go.Value.int Go.IntKind.i64 0), .const (Go.Value.int Go.IntKind.i64 2)]) fk107 rfl) (c_impl_within _ _ _ ) fun _v25 _w_13 _q25 => ?_
        obtain ⟨rfl, _cw_13⟩ := _q25
        have _cw_13z := _cw_13.size
        have E := E.trans _cw_13
        refine WL_step rfl rfl (r_pickT rfl rfl) ?_
        refine WL_step rfl rfl (r_assign rfl) ?_
        refine WL_nil ?_
        refine thn_nrm (_hK_3 _ _ ?_)
        clear _hK_3
        refine W_ret ?_
        exact ret_intro [_] ⟨rfl, trivial⟩ ⟨congrArg Value.bool (by first | exact tt_false (fun q => by unfold EdgeOk at q; omega) | (rw [tt_dec]; exact tt_eq ⟨fun q => by unfold EdgeOk; omega, fun q => by unfold EdgeOk at q; omega⟩)), E⟩
      · have _kb_11 := _h22
        have _h22 := bf_d _h22
        refine WL_skip rfl rfl ?_
        refine WL_skip rfl rfl ?_
        refine WL_skip rfl rfl ?_
        refine WL_step rfl rfl (r_pickF rfl rfl) ?_
        refine WL_step rfl rfl (r_assign rfl) ?_
        refine WL_nil ?_
        refine thn_nrm (_hK_3 _ _ ?_)
        clear _hK_3
        refine W_ret ?_
        exact ret_intro [_] ⟨rfl, trivial⟩ ⟨congrArg Value.bool (by first | exact tt_false (fun q => by unfold EdgeOk at q; omega) | (rw [tt_dec]; exact tt_eq ⟨fun q => by unfold EdgeOk; omega, fun q => by unfold EdgeOk at q; omega⟩)), E⟩
    · have _kb_8 := _h15
      have _h15 := bf_d _h15
      refine WL_skip rfl rfl ?_
      refine WL_skip rfl rfl ?_
      refine WL_skip rfl rfl ?_
      refine WL_skip rfl rfl ?_
      refine WL_skip rfl rfl ?_
      refine WL_step rfl rfl (r_pickF rfl rfl) ?_
      refine WL_step rfl rfl (r_move rfl) ?_
      refine WL_skip rfl rfl ?_
      refine WL_skip rfl rfl ?_
      refine WL_skip rfl rfl ?_
      refine WL_step rfl rfl (r_pickF rfl rfl) ?_
      refine WL_step rfl rfl (r_assign rfl) ?_
      refine WL_nil ?_
      refine thn_nrm (_hK_3 _ _ ?_)
      clear _hK_3
      refine W_ret ?_
      exact ret_intro [_] ⟨rfl, trivial⟩ ⟨congrArg Value.bool (by first | exact tt_false (fun q => by unfold EdgeOk at q; omega) | (rw [tt_dec]; exact tt_eq ⟨fun q => by unfold EdgeOk; omega, fun q => by unfold EdgeOk at q; omega⟩)), E⟩
  · have _kb_5 := _h8
    have _h8 := bf_d _h8
    refine WL_skip rfl rfl ?_
    refine WL_skip rfl rfl ?_
    refine WL_skip rfl rfl ?_
    refine WL_skip rfl rfl ?_
    refine WL_skip rfl rfl ?_
    refine WL_step rfl rfl (r_pickF rfl rfl) ?_
    refine WL_step rfl rfl (r_move rfl) ?_
    refine WL_skip rfl rfl ?_
    refine WL_skip rfl rfl ?_
    refine WL_skip rfl rfl ?_
    refine WL_skip rfl rfl ?_
    refine WL_skip rfl rfl ?_
    refine WL_step rfl rfl (r_pickF rfl rfl) ?_
    refine WL_step rfl rfl (r_move rfl) ?_
    refine WL_skip rfl rfl ?_
    refine WL_skip rfl rfl ?_
    refine WL_skip rfl rfl ?_
    refine WL_step rfl rfl (r_pickF rfl rfl) ?_
    refine WL_step rfl rfl (r_assign rfl) ?_
    refine WL_nil ?_
    refine thn_nrm (_hK_3 _ _ ?_)
    clear _hK_3
    refine W_ret ?_
    exact ret_intro [_] ⟨rfl, trivial⟩ ⟨congrArg Value.bool (by first | exact tt_false (fun q => by unfold EdgeOk at q; omega) | (rw [tt_dec]; exact tt_eq ⟨fun q => by unfold EdgeOk; omega, fun q => by unfold EdgeOk at q; omega⟩)), E⟩

/-- impl.IsValidGraph -/
theorem c_impl_IsValidGraph {w : World} {LL_gV _B_gV : Nat} {_v_gV : Value} {gV : List Int} (_h_gV : Ls ics 1 w LL_gV _B_gV _v_gV gV) {LL_gE _B_gE : Nat} {_v_gE : Value} {gE : List GEdge} (_h_gE : Ls GEdge.cs 4 w LL_gE _B_gE _v_gE gE) :
    Ctr Try.prog 133 #[(.agg #[_v_gV, _v_gE])] w (fun v w' => v = .bool (tt (ValidG gV gE)) ∧ Ch [] w w') := by
  obtain ⟨_A_gV, _C_gV, _e1_gV⟩ := _h_gV.val
  subst _e1_gV
  have _l_gV := _h_gV.len
  have _h_gV := _h_gV.here (by decide)
  obtain ⟨_A_gE, _C_gE, _e1_gE⟩ := _h_gE.val
  subst _e1_gE
  have _l_gE := _h_gE.len
  have _h_gE := _h_gE.here (by decide)
  have E := Ch.refl [] w
  refine Ctr_of_W (N := 59) (vs0 := [(.agg #[(.slice _A_gV gV.length _C_gV), (.slice _A_gE gE.length _C_gE)])]) Try.func133 rfl rfl rfl ?_
  refine W_seq fun _K_1 _hK_1 => ?_
  refine W_region ?_
  refine WL_s rfl rfl ?_
  refine s_box rfl fun _b1 _w_2 _m1 _cw_2 _e1 => ?_
  have _cw_2z := _cw_2.size
  have E := E.trans _cw_2
  have _z1 := _m1.lt
  replace _m1 : Blk _w_2 _b1 57 [(.slice _A_gV gV.length _C_gV), (.slice _A_gE gE.length _C_gE)] := _m1
  refine WL_step rfl rfl (r_assign rfl) ?_
  refine WL_nil ?_
  refine thn_nrm (_hK_1 _ _ ?_)
  clear _hK_1
  refine W_seq fun _K_3 _hK_3 => ?_
  refine W_region ?_
  refine WL_step rfl rfl (r_fieldAddr fa57_0 rfl) ?_
  refine WL_step rfl rfl (r_loadAt _m1.at_ agg43 rfl rfl) ?_
  refine WL_step rfl rfl (r_len (by rw [el43]; rfl) rfl) ?_
  refine WL_step rfl rfl (r_assign rfl) ?_
  refine WL_nil ?_
  refine thn_nrm (_hK_3 _ _ ?_)
  clear _hK_3
  refine W_seq fun _K_4 _hK_4 => ?_
  refine W_seq fun _K_5 _hK_5 => ?_
  refine W_region ?_
  refine WL_step rfl rfl (r_fieldAddr fa57_0 rfl) ?_
  refine WL_step rfl rfl (r_loadAt _m1.at_ agg43 rfl rfl) ?_
  refine WL_step rfl rfl (r_len (by rw [el43]; rfl) rfl) ?_
  refine WL_step rfl rfl (r_move rfl) ?_
  refine WL_nil ?_
  refine thn_nrm (_hK_5 _ _ ?_)
  clear _hK_5
  refine W_block ?_
  refine W_loop (σ := Nat) (fun (k : Nat) => [(1, (.pointer (some ⟨_b1, 0, none⟩))), (3, (.int .i64 ((gV.length : Nat) : Int))), (12, (.slice _A_gV gV.length _C_gV)), (13, (.int .i64 ((gV.length : Nat) : Int))), (14, (.int .i64 ((k : Nat) : Int)))]) (fun (k : Nat) wx => Ch [] w wx ∧ _w_2.heap.size ≤ wx.heap.size ∧ (k ≤ gV.length) ∧ (ValsP gV k) ∧ Blk wx _b1 57 [(.slice _A_gV gV.length _C_gV), (.slice _A_gE gE.length _C_gE)]) (fun (k : Nat) => gV.length - k) 0 (Sub.cons rfl (Sub.cons rfl (Sub.cons rfl (Sub.cons rfl (Sub.cons rfl (Sub.nil _)))))) ⟨E, (Nat.le_refl _), (by omega), (vals_zero _), _m1⟩ ?_
  rintro k _wr_6 ⟨E, _zz0, _hk, hv, _F0_0⟩
  have _E0h := E
  have _E0hz := _E0h.size
  have _F0_0z := _F0_0.lt
  refine W_seq fun _K_7 _hK_7 => ?_
  refine W_region ?_
  refine WL_step rfl rfl (r_lss rfl rfl) ?_
  refine WL_nil ?_
  refine thn_nrm (_hK_7 _ _ ?_)
  clear _hK_7
  refine W_seq fun _K_8 _hK_8 => ?_
  refine W_cond rfl (fun _h15 => ?_) (fun _h15 => ?_)
  · have _kb_9 := _h15
    have _h15 := bt_d _h15
    refine W_skip ?_
    refine thn_nrm (_hK_8 _ _ ?_)
    clear _hK_8
    refine W_seq fun _K_10 _hK_10 => ?_
    refine W_block ?_
    refine W_seq fun _K_11 _hK_11 => ?_
    refine W_region ?_
    refine WL_s rfl rfl ?_
    have _f_12 := (_h_gV.ch0 _E0h)
    refine (s_index _f_12 ics_len el43 sz3 rfl rfl rfl (by omega) fun _p16 _y16 _hy16 _a16 => ?_)
    refine WL_step rfl rfl (r_loadAt0 _a16 agg3 rfl rfl) ?_
    refine WL_step rfl rfl (r_assign rfl) ?_
    refine WL_nil ?_
    refine thn_nrm (_hK_11 _ _ ?_)
    clear _hK_11
    refine W_seq fun _K_13 _hK_13 => ?_
    refine W_region ?_
    refine WL_step rfl rfl (r_move rfl) ?_
    refine WL_s rfl rfl ?_
    refine Step.call (r_call (xs := [.tmp 18, .const (Go.Value.int Go.IntKind.i64 0), .const (Go.Value.int Go.IntKind.i64 2)]) fk107 rfl) (c_impl_within _ _ _ ) fun _v19 _w_14 _q19 => ?_
    obtain ⟨rfl, _cw_14⟩ := _q19
    have _cw_14z := _cw_14.size
    have E := E.trans _cw_14
    refine WL_step rfl rfl (r_not rfl) ?_
    refine WL_nil ?_
    refine thn_nrm (_hK_13 _ _ ?_)
    clear _hK_13
    refine W_cond rfl (fun _h20 => ?_) (fun _h20 => ?_)
    · have _kb_15 := _h20
      have _h20 := bf_d (bt_n _h20)
      refine W_seq fun _K_16 _hK_16 => ?_
      refine W_region ?_
      refine WL_step rfl rfl (r_assign rfl) ?_
      refine WL_nil ?_
      refine thn_nrm (_hK_16 _ _ ?_)
      clear _hK_16
      refine W_ret (inB_ret (thn_ret (thn_ret (inB_ret (thn_ret ?_)))))
      clear _hK_4 _hK_10
      exact ret_intro [_] ⟨rfl, trivial⟩ ⟨congrArg Value.bool (by first | exact tt_false (fun q => _h20 (vals_val q _hy16)) | exact tt_false (fun q => _h34 (edge_val q _hy28)) | exact tt_false (fun q => by have _e2 := gedge_lt2 q _hy28 _hy42 (by omega); omega) | exact vg_y hv (by omega) hE (by omega) (by omega) | exact tt_false (fun q => by have _e2 := q.2.2.1; omega)), E⟩
    · have _kb_15 := _h20
      have _h20 := bt_d (bf_n _h20)
      refine W_skip ?_
      refine inB_nrm ?_
      refine thn_nrm (_hK_10 _ _ ?_)
      clear _hK_10
      refine W_region ?_
      refine WL_step rfl rfl (r_add (by omega) rfl rfl) ?_
      refine WL_step rfl rfl (r_move rfl) ?_
      refine WL_nil ?_
      have _f_17 := (_F0_0.ch0 _cw_14)
      exact thn_nrm (Exists.intro (k + 1) ⟨⟨E, (by omega), (by omega), (vals_step hv _hy16 _h20), _f_17⟩, Sub.cons rfl (Sub.cons rfl (Sub.cons rfl (Sub.cons rfl (Sub.cons rfl (Sub.nil _))))), (by first | omega | (dsimp only; omega))⟩)
  · have _kb_9 := _h15
    have _h15 := bf_d _h15
    refine W_exit (thn_exit (thn_exit (inB_hit ?_)))
    refine thn_nrm (_hK_4 _ _ ?_)
    clear _hK_4
    refine W_seq fun _K_18 _hK_18 => ?_
    refine W_seq fun _K_19 _hK_19 => ?_
    refine W_region ?_
    refine WL_step rfl rfl (r_fieldAddr fa57_1 rfl) ?_
    refine WL_step rfl rfl (r_loadAt _F0_0.at_ agg55 rfl rfl) ?_
    refine WL_step rfl rfl (r_len (by rw [el55]; rfl) rfl) ?_
    refine WL_step rfl rfl (r_move rfl) ?_
    refine WL_nil ?_
    refine thn_nrm (_hK_19 _ _ ?_)
    clear _hK_19
    refine W_block ?_
    refine W_loop (σ := Nat) (fun (q : Nat) => [(1, (.pointer (some ⟨_b1, 0, none⟩))), (3, (.int .i64 ((gV.length : Nat) : Int))), (23, (.slice _A_gE gE.length _C_gE)), (24, (.int .i64 ((gE.length : Nat) : Int))), (25, (.int .i64 ((q : Nat) : Int)))]) (fun (q : Nat) wx => Ch [] w wx ∧ _wr_6.heap.size ≤ wx.heap.size ∧ (q ≤ gE.length) ∧ (EdgesP ((gV.length : Int) - 1) gE q) ∧ Blk wx _b1 57 [(.slice _A_gV gV.length _C_gV), (.slice _A_gE gE.length _C_gE)]) (fun (q : Nat) => gE.length - q) 0 (Sub.cons rfl (Sub.cons rfl (Sub.cons rfl (Sub.cons rfl (Sub.cons rfl (Sub.nil _)))))) ⟨E, (Nat.le_refl _), (by omega), (edges_zero _ _), _F0_0⟩ ?_
    rintro q _wr_20 ⟨E, _zz1, hq, hE, _F1_0⟩
    have _E1h := E
    have _E1hz := _E1h.size
    have _F1_0z := _F1_0.lt
    refine W_seq fun _K_21 _hK_21 => ?_
    refine W_region ?_
    refine WL_step rfl rfl (r_lss rfl rfl) ?_
    refine WL_nil ?_
    refine thn_nrm (_hK_21 _ _ ?_)
    clear _hK_21
    refine W_seq fun _K_22 _hK_22 => ?_
    refine W_cond rfl (fun _h26 => ?_) (fun _h26 => ?_)
    · have _kb_23 := _h26
      have _h26 := bt_d _h26
      refine W_skip ?_
      refine thn_nrm (_hK_22 _ _ ?_)
      clear _hK_22
      refine W_seq fun _K_24 _hK_24 => ?_
      refine W_block ?_
      refine W_seq fun _K_25 _hK_25 => ?_
      refine W_region ?_
      refine WL_step rfl rfl (r_move rfl) ?_
      refine WL_s rfl rfl ?_
      have _f_26 := (_h_gE.ch0 _E1h)
      refine (s_index _f_26 GEdge.len el55 sz168 rfl rfl rfl (by omega) fun _p28 _y28 _hy28 _a28 => ?_)
      refine WL_step rfl rfl (r_loadAtA0 _a28 agg168 sz168 rfl) ?_
      refine WL_s rfl rfl ?_
      refine s_alloc zr168 fun _b7 _w_27 _m7 _cw_27 _e7 => ?_
      have _cw_27z := _cw_27.size
      have E := E.trans _cw_27
      have _z7 := _m7.lt
      replace _m7 : Blk _w_27 _b7 168 [(.int .i64 0), (.int .i64 0), (.int .i64 0), (.int .i64 0)] := _m7
      refine WL_step rfl rfl (r_assign rfl) ?_
      refine WL_s rfl rfl ?_
      refine s_storeA (off := 0) 4 _m7 sz168 rfl (us := [(.int .i64 _y28.id), (.int .i64 _y28.f), (.int .i64 _y28.t), (.int .i64 _y28.label)]) rfl rfl rfl rfl fun _w_28 _m_29 _cw_28 => ?_
      have _cw_28z := _cw_28.size
      have E := E.step _cw_28 (fun i hi => .inl (by have _h1 := List.mem_singleton.1 hi; omega))
      replace _m_29 : Blk _w_28 _b7 168 [(.int .i64 _y28.id), (.int .i64 _y28.f), (.int .i64 _y28.t), (.int .i64 _y28.label)] := _m_29
      refine WL_nil ?_
      refine thn_nrm (_hK_25 _ _ ?_)
      clear _hK_25
      refine W_seq fun _K_30 _hK_30 => ?_
      refine W_drawC [] 20 mixed rfl fun _w_31 _cw_31 => ?_
      have _cw_31z := _cw_31.size
      have E := E.trans _cw_31
      have _f_32 := (_m_29.ch0 _cw_31)
      refine DR_s 0 rfl (by kernel_rfl) rfl rfl (t_loadAtA0 _f_32.at_ (fun i hi => absurd hi List.not_mem_nil) agg168 sz168 rfl ?_)
      refine DR_s 1 rfl (by kernel_rfl) rfl rfl (t_v (fun _ => (r_move rfl)) ?_)
      refine DR_one 2 (by kernel_rfl) ?_
      refine DO_s rfl rfl rfl ?_
      refine Step.call (r_call (xs := [.tmp 30, .tmp 31]) fk165 rfl) (c_impl_edgeOk _y28 _ (by omega)) fun _v32 _w_33 _q32 => ?_
      obtain ⟨rfl, _cw_33⟩ := _q32
      have _cw_33z := _cw_33.size
      have E := E.trans _cw_33
      have _S_34 : Ch [] _w_31 _w_33 := ((Ch.refl _ _).trans _cw_33)
      refine ⟨_S_34, ?_⟩
      refine DR_s 3 rfl (by kernel_rfl) rfl rfl (t_v (fun _ => (r_not rfl)) ?_)
      refine DR_s 4 rfl (by kernel_rfl) rfl rfl (t_v (fun _ => (r_move rfl)) ?_)
      refine DR_split (d := 34) rfl (fun _h34 => ?_) (fun _h34 => ?_)
      · have _kb_35 := _h34
        have _h34 := bf_t (bt_n _h34)
        refine DR_skip 5 rfl (by kernel_rfl) rfl rfl ?_
        refine DR_skip 6 rfl (by kernel_rfl) rfl rfl ?_
        refine DR_skip 7 rfl (by kernel_rfl) rfl rfl ?_
        refine DR_skip 8 rfl (by kernel_rfl) rfl rfl ?_
        refine DR_skip 9 rfl (by kernel_rfl) rfl rfl ?_
        refine DR_skip 10 rfl (by kernel_rfl) rfl rfl ?_
        refine DR_skip 11 rfl (by kernel_rfl) rfl rfl ?_
        refine DR_skip 12 rfl (by kernel_rfl) rfl rfl ?_
        refine DR_skip 13 rfl (by kernel_rfl) rfl rfl ?_
        refine DR_skip 14 rfl (by kernel_rfl) rfl rfl ?_
        refine DR_skip 15 rfl (by kernel_rfl) rfl rfl ?_
        refine DR_skip 16 rfl (by kernel_rfl) rfl rfl ?_
        refine DR_skip 17 rfl (by kernel_rfl) rfl rfl ?_
        refine DR_skip 18 rfl (by kernel_rfl) rfl rfl ?_
        refine DR_s 19 rfl (by kernel_rfl) rfl rfl (t_v (fun _ => (r_pickT rfl rfl)) ?_)
        refine DR_done (by kernel_rfl) ?_
        refine thn_nrm (_hK_30 _ _ ?_)
        clear _hK_30
        refine W_condT rfl ?_
        refine W_seq fun _K_36 _hK_36 => ?_
        refine W_region ?_
        refine WL_step rfl rfl (r_assign rfl) ?_
        refine WL_nil ?_
        refine thn_nrm (_hK_36 _ _ ?_)
        clear _hK_36
        refine W_ret (inB_ret (thn_ret (thn_ret (inB_ret (thn_ret ?_)))))
        clear _hK_8 _hK_18 _hK_24
        exact ret_intro [_] ⟨rfl, trivial⟩ ⟨congrArg Value.bool (by first | exact tt_false (fun q => _h20 (vals_val q _hy16)) | exact tt_false (fun q => _h34 (edge_val q _hy28)) | exact tt_false (fun q => by have _e2 := gedge_lt2 q _hy28 _hy42 (by omega); omega) | exact vg_y hv (by omega) hE (by omega) (by omega) | exact tt_false (fun q => by have _e2 := q.2.2.1; omega)), E⟩
      · have _kb_35 := _h34
        have _h34 := bt_t (bf_n _h34)
        refine DR_s 5 rfl (by kernel_rfl) rfl rfl (t_v (fun _ => (r_move rfl)) ?_)
        refine DR_s 6 rfl (by kernel_rfl) rfl rfl (t_v (fun _ => (r_gtr rfl rfl)) ?_)
        refine DR_s 7 rfl (by kernel_rfl) rfl rfl (t_v (fun _ => (r_move rfl)) ?_)
        refine DR_split (d := 37) rfl (fun _h37 => ?_) (fun _h37 => ?_)
        · have _kb_37 := _h37
          have _h37 := bt_d _h37
          refine DR_s 8 rfl (by kernel_rfl) rfl rfl (t_v (fun _ => (r_fieldAddr fa57_1 rfl)) ?_)
          have _f_38 := (((_F1_0.ch0 _cw_27).ch _cw_28 (fun hm => by have _h1 := List.mem_singleton.1 hm; omega)).ch0 _cw_31)
          refine DR_s 9 rfl (by kernel_rfl) rfl rfl (t_loadAt _f_38.at_ (fun i hi => absurd hi List.not_mem_nil) agg55 rfl rfl ?_)
          refine DR_s 10 rfl (by kernel_rfl) rfl rfl (t_v (fun _ => (r_move rfl)) ?_)
          refine DR_s 11 rfl (by kernel_rfl) rfl rfl (t_v (fun _ => (r_sub (by omega) rfl rfl)) ?_)
          have _f_39 := (((_f_26.ch0 _cw_27).ch _cw_28 (fun i hi => by have _h1 := List.mem_singleton.1 hi; omega)).ch0 _cw_31)
          refine DR_s 12 rfl (by kernel_rfl) rfl rfl (t_index (j := (((q : Nat) : Int) - 1).toNat) _f_39 GEdge.len el55 sz168 rfl rfl (by omega) (by omega) fun _p42 _y42 _hy42 _a42 => ?_)
          refine DR_s 13 rfl (by kernel_rfl) rfl rfl (t_v (fun _ => (r_fieldAddr fa168_0 rfl)) ?_)
          refine DR_s 14 rfl (by kernel_rfl) rfl rfl (t_loadAt _a42 (fun i hi => absurd hi List.not_mem_nil) agg3 rfl rfl ?_)
          refine DR_s 15 rfl (by kernel_rfl) rfl rfl (t_v (fun _ => (r_fieldAddr fa168_0 rfl)) ?_)
          refine DR_s 16 rfl (by kernel_rfl) rfl rfl (t_loadAt _f_32.at_ (fun i hi => absurd hi List.not_mem_nil) agg3 rfl rfl ?_)
          refine DR_s 17 rfl (by kernel_rfl) rfl rfl (t_v (fun _ => (r_geq rfl rfl)) ?_)
          refine DR_s 18 rfl (by kernel_rfl) rfl rfl (t_v (fun _ => (r_pickT rfl rfl)) ?_)
          refine DR_s 19 rfl (by kernel_rfl) rfl rfl (t_v (fun _ => (r_pickF rfl rfl)) ?_)
          refine DR_done (by kernel_rfl) ?_
          refine thn_nrm (_hK_30 _ _ ?_)
          clear _hK_30
          refine W_cond rfl (fun _h49 => ?_) (fun _h49 => ?_)
          · have _kb_40 := _h49
            have _h49 := bt_d _h49
            refine W_seq fun _K_41 _hK_41 => ?_
            refine W_region ?_
            refine WL_step rfl rfl (r_assign rfl) ?_
            refine WL_nil ?_
            refine thn_nrm (_hK_41 _ _ ?_)
            clear _hK_41
            refine W_ret (inB_ret (thn_ret (thn_ret (inB_ret (thn_ret ?_)))))
            clear _hK_8 _hK_18 _hK_24
            exact ret_intro [_] ⟨rfl, trivial⟩ ⟨congrArg Value.bool (by first | exact tt_false (fun q => _h20 (vals_val q _hy16)) | exact tt_false (fun q => _h34 (edge_val q _hy28)) | exact tt_false (fun q => by have _e2 := gedge_lt2 q _hy28 _hy42 (by omega); omega) | exact vg_y hv (by omega) hE (by omega) (by omega) | exact tt_false (fun q => by have _e2 := q.2.2.1; omega)), E⟩
          · have _kb_40 := _h49
            have _h49 := bf_d _h49
            refine W_skip ?_
            refine inB_nrm ?_
            refine thn_nrm (_hK_24 _ _ ?_)
            clear _hK_24
            refine W_region ?_
            refine WL_step rfl rfl (r_add (by omega) rfl rfl) ?_
            refine WL_step rfl rfl (r_move rfl) ?_
            refine WL_nil ?_
            have _f_42 := (_f_38.ch0 _cw_33)
            exact thn_nrm (Exists.intro (q + 1) ⟨⟨E, (by omega), (by omega), (by first | exact edges_step0 hE _hy28 _h34 (by omega) | (exact edges_stepj hE _hy28 _h34 _hy42 (by omega) (by first | omega | (rw [_u9]; omega)))), _f_42⟩, Sub.cons rfl (Sub.cons rfl (Sub.cons rfl (Sub.cons rfl (Sub.cons rfl (Sub.nil _))))), (by first | omega | (dsimp only; omega))⟩)
        · have _kb_37 := _h37
          have _h37 := bf_d _h37
          refine DR_skip 8 rfl (by kernel_rfl) rfl rfl ?_
          refine DR_skip 9 rfl (by kernel_rfl) rfl rfl ?_
          refine DR_skip 10 rfl (by kernel_rfl) rfl rfl ?_
          refine DR_skip 11 rfl (by kernel_rfl) rfl rfl ?_
          refine DR_skip 12 rfl (by kernel_rfl) rfl rfl ?_
          refine DR_skip 13 rfl (by kernel_rfl) rfl rfl ?_
          refine DR_skip 14 rfl (by kernel_rfl) rfl rfl ?_
          refine DR_skip 15 rfl (by kernel_rfl) rfl rfl ?_
          refine DR_skip 16 rfl (by kernel_rfl) rfl rfl ?_
          refine DR_skip 17 rfl (by kernel_rfl) rfl rfl ?_
          refine DR_s 18 rfl (by kernel_rfl) rfl rfl (t_v (fun _ => (r_pickF rfl rfl)) ?_)
          refine DR_s 19 rfl (by kernel_rfl) rfl rfl (t_v (fun _ => (r_pickF rfl rfl)) ?_)
          refine DR_done (by kernel_rfl) ?_
          refine thn_nrm (_hK_30 _ _ ?_)
          clear _hK_30
          refine W_condF rfl ?_
          refine W_skip ?_
          refine inB_nrm ?_
          refine thn_nrm (_hK_24 _ _ ?_)
          clear _hK_24
          refine W_region ?_
          refine WL_step rfl rfl (r_add (by omega) rfl rfl) ?_
          refine WL_step rfl rfl (r_move rfl) ?_
          refine WL_nil ?_
          have _f_43 := ((((_F1_0.ch0 _cw_27).ch _cw_28 (fun hm => by have _h1 := List.mem_singleton.1 hm; omega)).ch0 _cw_31).ch0 _cw_33)
          exact thn_nrm (Exists.intro (q + 1) ⟨⟨E, (by omega), (by omega), (by first | exact edges_step0 hE _hy28 _h34 (by omega) | (exact edges_stepj hE _hy28 _h34 _hy42 (by omega) (by first | omega | (rw [_u9]; omega)))), _f_43⟩, Sub.cons rfl (Sub.cons rfl (Sub.cons rfl (Sub.cons rfl (Sub.cons rfl (Sub.nil _))))), (by first | omega | (dsimp only; omega))⟩)
    · have _kb_23 := _h26
      have _h26 := bf_d _h26
      refine W_exit (thn_exit (thn_exit (inB_hit ?_)))
      refine thn_nrm (_hK_18 _ _ ?_)
      clear _hK_18
      refine W_seq fun _K_44 _hK_44 => ?_
      refine W_region ?_
      refine WL_step rfl rfl (r_move rfl) ?_
      refine WL_s rfl rfl ?_
      refine Step.call (r_call (xs := [.tmp 51, .const (Go.Value.int Go.IntKind.i64 1), .const (Go.Value.int Go.IntKind.i64 5)]) fk107 rfl) (c_impl_within _ _ _ ) fun _v52 _w_45 _q52 => ?_
      obtain ⟨rfl, _cw_45⟩ := _q52
      have _cw_45z := _cw_45.size
      have E := E.trans _cw_45
      refine WL_step rfl rfl (r_move rfl) ?_
      refine WL_split (d := 53) rfl (fun _h53 => ?_) (fun _h53 => ?_)
      · have _kb_46 := _h53
        have _h53 := bt_d _h53
        refine WL_step rfl rfl (r_fieldAddr fa57_1 rfl) ?_
        have _f_47 := (_F1_0.ch0 _cw_45)
        refine WL_step rfl rfl (r_loadAt _f_47.at_ agg55 rfl rfl) ?_
        refine WL_step rfl rfl (r_len (by rw [el55]; rfl) rfl) ?_
        refine WL_step rfl rfl (r_leq rfl rfl) ?_
        refine WL_step rfl rfl (r_pickT rfl rfl) ?_
        refine WL_step rfl rfl (r_assign rfl) ?_
        refine WL_nil ?_
        refine thn_nrm (_hK_44 _ _ ?_)
        clear _hK_44
        refine W_ret ?_
        clear _hK_8 _hK_22
        exact ret_intro [_] ⟨rfl, trivial⟩ ⟨congrArg Value.bool (by first | exact tt_false (fun q => _h20 (vals_val q _hy16)) | exact tt_false (fun q => _h34 (edge_val q _hy28)) | exact tt_false (fun q => by have _e2 := gedge_lt2 q _hy28 _hy42 (by omega); omega) | exact vg_y hv (by omega) hE (by omega) (by omega) | exact tt_false (fun q => by have _e2 := q.2.2.1; omega)), E⟩
      · have _kb_46 := _h53
        have _h53 := bf_d _h53
        refine WL_skip rfl rfl ?_
        refine WL_skip rfl rfl ?_
        refine WL_skip rfl rfl ?_
        refine WL_skip rfl rfl ?_
        refine WL_step rfl rfl (r_pickF rfl rfl) ?_
        refine WL_step rfl rfl (r_assign rfl) ?_
        refine WL_nil ?_
        refine thn_nrm (_hK_44 _ _ ?_)
        clear _hK_44
        refine W_ret ?_
        clear _hK_8 _hK_22
        exact ret_intro [_] ⟨rfl, trivial⟩ ⟨congrArg Value.bool (by first | exact tt_false (fun q => _h20 (vals_val q _hy16)) | exact tt_false (fun q => _h34 (edge_val q _hy28)) | exact tt_false (fun q => by have _e2 := gedge_lt2 q _hy28 _hy42 (by omega); omega) | exact vg_y hv (by omega) hE (by omega) (by omega) | exact tt_false (fun q => by have _e2 := q.2.2.1; omega)), E⟩

/-- slices.Equal[[]int,int] -/
theorem c_slices_Equal_int_int {w : World} {LL_a _B_a : Nat} {_v_a : Value} {a : List Int} (_h_a : Ls ics 1 w LL_a _B_a _v_a a) {LL_b _B_b : Nat} {_v_b : Value} {b : List Int} (_h_b : Ls ics 1 w LL_b _B_b _v_b b) :
    Ctr Try.prog 160 #[_v_a, _v_b] w (fun v w' => v = .bool (decide (a = b)) ∧ Ch [] w w') := by
  obtain ⟨_A_a, _C_a, _e1_a⟩ := _h_a.val
  subst _e1_a
  have _l_a := _h_a.len
  have _h_a := _h_a.here (by decide)
  obtain ⟨_A_b, _C_b, _e1_b⟩ := _h_b.val
  subst _e1_b
  have _l_b := _h_b.len
  have _h_b := _h_b.here (by decide)
  have E := Ch.refl [] w
  refine Ctr_of_W (N := 26) (vs0 := [(.slice _A_a a.length _C_a), (.slice _A_b b.length _C_b)]) Try.func160 rfl rfl rfl ?_
  refine W_seq fun _K_1 _hK_1 => ?_
  refine W_region ?_
  refine WL_step rfl rfl (r_assign rfl) ?_
  refine WL_nil ?_
  refine thn_nrm (_hK_1 _ _ ?_)
  clear _hK_1
  refine W_seq fun _K_2 _hK_2 => ?_
  refine W_seq fun _K_3 _hK_3 => ?_
  refine W_region ?_
  refine WL_step rfl rfl (r_move rfl) ?_
  refine WL_step rfl rfl (r_len (by rw [el43]; rfl) rfl) ?_
  refine WL_step rfl rfl (r_move rfl) ?_
  refine WL_step rfl rfl (r_len (by rw [el43]; rfl) rfl) ?_
  refine WL_step rfl rfl (r_neq rfl rfl) ?_
  refine WL_nil ?_
  refine thn_nrm (_hK_3 _ _ ?_)
  clear _hK_3
  refine W_cond rfl (fun _h10 => ?_) (fun _h10 => ?_)
  · have _kb_4 := _h10
    have _h10 := bf_d (bt_n _h10)
    refine W_seq fun _K_5 _hK_5 => ?_
    refine W_region ?_
    refine WL_step rfl rfl (r_assign rfl) ?_
    refine WL_nil ?_
    refine thn_nrm (_hK_5 _ _ ?_)
    clear _hK_5
    refine W_ret (thn_ret ?_)
    clear _hK_2
    exact ret_intro [_] ⟨rfl, trivial⟩ ⟨congrArg Value.bool (decide_eq_false (fun e => _h10 (by rw [e]))).symm, E⟩
  · have _kb_4 := _h10
    have _h10 := bt_d (bf_n _h10)
    refine W_skip ?_
    refine thn_nrm (_hK_2 _ _ ?_)
    clear _hK_2
    refine W_seq fun _K_6 _hK_6 => ?_
    refine W_seq fun _K_7 _hK_7 => ?_
    refine W_region ?_
    refine WL_step rfl rfl (r_move rfl) ?_
    refine WL_step rfl rfl (r_len (by rw [el43]; rfl) rfl) ?_
    refine WL_step rfl rfl (r_move rfl) ?_
    refine WL_nil ?_
    refine thn_nrm (_hK_7 _ _ ?_)
    clear _hK_7
    refine W_block ?_
    refine W_loop (σ := Nat) (fun (k : Nat) => [(0, (.slice _A_a a.length _C_a)), (1, (.slice _A_b b.length _C_b)), (12, (.int .i64 ((a.length : Nat) : Int))), (13, (.int .i64 ((k : Nat) : Int)))]) (fun (k : Nat) wx => Ch [] w wx ∧ w.heap.size ≤ wx.heap.size ∧ (k ≤ a.length) ∧ (a.take k = b.take k)) (fun (k : Nat) => a.length - k) 0 (Sub.cons rfl (Sub.cons rfl (Sub.cons rfl (Sub.cons rfl (Sub.nil _))))) ⟨E, (Nat.le_refl _), (by omega), rfl⟩ ?_
    rintro k _wr_8 ⟨E, _zz0, _hk, _ht⟩
    have _E0h := E
    have _E0hz := _E0h.size
    refine W_seq fun _K_9 _hK_9 => ?_
    refine W_region ?_
    refine WL_step rfl rfl (r_lss rfl rfl) ?_
    refine WL_nil ?_
    refine thn_nrm (_hK_9 _ _ ?_)
    clear _hK_9
    refine W_seq fun _K_10 _hK_10 => ?_
    refine W_cond rfl (fun _h14 => ?_) (fun _h14 => ?_)
    · have _kb_11 := _h14
      have _h14 := bt_d _h14
      refine W_skip ?_
      refine thn_nrm (_hK_10 _ _ ?_)
      clear _hK_10
      refine W_seq fun _K_12 _hK_12 => ?_
      refine W_block ?_
      refine W_seq fun _K_13 _hK_13 => ?_
      refine W_region ?_
      refine WL_step rfl rfl (r_move rfl) ?_
      refine WL_step rfl rfl (r_assign rfl) ?_
      refine WL_nil ?_
      refine thn_nrm (_hK_13 _ _ ?_)
      clear _hK_13
      refine W_seq fun _K_14 _hK_14 => ?_
      refine W_drawC [] 9 mixed rfl fun _w_15 _cw_15 => ?_
      have _cw_15z := _cw_15.size
      have E := E.trans _cw_15
      refine DR_s 0 rfl (by kernel_rfl) rfl rfl (t_v (fun _ => (r_move rfl)) ?_)
      refine DR_s 1 rfl (by kernel_rfl) rfl rfl (t_v (fun _ => (r_move rfl)) ?_)
      have _f_16 := ((_h_a.ch0 _E0h).ch0 _cw_15)
      refine DR_s 2 rfl (by kernel_rfl) rfl rfl (t_index _f_16 ics_len el43 sz3 rfl rfl rfl (by omega) fun _p18 _y18 _hy18 _a18 => ?_)
      refine DR_s 3 rfl (by kernel_rfl) rfl rfl (t_loadAt0 _a18 (fun i hi => absurd hi List.not_mem_nil) agg3 rfl rfl ?_)
      refine DR_s 4 rfl (by kernel_rfl) rfl rfl (t_v (fun _ => (r_move rfl)) ?_)
      refine DR_s 5 rfl (by kernel_rfl) rfl rfl (t_v (fun _ => (r_move rfl)) ?_)
      have _f_17 := ((_h_b.ch0 _E0h).ch0 _cw_15)
      refine DR_s 6 rfl (by kernel_rfl) rfl rfl (t_index _f_17 ics_len el43 sz3 rfl rfl rfl (by omega) fun _p22 _y22 _hy22 _a22 => ?_)
      refine DR_s 7 rfl (by kernel_rfl) rfl rfl (t_loadAt0 _a22 (fun i hi => absurd hi List.not_mem_nil) agg3 rfl rfl ?_)
      refine DR_s 8 rfl (by kernel_rfl) rfl rfl (t_v (fun _ => (r_neq rfl rfl)) ?_)
      refine DR_done (by kernel_rfl) ?_
      refine thn_nrm (_hK_14 _ _ ?_)
      clear _hK_14
      refine W_cond rfl (fun _h24 => ?_) (fun _h24 => ?_)
      · have _kb_18 := _h24
        have _h24 := bf_d (bt_n _h24)
        refine W_seq fun _K_19 _hK_19 => ?_
        refine W_region ?_
        refine WL_step rfl rfl (r_assign rfl) ?_
        refine WL_nil ?_
        refine thn_nrm (_hK_19 _ _ ?_)
        clear _hK_19
        refine W_ret (inB_ret (thn_ret (thn_ret (inB_ret (thn_ret ?_)))))
        clear _hK_6 _hK_12
        exact ret_intro [_] ⟨rfl, trivial⟩ ⟨congrArg Value.bool (decide_eq_false (ne_of_get _hy18 _hy22 _h24)).symm, E⟩
      · have _kb_18 := _h24
        have _h24 := bt_d (bf_n _h24)
        refine W_skip ?_
        refine inB_nrm ?_
        refine thn_nrm (_hK_12 _ _ ?_)
        clear _hK_12
        refine W_region ?_
        refine WL_step rfl rfl (r_add (by omega) rfl rfl) ?_
        refine WL_step rfl rfl (r_move rfl) ?_
        refine WL_nil ?_
        exact thn_nrm (Exists.intro (k + 1) ⟨⟨E, (by omega), (by omega), (take_eq_succ _ht _hy18 _hy22 _h24)⟩, Sub.cons rfl (Sub.cons rfl (Sub.cons rfl (Sub.cons rfl (Sub.nil _)))), (by first | omega | (dsimp only; omega))⟩)
    · have _kb_11 := _h14
      have _h14 := bf_d _h14
      refine W_exit (thn_exit (thn_exit (inB_hit ?_)))
      refine thn_nrm (_hK_6 _ _ ?_)
      clear _hK_6
      refine W_seq fun _K_20 _hK_20 => ?_
      refine W_region ?_
      refine WL_step rfl rfl (r_assign rfl) ?_
      refine WL_nil ?_
      refine thn_nrm (_hK_20 _ _ ?_)
      clear _hK_20
      refine W_ret ?_
      clear _hK_10
      exact ret_intro [_] ⟨rfl, trivial⟩ ⟨congrArg Value.bool (decide_eq_true (eq_of_take _ht (by omega) (by omega))).symm, E⟩

/-- impl.IsValidHistory -/
theorem c_impl_IsValidHistory {w : World} (hF : Int) {LL_shG _B_shG : Nat} {_v_shG : Value} {shG : List Gv} (_h_shG : Ls Gv.cs 2 w LL_shG _B_shG _v_shG shG) {LR_hG BB_hG : Nat} {hG : List GD} (_rd_hG : RdG w LR_hG BB_hG shG hG) :
    Ctr Try.prog 118 #[(.agg #[(.int .i64 hF), _v_shG])] w (fun v w' => v = .bool (tt (ValidH hF hG)) ∧ Ch [] w w') := by
  obtain ⟨_A_shG, _C_shG, _e1_shG⟩ := _h_shG.val
  subst _e1_shG
  have _l_shG := _h_shG.len
  have _h_shG := _h_shG.here (by decide)
  have _rd_hG := _rd_hG.here
  have _rl_hG := _rd_hG.1
  have E := Ch.refl [] w
  refine Ctr_of_W (N := 43) (vs0 := [(.agg #[(.int .i64 hF), (.slice _A_shG shG.length _C_shG)])]) Try.func118 rfl rfl rfl ?_
  refine W_seq fun _K_1 _hK_1 => ?_
  refine W_region ?_
  refine WL_s rfl rfl ?_
  refine s_box rfl fun _b1 _w_2 _m1 _cw_2 _e1 => ?_
  have _cw_2z := _cw_2.size
  have E := E.trans _cw_2
  have _z1 := _m1.lt
  replace _m1 : Blk _w_2 _b1 28 [(.int .i64 hF), (.slice _A_shG shG.length _C_shG)] := _m1
  refine WL_step rfl rfl (r_assign rfl) ?_
  refine WL_nil ?_
  refine thn_nrm (_hK_1 _ _ ?_)
  clear _hK_1
  refine W_seq fun _K_3 _hK_3 => ?_
  refine W_region ?_
  refine WL_step rfl rfl (r_fieldAddr fa28_1 rfl) ?_
  refine WL_step rfl rfl (r_loadAt _m1.at_ agg26 rfl rfl) ?_
  refine WL_step rfl rfl (r_len (by rw [el26]; rfl) rfl) ?_
  refine WL_step rfl rfl (r_assign rfl) ?_
  refine WL_nil ?_
  refine thn_nrm (_hK_3 _ _ ?_)
  clear _hK_3
  refine W_seq fun _K_4 _hK_4 => ?_
  refine W_seq fun _K_5 _hK_5 => ?_
  refine W_region ?_
  refine WL_step rfl rfl (r_move rfl) ?_
  refine WL_s rfl rfl ?_
  refine Step.call (r_call (xs := [.tmp 9, .const (Go.Value.int Go.IntKind.i64 1), .const (Go.Value.int Go.IntKind.i64 8)]) fk107 rfl) (c_impl_within _ _ _ ) fun _v10 _w_6 _q10 => ?_
  obtain ⟨rfl, _cw_6⟩ := _q10
  have _cw_6z := _cw_6.size
  have E := E.trans _cw_6
  refine WL_step rfl rfl (r_not rfl) ?_
  refine WL_step rfl rfl (r_move rfl) ?_
  refine WL_split (d := 12) rfl (fun _h12 => ?_) (fun _h12 => ?_)
  · have _kb_7 := _h12
    have _h12 := bf_d (bt_n _h12)
    refine WL_skip rfl rfl ?_
    refine WL_skip rfl rfl ?_
    refine WL_skip rfl rfl ?_
    refine WL_skip rfl rfl ?_
    refine WL_skip rfl rfl ?_
    refine WL_skip rfl rfl ?_
    refine WL_skip rfl rfl ?_
    refine WL_step rfl rfl (r_pickT rfl rfl) ?_
    refine WL_nil ?_
    refine thn_nrm (_hK_5 _ _ ?_)
    clear _hK_5
    refine W_condT rfl ?_
    refine W_seq fun _K_8 _hK_8 => ?_
    refine W_region ?_
    refine WL_step rfl rfl (r_assign rfl) ?_
    refine WL_nil ?_
    refine thn_nrm (_hK_8 _ _ ?_)
    clear _hK_8
    refine W_ret (thn_ret ?_)
    clear _hK_4
    exact ret_intro [_] ⟨rfl, trivial⟩ ⟨congrArg Value.bool (by first | exact tt_false (fun q => _h31 (valh_val q _hys26)) | exact tt_false (fun q => _h41 (valh_same q _hys26 _hys36)) | exact vh_t hs (by omega) (by omega) (by omega) | exact tt_false (fun q => by have _e2 := q.2; omega)), E⟩
  · have _kb_7 := _h12
    have _h12 := bt_d (bf_n _h12)
    refine WL_step rfl rfl (r_fieldAddr fa28_0 rfl) ?_
    have _f_9 := (_m1.ch0 _cw_6)
    refine WL_step rfl rfl (r_loadAt _f_9.at_ agg3 rfl rfl) ?_
    refine WL_step rfl rfl (r_move rfl) ?_
    refine WL_step rfl rfl (r_sub (by omega) rfl rfl) ?_
    refine WL_step rfl rfl (r_add (by omega) rfl rfl) ?_
    refine WL_s rfl rfl ?_
    refine Step.call (r_call (xs := [.tmp 14, .const (Go.Value.int Go.IntKind.i64 1), .tmp 17]) fk107 rfl) (c_impl_within _ _ _ ) fun _v18 _w_10 _q18 => ?_
    obtain ⟨rfl, _cw_10⟩ := _q18
    have _cw_10z := _cw_10.size
    have E := E.trans _cw_10
    refine WL_step rfl rfl (r_not rfl) ?_
    refine WL_step rfl rfl (r_pickF rfl rfl) ?_
    refine WL_nil ?_
    refine thn_nrm (_hK_5 _ _ ?_)
    clear _hK_5
    refine W_cond rfl (fun _h20 => ?_) (fun _h20 => ?_)
    · have _kb_11 := _h20
      have _h20 := bf_d (bt_n _h20)
      refine W_seq fun _K_12 _hK_12 => ?_
      refine W_region ?_
      refine WL_step rfl rfl (r_assign rfl) ?_
      refine WL_nil ?_
      refine thn_nrm (_hK_12 _ _ ?_)
      clear _hK_12
      refine W_ret (thn_ret ?_)
      clear _hK_4
      exact ret_intro [_] ⟨rfl, trivial⟩ ⟨congrArg Value.bool (by first | exact tt_false (fun q => _h31 (valh_val q _hys26)) | exact tt_false (fun q => _h41 (valh_same q _hys26 _hys36)) | exact vh_t hs (by omega) (by omega) (by omega) | exact tt_false (fun q => by have _e2 := q.2; omega)), E⟩
    · have _kb_11 := _h20
      have _h20 := bt_d (bf_n _h20)
      refine W_skip ?_
      refine thn_nrm (_hK_4 _ _ ?_)
      clear _hK_4
      refine W_seq fun _K_13 _hK_13 => ?_
      refine W_seq fun _K_14 _hK_14 => ?_
      refine W_region ?_
      refine WL_step rfl rfl (r_fieldAddr fa28_1 rfl) ?_
      have _f_15 := (_f_9.ch0 _cw_10)
      refine WL_step rfl rfl (r_loadAt _f_15.at_ agg26 rfl rfl) ?_
      refine WL_step rfl rfl (r_len (by rw [el26]; rfl) rfl) ?_
      refine WL_step rfl rfl (r_move rfl) ?_
      refine WL_nil ?_
      refine thn_nrm (_hK_14 _ _ ?_)
      clear _hK_14
      refine W_block ?_
      refine W_loop (σ := Nat) (fun (k : Nat) => [(1, (.pointer (some ⟨_b1, 0, none⟩))), (22, (.slice _A_shG shG.length _C_shG)), (23, (.int .i64 ((shG.length : Nat) : Int))), (24, (.int .i64 ((k : Nat) : Int)))]) (fun (k : Nat) wx => Ch [] w wx ∧ _w_10.heap.size ≤ wx.heap.size ∧ (k ≤ hG.length) ∧ (SameV hG k) ∧ Blk wx _b1 28 [(.int .i64 hF), (.slice _A_shG shG.length _C_shG)]) (fun (k : Nat) => hG.length - k) 0 (Sub.cons rfl (Sub.cons rfl (Sub.cons rfl (Sub.cons rfl (Sub.nil _))))) ⟨E, (Nat.le_refl _), (by omega), (same_zero _), _f_15⟩ ?_
      rintro k _wr_16 ⟨E, _zz0, _hk, hs, _F0_0⟩
      have _E0h := E
      have _E0hz := _E0h.size
      have _F0_0z := _F0_0.lt
      refine W_seq fun _K_17 _hK_17 => ?_
      refine W_region ?_
      refine WL_step rfl rfl (r_lss rfl rfl) ?_
      refine WL_nil ?_
      refine thn_nrm (_hK_17 _ _ ?_)
      clear _hK_17
      refine W_seq fun _K_18 _hK_18 => ?_
      refine W_cond rfl (fun _h25 => ?_) (fun _h25 => ?_)
      · have _kb_19 := _h25
        have _h25 := bt_d _h25
        refine W_skip ?_
        refine thn_nrm (_hK_18 _ _ ?_)
        clear _hK_18
        refine W_seq fun _K_20 _hK_20 => ?_
        refine W_block ?_
        refine W_seq fun _K_21 _hK_21 => ?_
        refine W_region ?_
        refine WL_s rfl rfl ?_
        have _f_22 := (_h_shG.ch0 _E0h)
        refine (s_index _f_22 Gv.len el26 sz57 rfl rfl rfl (by omega) fun _p26 _y26 _hy26 _a26 => ?_)
        have _f_23 := (_rd_hG.ch0 _E0h)
        obtain ⟨_ys26, _hys26, _fs26, fe26⟩ := _f_23.get _hy26
        obtain ⟨⟨_A26, _n26, _C26⟩, ⟨Ae26, ne26, Ce26⟩⟩ := _y26
        obtain rfl := _fs26.eqn
        obtain rfl := fe26.eqn
        have _l26 := _fs26.len
        have le26 := fe26.len
        replace _fs26 : Ls ics 1 _wr_16 LR_hG w.heap.size (.slice _A26 _ys26.V.length _C26) _ys26.V := _fs26
        replace fe26 : Ls GEdge.cs 4 _wr_16 LR_hG w.heap.size (.slice Ae26 _ys26.E.length Ce26) _ys26.E := fe26
        refine WL_step rfl rfl (r_loadAtA0 _a26 agg57 sz57 rfl) ?_
        refine WL_s rfl rfl ?_
        refine s_alloc zr57 fun _b5 _w_24 _m5 _cw_24 _e5 => ?_
        have _cw_24z := _cw_24.size
        have E := E.trans _cw_24
        have _z5 := _m5.lt
        replace _m5 : Blk _w_24 _b5 57 [(.slice none 0 0), (.slice none 0 0)] := _m5
        refine WL_s rfl rfl ?_
        refine s_storeA (off := 0) 2 _m5 sz57 rfl (us := [(.slice _A26 _ys26.V.length _C26), (.slice Ae26 _ys26.E.length Ce26)]) rfl rfl rfl rfl fun _w_25 _m_26 _cw_25 => ?_
        have _cw_25z := _cw_25.size
        have E := E.step _cw_25 (fun i hi => .inl (by have _h1 := List.mem_singleton.1 hi; omega))
        replace _m_26 : Blk _w_25 _b5 57 [(.slice _A26 _ys26.V.length _C26), (.slice Ae26 _ys26.E.length Ce26)] := _m_26
        refine WL_nil ?_
        refine thn_nrm (_hK_21 _ _ ?_)
        clear _hK_21
        refine W_seq fun _K_27 _hK_27 => ?_
        refine W_drawC [] 14 mixed rfl fun _w_28 _cw_28 => ?_
        have _cw_28z := _cw_28.size
        have E := E.trans _cw_28
        have _f_29 := (_m_26.ch0 _cw_28)
        refine DR_s 0 rfl (by kernel_rfl) rfl rfl (t_loadAtA0 _f_29.at_ (fun i hi => absurd hi List.not_mem_nil) agg57 sz57 rfl ?_)
        refine DR_one 1 (by kernel_rfl) ?_
        refine DO_s rfl rfl rfl ?_
        have _f_30 := (((_fs26.ch0 _cw_24).ch _cw_25 (fun i hi => by have _h1 := List.mem_singleton.1 hi; omega)).ch0 _cw_28)
        have _f_31 := (((fe26.ch0 _cw_24).ch _cw_25 (fun i hi => by have _h1 := List.mem_singleton.1 hi; omega)).ch0 _cw_28)
        refine Step.call (r_call (xs := [.tmp 28]) fk133 rfl) (c_impl_IsValidGraph _f_30 _f_31 ) fun _v29 _w_32 _q29 => ?_
        obtain ⟨rfl, _cw_32⟩ := _q29
        have _cw_32z := _cw_32.size
        have E := E.trans _cw_32
        have _S_33 : Ch [] _w_28 _w_32 := ((Ch.refl _ _).trans _cw_32)
        refine ⟨_S_33, ?_⟩
        refine DR_s 2 rfl (by kernel_rfl) rfl rfl (t_v (fun _ => (r_not rfl)) ?_)
        refine DR_s 3 rfl (by kernel_rfl) rfl rfl (t_v (fun _ => (r_move rfl)) ?_)
        refine DR_split (d := 31) rfl (fun _h31 => ?_) (fun _h31 => ?_)
        · have _kb_34 := _h31
          have _h31 := bf_t (bt_n _h31)
          refine DR_skip 4 rfl (by kernel_rfl) rfl rfl ?_
          refine DR_skip 5 rfl (by kernel_rfl) rfl rfl ?_
          refine DR_skip 6 rfl (by kernel_rfl) rfl rfl ?_
          refine DR_skip 7 rfl (by kernel_rfl) rfl rfl ?_
          refine DR_skip 8 rfl (by kernel_rfl) rfl rfl ?_
          refine DR_skip 9 rfl (by kernel_rfl) rfl rfl ?_
          refine DR_skip 10 rfl (by kernel_rfl) rfl rfl ?_
          refine DR_skip 11 rfl (by kernel_rfl) rfl rfl ?_
          refine DR_skip 12 rfl (by kernel_rfl) rfl rfl ?_
          refine DR_s 13 rfl (by kernel_rfl) rfl rfl (t_v (fun _ => (r_pickT rfl rfl)) ?_)
          refine DR_done (by kernel_rfl) ?_
          refine thn_nrm (_hK_27 _ _ ?_)
          clear _hK_27
          refine W_condT rfl ?_
          refine W_seq fun _K_35 _hK_35 => ?_
          refine W_region ?_
          refine WL_step rfl rfl (r_assign rfl) ?_
          refine WL_nil ?_
          refine thn_nrm (_hK_35 _ _ ?_)
          clear _hK_35
          refine W_ret (inB_ret (thn_ret (thn_ret (inB_ret (thn_ret ?_)))))
          clear _hK_13 _hK_20
          exact ret_intro [_] ⟨rfl, trivial⟩ ⟨congrArg Value.bool (by first | exact tt_false (fun q => _h31 (valh_val q _hys26)) | exact tt_false (fun q => _h41 (valh_same q _hys26 _hys36)) | exact vh_t hs (by omega) (by omega) (by omega) | exact tt_false (fun q => by have _e2 := q.2; omega)), E⟩
        · have _kb_34 := _h31
          have _h31 := bt_t (bf_n _h31)
          refine DR_s 4 rfl (by kernel_rfl) rfl rfl (t_v (fun _ => (r_fieldAddr fa57_0 rfl)) ?_)
          refine DR_s 5 rfl (by kernel_rfl) rfl rfl (t_loadAt _f_29.at_ (fun i hi => absurd hi List.not_mem_nil) agg43 rfl rfl ?_)
          refine DR_s 6 rfl (by kernel_rfl) rfl rfl (t_v (fun _ => (r_fieldAddr fa28_1 rfl)) ?_)
          have _f_36 := (((_F0_0.ch0 _cw_24).ch _cw_25 (fun hm => by have _h1 := List.mem_singleton.1 hm; omega)).ch0 _cw_28)
          refine DR_s 7 rfl (by kernel_rfl) rfl rfl (t_loadAt _f_36.at_ (fun i hi => absurd hi List.not_mem_nil) agg26 rfl rfl ?_)
          have _f_37 := (((_f_22.ch0 _cw_24).ch _cw_25 (fun i hi => by have _h1 := List.mem_singleton.1 hi; omega)).ch0 _cw_28)
          have _f_38 := (((_f_23.ch0 _cw_24).ch _cw_25 (fun i hi => by have _h1 := List.mem_singleton.1 hi; omega)).ch0 _cw_28)
          refine DR_s 8 rfl (by kernel_rfl) rfl rfl (t_index (j := 0) _f_37 Gv.len el26 sz57 rfl rfl rfl (by omega) fun _p36 _y36 _hy36 _a36 => ?_)
          obtain ⟨_ys36, _hys36, _fs36, fe36⟩ := _f_38.get _hy36
          obtain ⟨⟨_A36, _n36, _C36⟩, ⟨Ae36, ne36, Ce36⟩⟩ := _y36
          obtain rfl := _fs36.eqn
          obtain rfl := fe36.eqn
          have _l36 := _fs36.len
          have le36 := fe36.len
          replace _fs36 : Ls ics 1 _w_28 LR_hG w.heap.size (.slice _A36 _ys36.V.length _C36) _ys36.V := _fs36
          replace fe36 : Ls GEdge.cs 4 _w_28 LR_hG w.heap.size (.slice Ae36 _ys36.E.length Ce36) _ys36.E := fe36
          refine DR_s 9 rfl (by kernel_rfl) rfl rfl (t_v (fun _ => (r_fieldAddr fa57_0 rfl)) ?_)
          refine DR_s 10 rfl (by kernel_rfl) rfl rfl (t_loadAt _a36 (fun i hi => absurd hi List.not_mem_nil) agg43 rfl rfl ?_)
          refine DR_one 11 (by kernel_rfl) ?_
          refine DO_s rfl rfl rfl ?_
          have _f_39 := (_f_30.ch0 _cw_32)
          have _f_40 := (_fs36.ch0 _cw_32)
          refine Step.call (r_call (xs := [.tmp 33, .tmp 38]) fk160 rfl) (c_slices_Equal_int_int _f_39 _f_40 ) fun _v39 _w_41 _q39 => ?_
          obtain ⟨rfl, _cw_41⟩ := _q39
          have _cw_41z := _cw_41.size
          have E := E.trans _cw_41
          have _S_42 : Ch [] _w_28 _w_41 := (_S_33.trans _cw_41)
          refine ⟨_S_42, ?_⟩
          refine DR_s 12 rfl (by kernel_rfl) rfl rfl (t_v (fun _ => (r_not rfl)) ?_)
          refine DR_s 13 rfl (by kernel_rfl) rfl rfl (t_v (fun _ => (r_pickF rfl rfl)) ?_)
          refine DR_done (by kernel_rfl) ?_
          refine thn_nrm (_hK_27 _ _ ?_)
          clear _hK_27
          refine W_cond rfl (fun _h41 => ?_) (fun _h41 => ?_)
          · have _kb_43 := _h41
            have _h41 := bf_d (bt_n _h41)
            refine W_seq fun _K_44 _hK_44 => ?_
            refine W_region ?_
            refine WL_step rfl rfl (r_assign rfl) ?_
            refine WL_nil ?_
            refine thn_nrm (_hK_44 _ _ ?_)
            clear _hK_44
            refine W_ret (inB_ret (thn_ret (thn_ret (inB_ret (thn_ret ?_)))))
            clear _hK_13 _hK_20
            exact ret_intro [_] ⟨rfl, trivial⟩ ⟨congrArg Value.bool (by first | exact tt_false (fun q => _h31 (valh_val q _hys26)) | exact tt_false (fun q => _h41 (valh_same q _hys26 _hys36)) | exact vh_t hs (by omega) (by omega) (by omega) | exact tt_false (fun q => by have _e2 := q.2; omega)), E⟩
          · have _kb_43 := _h41
            have _h41 := bt_d (bf_n _h41)
            refine W_skip ?_
            refine inB_nrm ?_
            refine thn_nrm (_hK_20 _ _ ?_)
            clear _hK_20
            refine W_region ?_
            refine WL_step rfl rfl (r_add (by omega) rfl rfl) ?_
            refine WL_step rfl rfl (r_move rfl) ?_
            refine WL_nil ?_
            have _f_45 := ((_f_36.ch0 _cw_32).ch0 _cw_41)
            exact thn_nrm (Exists.intro (k + 1) ⟨⟨E, (by omega), (by omega), (same_step hs _hys26 _hys36 _h31 _h41), _f_45⟩, Sub.cons rfl (Sub.cons rfl (Sub.cons rfl (Sub.cons rfl (Sub.nil _)))), (by first | omega | (dsimp only; omega))⟩)
      · have _kb_19 := _h25
        have _h25 := bf_d _h25
        refine W_exit (thn_exit (thn_exit (inB_hit ?_)))
        refine thn_nrm (_hK_13 _ _ ?_)
        clear _hK_13
        refine W_seq fun _K_46 _hK_46 => ?_
        refine W_region ?_
        refine WL_step rfl rfl (r_assign rfl) ?_
        refine WL_nil ?_
        refine thn_nrm (_hK_46 _ _ ?_)
        clear _hK_46
        refine W_ret ?_
        clear _hK_18
        exact ret_intro [_] ⟨rfl, trivial⟩ ⟨congrArg Value.bool (by first | exact tt_false (fun q => _h31 (valh_val q _hys26)) | exact tt_false (fun q => _h41 (valh_same q _hys26 _hys36)) | exact vh_t hs (by omega) (by omega) (by omega) | exact tt_false (fun q => by have _e2 := q.2; omega)), E⟩

/-- impl.LatestVersion -/
theorem c_impl_LatestVersion {w : World} (hF : Int) {LL_shG _B_shG : Nat} {_v_shG : Value} {shG : List Gv} (_h_shG : Ls Gv.cs 2 w LL_shG _B_shG _v_shG shG) {LR_hG BB_hG : Nat} {hG : List GD} (_rd_hG : RdG w LR_hG BB_hG shG hG) :
    Ctr Try.prog 97 #[(.agg #[(.int .i64 hF), _v_shG])] w (fun v w' => v = .int .i64 (lvR hF hG) ∧ Ch [] w w') := by
  obtain ⟨_A_shG, _C_shG, _e1_shG⟩ := _h_shG.val
  subst _e1_shG
  have _l_shG := _h_shG.len
  have _h_shG := _h_shG.here (by decide)
  have _rd_hG := _rd_hG.here
  have _rl_hG := _rd_hG.1
  have E := Ch.refl [] w
  refine Ctr_of_W (N := 13) (vs0 := [(.agg #[(.int .i64 hF), (.slice _A_shG shG.length _C_shG)])]) Try.func97 rfl rfl rfl ?_
  refine W_seq fun _K_1 _hK_1 => ?_
  refine W_region ?_
  refine WL_s rfl rfl ?_
  refine s_box rfl fun _b1 _w_2 _m1 _cw_2 _e1 => ?_
  have _cw_2z := _cw_2.size
  have E := E.trans _cw_2
  have _z1 := _m1.lt
  replace _m1 : Blk _w_2 _b1 28 [(.int .i64 hF), (.slice _A_shG shG.length _C_shG)] := _m1
  refine WL_step rfl rfl (r_assign rfl) ?_
  refine WL_nil ?_
  refine thn_nrm (_hK_1 _ _ ?_)
  clear _hK_1
  refine W_seq fun _K_3 _hK_3 => ?_
  refine W_seq fun _K_4 _hK_4 => ?_
  refine W_region ?_
  refine WL_step rfl rfl (r_loadAtA0 _m1.at_ agg28 sz28 rfl) ?_
  refine WL_s rfl rfl ?_
  have _f_5 := (_h_shG.ch0 _cw_2)
  have _f_6 := (_rd_hG.ch0 _cw_2)
  refine Step.call (r_call (xs := [.tmp 3]) fk118 rfl) (c_impl_IsValidHistory _ _f_5 _f_6 ) fun _v4 _w_7 _q4 => ?_
  obtain ⟨rfl, _cw_7⟩ := _q4
  have _cw_7z := _cw_7.size
  have E := E.trans _cw_7
  refine WL_step rfl rfl (r_not rfl) ?_
  refine WL_nil ?_
  refine thn_nrm (_hK_4 _ _ ?_)
  clear _hK_4
  refine W_cond rfl (fun _h5 => ?_) (fun _h5 => ?_)
  · have _kb_8 := _h5
    have _h5 := bf_t (bt_n _h5)
    first | have _v5 := _h5.2 | skip
    refine W_seq fun _K_9 _hK_9 => ?_
    refine W_region ?_
    refine WL_step rfl rfl (r_assign rfl) ?_
    refine WL_nil ?_
    refine thn_nrm (_hK_9 _ _ ?_)
    clear _hK_9
    refine W_ret (thn_ret ?_)
    clear _hK_3
    exact ret_intro [_] ⟨rfl, trivial⟩ ⟨congrArg (Value.int .i64) (by first | exact lv_n _h5 | (rw [_rl_hG]; exact lv_y _h5)), E⟩
  · have _kb_8 := _h5
    have _h5 := bt_t (bf_n _h5)
    first | have _v5 := _h5.2 | skip
    refine W_skip ?_
    refine thn_nrm (_hK_3 _ _ ?_)
    clear _hK_3
    refine W_seq fun _K_10 _hK_10 => ?_
    refine W_region ?_
    refine WL_step rfl rfl (r_fieldAddr fa28_0 rfl) ?_
    have _f_11 := (_m1.ch0 _cw_7)
    refine WL_step rfl rfl (r_loadAt _f_11.at_ agg3 rfl rfl) ?_
    refine WL_step rfl rfl (r_fieldAddr fa28_1 rfl) ?_
    refine WL_step rfl rfl (r_loadAt _f_11.at_ agg26 rfl rfl) ?_
    refine WL_step rfl rfl (r_len (by rw [el26]; rfl) rfl) ?_
    refine WL_step rfl rfl (r_add (by omega) rfl rfl) ?_
    refine WL_step rfl rfl (r_sub (by omega) rfl rfl) ?_
    refine WL_step rfl rfl (r_assign rfl) ?_
    refine WL_nil ?_
    refine thn_nrm (_hK_10 _ _ ?_)
    clear _hK_10
    refine W_ret ?_
    exact ret_intro [_] ⟨rfl, trivial⟩ ⟨congrArg (Value.int .i64) (by first | exact lv_n _h5 | (rw [_rl_hG]; exact lv_y _h5)), E⟩

/-- impl.copyInts -/
theorem c_impl_copyInts {w : World} {LL_l _B_l : Nat} {_v_l : Value} {l : List Int} (_h_l : Ls ics 1 w LL_l _B_l _v_l l) (hb : l.length ≤ 4194304) :
    Ctr Try.prog 156 #[_v_l] w (fun v w' => Ol ics 3 1 w' v (l) ∧ Lo w.heap.size v ∧ Ch [] w w') := by
  obtain ⟨_A_l, _C_l, _e1_l⟩ := _h_l.val
  subst _e1_l
  have _l_l := _h_l.len
  have _h_l := _h_l.here (by decide)
  have E := Ch.refl [] w
  refine Ctr_of_W (N := 6) (vs0 := [(.slice _A_l l.length _C_l)]) Try.func156 rfl rfl rfl ?_
  refine W_seq fun _K_1 _hK_1 => ?_
  refine W_region ?_
  refine WL_step rfl rfl (r_assign rfl) ?_
  refine WL_nil ?_
  refine thn_nrm (_hK_1 _ _ ?_)
  clear _hK_1
  refine W_seq fun _K_2 _hK_2 => ?_
  refine W_region ?_
  refine WL_s rfl rfl ?_
  refine s_buildSlice0 (k := 1) ics el43 sz3 fun _v3 _w_3 _q3 _lo3 _cw_3 => ?_
  have _cw_3z := _cw_3.size
  have E := E.trans _cw_3
  obtain ⟨_Av3, _Cv3, _ev3⟩ := _q3.val
  subst _ev3
  have _lv3 := _q3.len
  have _hiv3 := _q3.lt
  refine WL_step rfl rfl (r_move rfl) ?_
  refine WL_s rfl rfl ?_
  have _f_5 := (_h_l.ch0 _cw_3)
  refine s_append (cs := ics) el43 sz3 by3 zr3 rfl (by decide) ics_one _q3 _f_5 rfl rfl (by first | omega | (simp only [List.length_append, List.length_nil, List.length_cons, List.length_replicate, List.length_set, List.length_reverse, List.length_map] at *; omega) | (simp at *; omega)) (by first | omega | (simp only [List.length_append, List.length_nil, List.length_cons, List.length_replicate, List.length_set, List.length_reverse, List.length_map] at *; omega) | (simp at *; omega)) _lo3 (by omega) fun _v5 _w_4 _q5 _lo5 _ap5 _cw_4 => ?_
  have _cw_4z := _cw_4.size
  have E := E.step _cw_4 (fun i hi => .inl (by have _h1 := _lo3 _ hi; omega))
  replace _q5 : Ol ics 3 1 _w_4 _v5 l := _q5
  obtain ⟨_Av5, _Cv5, _ev5⟩ := _q5.val
  subst _ev5
  have _lv5 := _q5.len
  have _hiv5 := _q5.lt
  refine WL_step rfl rfl (r_assign rfl) ?_
  refine WL_nil ?_
  refine thn_nrm (_hK_2 _ _ ?_)
  clear _hK_2
  refine W_ret ?_
  have _o_6 : Ol ics 3 1 _w_4 (.slice _Av5 (l).length _Cv5) (l) := by
    have hx := _q5
    first | exact hx | simpa using hx
  exact ret_intro [_] ⟨rfl, trivial⟩ ⟨_o_6, Lo.down _lo5 (by omega), E⟩

/-- impl.copyGraph -/
theorem c_impl_copyGraph {w : World} {LL_gV _B_gV : Nat} {_v_gV : Value} {gV : List Int} (_h_gV : Ls ics 1 w LL_gV _B_gV _v_gV gV) {LL_gE _B_gE : Nat} {_v_gE : Value} {gE : List GEdge} (_h_gE : Ls GEdge.cs 4 w LL_gE _B_gE _v_gE gE) (hb : gV.length ≤ 4194304 ∧ gE.length ≤ 4194304) :
    Ctr Try.prog 117 #[(.agg #[_v_gV, _v_gE])] w (fun v w' => ∃ (u0x0 : Value) (u0x1 : Value), v = .agg #[u0x0, u0x1] ∧ Ol ics 3 1 w' u0x0 (gV) ∧ Lo w.heap.size u0x0 ∧ Ol GEdge.cs 168 4 w' u0x1 (gE) ∧ Lo w.heap.size u0x1 ∧ (∀ g ∈ bl u0x0, g ∉ bl u0x1) ∧ Ch [] w w') := by
  obtain ⟨_A_gV, _C_gV, _e1_gV⟩ := _h_gV.val
  subst _e1_gV
  have _l_gV := _h_gV.len
  have _h_gV := _h_gV.here (by decide)
  obtain ⟨_A_gE, _C_gE, _e1_gE⟩ := _h_gE.val
  subst _e1_gE
  have _l_gE := _h_gE.len
  have _h_gE := _h_gE.here (by decide)
  have E := Ch.refl [] w
  refine Ctr_of_W (N := 11) (vs0 := [(.agg #[(.slice _A_gV gV.length _C_gV), (.slice _A_gE gE.length _C_gE)])]) Try.func117 rfl rfl rfl ?_
  refine W_seq fun _K_1 _hK_1 => ?_
  refine W_region ?_
  refine WL_s rfl rfl ?_
  refine s_box rfl fun _b1 _w_2 _m1 _cw_2 _e1 => ?_
  have _cw_2z := _cw_2.size
  have E := E.trans _cw_2
  have _z1 := _m1.lt
  replace _m1 : Blk _w_2 _b1 57 [(.slice _A_gV gV.length _C_gV), (.slice _A_gE gE.length _C_gE)] := _m1
  refine WL_s rfl rfl ?_
  refine s_alloc zr57 fun _b2 _w_3 _m2 _cw_3 _e2 => ?_
  have _cw_3z := _cw_3.size
  have E := E.trans _cw_3
  have _z2 := _m2.lt
  replace _m2 : Blk _w_3 _b2 57 [(.slice none 0 0), (.slice none 0 0)] := _m2
  refine WL_nil ?_
  refine thn_nrm (_hK_1 _ _ ?_)
  clear _hK_1
  refine W_seq fun _K_4 _hK_4 => ?_
  refine W_drawC [_b2] 9 mixed rfl fun _w_5 _cw_5 => ?_
  have _cw_5z := _cw_5.size
  have E := E.trans _cw_5
  refine DR_s 0 rfl (by kernel_rfl) rfl rfl (t_v (fun _ => (r_fieldAddr fa57_0 rfl)) ?_)
  have _f_6 := ((_m1.ch0 _cw_3).ch0 _cw_5)
  refine DR_s 1 rfl (by kernel_rfl) rfl rfl (t_loadAt _f_6.at_ (fun i hm => by have _h1 := List.mem_singleton.1 hm; omega) agg43 rfl rfl ?_)
  refine DR_s 4 rfl (by kernel_rfl) rfl rfl (t_v (fun _ => (r_fieldAddr fa57_1 rfl)) ?_)
  refine DR_s 5 rfl (by kernel_rfl) rfl rfl (t_loadAt _f_6.at_ (fun i hm => by have _h1 := List.mem_singleton.1 hm; omega) agg55 rfl rfl ?_)
  refine DR_two 2 3 (by kernel_rfl) ?_ ?_
  · refine DO_s rfl rfl rfl ?_
    have _f_7 := (((_h_gV.ch0 _cw_2).ch0 _cw_3).ch0 _cw_5)
    refine Step.call (r_call (xs := [.tmp 4]) fk156 rfl) (c_impl_copyInts _f_7 (by omega)) fun _v5 _w_8 _q5 => ?_
    obtain ⟨_q5, _lo5, _cw_8⟩ := _q5
    have _cw_8z := _cw_8.size
    have E := E.trans _cw_8
    obtain ⟨_Av5, _Cv5, _ev5⟩ := _q5.val
    subst _ev5
    have _lv5 := _q5.len
    have _hiv5 := _q5.lt
    have _S_9 : Ch [_b2] _w_5 _w_8 := ((Ch.refl _ _).trans _cw_8.of_nil)
    refine ⟨_S_9, ?_⟩
    refine DR_one 3 (by kernel_rfl) ?_
    refine DO_s rfl rfl rfl ?_
    refine s_buildSlice0 (k := 4) GEdge.cs el55 sz168 fun _v6 _w_10 _q6 _lo6 _cw_10 => ?_
    have _cw_10z := _cw_10.size
    have E := E.trans _cw_10
    obtain ⟨_Av6, _Cv6, _ev6⟩ := _q6.val
    subst _ev6
    have _lv6 := _q6.len
    have _hiv6 := _q6.lt
    have _S_11 : Ch [_b2] _w_5 _w_10 := (_S_9.trans _cw_10.of_nil)
    refine ⟨_S_11, ?_⟩
    refine DR_one 6 (by kernel_rfl) ?_
    refine DO_s rfl rfl rfl ?_
    have _f_13 := (((((_h_gE.ch0 _cw_2).ch0 _cw_3).ch0 _cw_5).ch0 _cw_8).ch0 _cw_10)
    refine s_append (cs := GEdge.cs) el55 sz168 by168 zr168 rfl (by decide) GEdge.one _q6 _f_13 rfl rfl (by first | omega | (simp only [List.length_append, List.length_nil, List.length_cons, List.length_replicate, List.length_set, List.length_reverse, List.length_map] at *; omega) | (simp at *; omega)) (by first | omega | (simp only [List.length_append, List.length_nil, List.length_cons, List.length_replicate, List.length_set, List.length_reverse, List.length_map] at *; omega) | (simp at *; omega)) _lo6 (by omega) fun _v9 _w_12 _q9 _lo9 _ap9 _cw_12 => ?_
    have _cw_12z := _cw_12.size
    have E := E.step _cw_12 (fun i hi => .inl (by have _h1 := _lo6 _ hi; omega))
    replace _q9 : Ol GEdge.cs 168 4 _w_12 _v9 gE := _q9
    obtain ⟨_Av9, _Cv9, _ev9⟩ := _q9.val
    subst _ev9
    have _lv9 := _q9.len
    have _hiv9 := _q9.lt
    have _S_14 : Ch [_b2] _w_5 _w_12 := (_S_11.step _cw_12 (fun i hm => by left; have _h1 := _lo6 _ hm; have _h2 := _hiv6 _ hm; omega))
    refine ⟨_S_14, ?_⟩
    refine DR_s 7 rfl (by kernel_rfl) rfl rfl (t_v (fun _ => (r_build (parts := [(0, .tmp 5), (1, .tmp 9)]) (cells := [(.slice _Av5 (gV).length _Cv5), (.slice _Av9 (gE).length _Cv9)]) zr57 pl57 rfl rfl)) ?_)
    refine DR_one 8 (by kernel_rfl) ?_
    refine DO_s rfl rfl rfl ?_
    have _f_15 := ((((_m2.ch0 _cw_5).ch0 _cw_8).ch0 _cw_10).ch _cw_12 (fun hm => by have _h1 := _lo6 _ hm; have _h2 := _hiv6 _ hm; omega))
    refine s_storeA (off := 0) 2 _f_15 sz57 rfl (us := [(.slice _Av5 (gV).length _Cv5), (.slice _Av9 (gE).length _Cv9)]) rfl rfl rfl rfl fun _w_16 _m_17 _cw_16 => ?_
    have _cw_16z := _cw_16.size
    have E := E.step _cw_16 (fun i hi => .inl (by have _h1 := List.mem_singleton.1 hi; omega))
    replace _m_17 : Blk _w_16 _b2 57 [(.slice _Av5 (gV).length _Cv5), (.slice _Av9 (gE).length _Cv9)] := _m_17
    have _S_18 : Ch [_b2] _w_5 _w_16 := (_S_14.step _cw_16 (fun i hm => by have _h0 := List.mem_singleton.1 hm; exact .inr (by rw [_h0]; exact (List.mem_singleton.2 rfl))))
    refine ⟨_S_18, ?_⟩
    refine DR_done (by kernel_rfl) ?_
    refine thn_nrm (_hK_4 _ _ ?_)
    clear _hK_4
    refine W_ret ?_
    have _f_19 := (((_q5.ch0 _cw_10).ch _cw_12 (fun g hg hm => by have _h1 := _lo6 _ hm; have _h2 := _hiv6 _ hm; have _h3 := _lo5 _ hg; have _h4 := _hiv5 _ hg; omega)).ch _cw_16 (fun g hg hm => by have _h0 := List.mem_singleton.1 hm; have _h2 := _lo5 _ hg; have _h3 := _hiv5 _ hg; omega))
    have _o_20 : Ol ics 3 1 _w_16 (.slice _Av5 (gV).length _Cv5) (gV) := by
      have hx := _f_19
      first | exact hx | simpa using hx
    have _f_21 := (_q9.ch _cw_16 (fun g hg hm => by have _h0 := List.mem_singleton.1 hm; rcases _ap9 with ea | ea; (rw [ea] at hg; have _h2 := _lo6 _ hg; have _h3 := _hiv6 _ hg; omega); (have z2hg := _hiv9 _ hg; rw [ea] at hg; have _z1 := List.mem_singleton.1 hg; omega)))
    have _o_22 : Ol GEdge.cs 168 4 _w_16 (.slice _Av9 (gE).length _Cv9) (gE) := by
      have hx := _f_21
      first | exact hx | simpa using hx
    exact ret_intro [_] (resOf_loadA _m_17 rfl agg57 sz57 trivial) ⟨(.slice _Av5 (gV).length _Cv5), (.slice _Av9 (gE).length _Cv9), rfl, _o_20, (Lo.down _lo5 (by omega)), _o_22, (Lo.down _lo9 (by omega)), (fun g hm hg => by rcases _ap9 with ea | ea; (rw [ea] at hg; have _h1 := _lo5 _ hm; have _h2 := _hiv5 _ hm; have _h3 := _lo6 _ hg; have _h4 := _hiv6 _ hg; omega); (have z2hg := _hiv9 _ hg; rw [ea] at hg; have _z1 := List.mem_singleton.1 hg; have _h1 := _lo5 _ hm; have _h2 := _hiv5 _ hm; omega)), E⟩
  · refine DO_s rfl rfl rfl ?_
    refine s_buildSlice0 (k := 4) GEdge.cs el55 sz168 fun _v6 _w_23 _q6 _lo6 _cw_23 => ?_
    have _cw_23z := _cw_23.size
    have E := E.trans _cw_23
    obtain ⟨_Av6, _Cv6, _ev6⟩ := _q6.val
    subst _ev6
    have _lv6 := _q6.len
    have _hiv6 := _q6.lt
    have _S_24 : Ch [_b2] _w_5 _w_23 := ((Ch.refl _ _).trans _cw_23.of_nil)
    refine ⟨_S_24, ?_⟩
    refine DR_one 2 (by kernel_rfl) ?_
    refine DO_s rfl rfl rfl ?_
    have _f_25 := ((((_h_gV.ch0 _cw_2).ch0 _cw_3).ch0 _cw_5).ch0 _cw_23)
    refine Step.call (r_call (xs := [.tmp 4]) fk156 rfl) (c_impl_copyInts _f_25 (by omega)) fun _v5 _w_26 _q5 => ?_
    obtain ⟨_q5, _lo5, _cw_26⟩ := _q5
    have _cw_26z := _cw_26.size
    have E := E.trans _cw_26
    obtain ⟨_Av5, _Cv5, _ev5⟩ := _q5.val
    subst _ev5
    have _lv5 := _q5.len
    have _hiv5 := _q5.lt
    have _S_27 : Ch [_b2] _w_5 _w_26 := (_S_24.trans _cw_26.of_nil)
    refine ⟨_S_27, ?_⟩
    refine DR_one 6 (by kernel_rfl) ?_
    refine DO_s rfl rfl rfl ?_
    have _f_29 := (_q6.ch0 _cw_26)
    have _f_30 := (((((_h_gE.ch0 _cw_2).ch0 _cw_3).ch0 _cw_5).ch0 _cw_23).ch0 _cw_26)
    refine s_append (cs := GEdge.cs) el55 sz168 by168 zr168 rfl (by decide) GEdge.one _f_29 _f_30 rfl rfl (by first | omega | (simp only [List.length_append, List.length_nil, List.length_cons, List.length_replicate, List.length_set, List.length_reverse, List.length_map] at *; omega) | (simp at *; omega)) (by first | omega | (simp only [List.length_append, List.length_nil, List.length_cons, List.length_replicate, List.length_set, List.length_reverse, List.length_map] at *; omega) | (simp at *; omega)) _lo6 (by omega) fun _v9 _w_28 _q9 _lo9 _ap9 _cw_28 => ?_
    have _cw_28z := _cw_28.size
    have E := E.step _cw_28 (fun i hi => .inl (by have _h1 := _lo6 _ hi; omega))
    replace _q9 : Ol GEdge.cs 168 4 _w_28 _v9 gE := _q9
    obtain ⟨_Av9, _Cv9, _ev9⟩ := _q9.val
    subst _ev9
    have _lv9 := _q9.len
    have _hiv9 := _q9.lt
    have _S_31 : Ch [_b2] _w_5 _w_28 := (_S_27.step _cw_28 (fun i hm => by left; have _h1 := _lo6 _ hm; have _h2 := _hiv6 _ hm; omega))
    refine ⟨_S_31, ?_⟩
    refine DR_s 7 rfl (by kernel_rfl) rfl rfl (t_v (fun _ => (r_build (parts := [(0, .tmp 5), (1, .tmp 9)]) (cells := [(.slice _Av5 (gV).length _Cv5), (.slice _Av9 (gE).length _Cv9)]) zr57 pl57 rfl rfl)) ?_)
    refine DR_one 8 (by kernel_rfl) ?_
    refine DO_s rfl rfl rfl ?_
    have _f_32 := ((((_m2.ch0 _cw_5).ch0 _cw_23).ch0 _cw_26).ch _cw_28 (fun hm => by have _h1 := _lo6 _ hm; have _h2 := _hiv6 _ hm; omega))
    refine s_storeA (off := 0) 2 _f_32 sz57 rfl (us := [(.slice _Av5 (gV).length _Cv5), (.slice _Av9 (gE).length _Cv9)]) rfl rfl rfl rfl fun _w_33 _m_34 _cw_33 => ?_
    have _cw_33z := _cw_33.size
    have E := E.step _cw_33 (fun i hi => .inl (by have _h1 := List.mem_singleton.1 hi; omega))
    replace _m_34 : Blk _w_33 _b2 57 [(.slice _Av5 (gV).length _Cv5), (.slice _Av9 (gE).length _Cv9)] := _m_34
    have _S_35 : Ch [_b2] _w_5 _w_33 := (_S_31.step _cw_33 (fun i hm => by have _h0 := List.mem_singleton.1 hm; exact .inr (by rw [_h0]; exact (List.mem_singleton.2 rfl))))
    refine ⟨_S_35, ?_⟩
    refine DR_done (by kernel_rfl) ?_
    refine thn_nrm (_hK_4 _ _ ?_)
    clear _hK_4
    refine W_ret ?_
    have _f_36 := ((_q5.ch _cw_28 (fun g hg hm => by have _h1 := _lo6 _ hm; have _h2 := _hiv6 _ hm; have _h3 := _lo5 _ hg; have _h4 := _hiv5 _ hg; omega)).ch _cw_33 (fun g hg hm => by have _h0 := List.mem_singleton.1 hm; have _h2 := _lo5 _ hg; have _h3 := _hiv5 _ hg; omega))
    have _o_37 : Ol ics 3 1 _w_33 (.slice _Av5 (gV).length _Cv5) (gV) := by
      have hx := _f_36
      first | exact hx | simpa using hx
    have _f_38 := (_q9.ch _cw_33 (fun g hg hm => by have _h0 := List.mem_singleton.1 hm; rcases _ap9 with ea | ea; (rw [ea] at hg; have _h2 := _lo6 _ hg; have _h3 := _hiv6 _ hg; omega); (have z2hg := _hiv9 _ hg; rw [ea] at hg; have _z1 := List.mem_singleton.1 hg; omega)))
    have _o_39 : Ol GEdge.cs 168 4 _w_33 (.slice _Av9 (gE).length _Cv9) (gE) := by
      have hx := _f_38
      first | exact hx | simpa using hx
    exact ret_intro [_] (resOf_loadA _m_34 rfl agg57 sz57 trivial) ⟨(.slice _Av5 (gV).length _Cv5), (.slice _Av9 (gE).length _Cv9), rfl, _o_37, (Lo.down _lo5 (by omega)), _o_39, (Lo.down _lo9 (by omega)), (fun g hm hg => by rcases _ap9 with ea | ea; (rw [ea] at hg; have _h1 := _lo5 _ hm; have _h2 := _hiv5 _ hm; have _h3 := _lo6 _ hg; have _h4 := _hiv6 _ hg; omega); (have z2hg := _hiv9 _ hg; rw [ea] at hg; have _z1 := List.mem_singleton.1 hg; have _h1 := _lo5 _ hm; have _h2 := _hiv5 _ hm; omega)), E⟩

/-- impl.GraphAt -/
theorem c_impl_GraphAt {w : World} (hF : Int) {LL_shG _B_shG : Nat} {_v_shG : Value} {shG : List Gv} (_h_shG : Ls Gv.cs 2 w LL_shG _B_shG _v_shG shG) {LR_hG BB_hG : Nat} {hG : List GD} (_rd_hG : RdG w LR_hG BB_hG shG hG) (n : Int) :
    Ctr Try.prog 60 #[(.agg #[(.int .i64 hF), _v_shG]), (.int .i64 n)] w (fun v w' => ∃ (u0x0 : Value) (u0x1 : Value), v = .tuple #[.agg #[u0x0, u0x1], .bool (tt (gaP hF hG n))] ∧ Ol ics 3 1 w' u0x0 ((gaR hF hG n).V) ∧ Lo w.heap.size u0x0 ∧ Ol GEdge.cs 168 4 w' u0x1 ((gaR hF hG n).E) ∧ Lo w.heap.size u0x1 ∧ (∀ g ∈ bl u0x0, g ∉ bl u0x1) ∧ Ch [] w w') := by
  obtain ⟨_A_shG, _C_shG, _e1_shG⟩ := _h_shG.val
  subst _e1_shG
  have _l_shG := _h_shG.len
  have _h_shG := _h_shG.here (by decide)
  have _rd_hG := _rd_hG.here
  have _rl_hG := _rd_hG.1
  have E := Ch.refl [] w
  refine Ctr_of_W (N := 28) (vs0 := [(.agg #[(.int .i64 hF), (.slice _A_shG shG.length _C_shG)]), (.int .i64 n)]) Try.func60 rfl rfl rfl ?_
  refine W_seq fun _K_1 _hK_1 => ?_
  refine W_region ?_
  refine WL_s rfl rfl ?_
  refine s_box rfl fun _b2 _w_2 _m2 _cw_2 _e2 => ?_
  have _cw_2z := _cw_2.size
  have E := E.trans _cw_2
  have _z2 := _m2.lt
  replace _m2 : Blk _w_2 _b2 28 [(.int .i64 hF), (.slice _A_shG shG.length _C_shG)] := _m2
  refine WL_s rfl rfl ?_
  refine s_alloc zr57 fun _b4 _w_3 _m4 _cw_3 _e4 => ?_
  have _cw_3z := _cw_3.size
  have E := E.trans _cw_3
  have _z4 := _m4.lt
  replace _m4 : Blk _w_3 _b4 57 [(.slice none 0 0), (.slice none 0 0)] := _m4
  refine WL_step rfl rfl (r_assign rfl) ?_
  refine WL_nil ?_
  refine thn_nrm (_hK_1 _ _ ?_)
  clear _hK_1
  refine W_seq fun _K_4 _hK_4 => ?_
  refine W_seq fun _K_5 _hK_5 => ?_
  refine W_drawC [] 12 mixed rfl fun _w_6 _cw_6 => ?_
  have _cw_6z := _cw_6.size
  have E := E.trans _cw_6
  have _f_7 := ((_m2.ch0 _cw_3).ch0 _cw_6)
  refine DR_s 0 rfl (by kernel_rfl) rfl rfl (t_loadAtA0 _f_7.at_ (fun i hi => absurd hi List.not_mem_nil) agg28 sz28 rfl ?_)
  refine DR_one 1 (by kernel_rfl) ?_
  refine DO_s rfl rfl rfl ?_
  have _f_8 := (((_h_shG.ch0 _cw_2).ch0 _cw_3).ch0 _cw_6)
  have _f_9 := (((_rd_hG.ch0 _cw_2).ch0 _cw_3).ch0 _cw_6)
  refine Step.call (r_call (xs := [.tmp 6]) fk118 rfl) (c_impl_IsValidHistory _ _f_8 _f_9 ) fun _v7 _w_10 _q7 => ?_
  obtain ⟨rfl, _cw_10⟩ := _q7
  have _cw_10z := _cw_10.size
  have E := E.trans _cw_10
  have _S_11 : Ch [] _w_6 _w_10 := ((Ch.refl _ _).trans _cw_10)
  refine ⟨_S_11, ?_⟩
  refine DR_s 2 rfl (by kernel_rfl) rfl rfl (t_v (fun _ => (r_not rfl)) ?_)
  refine DR_s 3 rfl (by kernel_rfl) rfl rfl (t_v (fun _ => (r_move rfl)) ?_)
  refine DR_split (d := 9) rfl (fun _h9 => ?_) (fun _h9 => ?_)
  · have _kb_12 := _h9
    have _h9 := bf_t (bt_n _h9)
    first | (have _v9 := lv_val _h9; have _v8 := _h9.2) | skip
    refine DR_skip 4 rfl (by kernel_rfl) rfl rfl ?_
    refine DR_skip 5 rfl (by kernel_rfl) rfl rfl ?_
    refine DR_skip 6 rfl (by kernel_rfl) rfl rfl ?_
    refine DR_skip 7 rfl (by kernel_rfl) rfl rfl ?_
    refine DR_skip 8 rfl (by kernel_rfl) rfl rfl ?_
    refine DR_skip 9 rfl (by kernel_rfl) rfl rfl ?_
    refine DR_skip 10 rfl (by kernel_rfl) rfl rfl ?_
    refine DR_s 11 rfl (by kernel_rfl) rfl rfl (t_v (fun _ => (r_pickT rfl rfl)) ?_)
    refine DR_done (by kernel_rfl) ?_
    refine thn_nrm (_hK_5 _ _ ?_)
    clear _hK_5
    refine W_condT rfl ?_
    refine W_seq fun _K_13 _hK_13 => ?_
    refine W_region ?_
    refine WL_step rfl rfl (r_build (parts := []) (cells := [(.slice none 0 0), (.slice none 0 0)]) zr57 pl57 rfl rfl) ?_
    refine WL_s rfl rfl ?_
    have _f_14 := ((_m4.ch0 _cw_6).ch0 _cw_10)
    refine s_storeA (off := 0) 2 _f_14 sz57 rfl (us := [(.slice none 0 0), (.slice none 0 0)]) rfl rfl rfl rfl fun _w_15 _m_16 _cw_15 => ?_
    have _cw_15z := _cw_15.size
    have E := E.step _cw_15 (fun i hi => .inl (by have _h1 := List.mem_singleton.1 hi; omega))
    replace _m_16 : Blk _w_15 _b4 57 [(.slice none 0 0), (.slice none 0 0)] := _m_16
    refine WL_step rfl rfl (r_assign rfl) ?_
    refine WL_nil ?_
    refine thn_nrm (_hK_13 _ _ ?_)
    clear _hK_13
    refine W_ret (thn_ret ?_)
    clear _hK_4
    have _o_17 : Ol ics 3 1 _w_15 (.slice none 0 0) ((gaR hF hG n).V) := by
      have hx := (Ol.nil (cs := ics) (e := 3) (k := 1) _w_15)
      first | exact hx.eq (by rw [← ga_n (fun q => _h9 q.1)]) | exact hx.eq (by rw [← ga_n (fun q => _h17 q.2)]) | exact hx.eq (by rw [← _g25])
    have _o_18 : Ol GEdge.cs 168 4 _w_15 (.slice none 0 0) ((gaR hF hG n).E) := by
      have hx := (Ol.nil (cs := GEdge.cs) (e := 168) (k := 4) _w_15)
      first | exact hx.eq (by rw [← ga_n (fun q => _h9 q.1)]) | exact hx.eq (by rw [← ga_n (fun q => _h17 q.2)]) | exact hx.eq (by rw [← _g25])
    exact ret_intro [_, _] (resOf_loadA _m_16 rfl agg57 sz57 ⟨rfl, trivial⟩) ⟨(.slice none 0 0), (.slice none 0 0), (congrArg (fun zq => (Value.tuple #[.agg #[(.slice none 0 0), (.slice none 0 0)], .bool zq])) (by first | exact tt_false (fun q => _h9 q.1) | exact tt_false (fun q => _h17 q.2) | exact tt_true ⟨_h9, _h17⟩)), _o_17, (Lo.nil _), _o_18, (Lo.nil _), (fun g hm hg => by cases hm), E⟩
  · have _kb_12 := _h9
    have _h9 := bt_t (bf_n _h9)
    first | (have _v9 := lv_val _h9; have _v8 := _h9.2) | skip
    refine DR_s 4 rfl (by kernel_rfl) rfl rfl (t_v (fun _ => (r_move rfl)) ?_)
    refine DR_s 5 rfl (by kernel_rfl) rfl rfl (t_v (fun _ => (r_fieldAddr fa28_0 rfl)) ?_)
    refine DR_s 6 rfl (by kernel_rfl) rfl rfl (t_loadAt _f_7.at_ (fun i hi => absurd hi List.not_mem_nil) agg3 rfl rfl ?_)
    refine DR_s 7 rfl (by kernel_rfl) rfl rfl (t_loadAtA0 _f_7.at_ (fun i hi => absurd hi List.not_mem_nil) agg28 sz28 rfl ?_)
    refine DR_one 8 (by kernel_rfl) ?_
    refine DO_s rfl rfl rfl ?_
    have _f_19 := (_f_8.ch0 _cw_10)
    have _f_20 := (_f_9.ch0 _cw_10)
    refine Step.call (r_call (xs := [.tmp 13]) fk97 rfl) (c_impl_LatestVersion _ _f_19 _f_20 ) fun _v14 _w_21 _q14 => ?_
    obtain ⟨rfl, _cw_21⟩ := _q14
    have _cw_21z := _cw_21.size
    have E := E.trans _cw_21
    have _S_22 : Ch [] _w_6 _w_21 := (_S_11.trans _cw_21)
    refine ⟨_S_22, ?_⟩
    refine DR_one 9 (by kernel_rfl) ?_
    refine DO_s rfl rfl rfl ?_
    refine Step.call (r_call (xs := [.tmp 10, .tmp 12, .tmp 14]) fk107 rfl) (c_impl_within _ _ _ ) fun _v15 _w_23 _q15 => ?_
    obtain ⟨rfl, _cw_23⟩ := _q15
    have _cw_23z := _cw_23.size
    have E := E.trans _cw_23
    have _S_24 : Ch [] _w_6 _w_23 := (_S_22.trans _cw_23)
    refine ⟨_S_24, ?_⟩
    refine DR_s 10 rfl (by kernel_rfl) rfl rfl (t_v (fun _ => (r_not rfl)) ?_)
    refine DR_s 11 rfl (by kernel_rfl) rfl rfl (t_v (fun _ => (r_pickF rfl rfl)) ?_)
    refine DR_done (by kernel_rfl) ?_
    refine thn_nrm (_hK_5 _ _ ?_)
    clear _hK_5
    refine W_cond rfl (fun _h17 => ?_) (fun _h17 => ?_)
    · have _kb_25 := _h17
      have _h17 := bf_d (bt_n _h17)
      refine W_seq fun _K_26 _hK_26 => ?_
      refine W_region ?_
      refine WL_step rfl rfl (r_build (parts := []) (cells := [(.slice none 0 0), (.slice none 0 0)]) zr57 pl57 rfl rfl) ?_
      refine WL_s rfl rfl ?_
      have _f_27 := ((((_m4.ch0 _cw_6).ch0 _cw_10).ch0 _cw_21).ch0 _cw_23)
      refine s_storeA (off := 0) 2 _f_27 sz57 rfl (us := [(.slice none 0 0), (.slice none 0 0)]) rfl rfl rfl rfl fun _w_28 _m_29 _cw_28 => ?_
      have _cw_28z := _cw_28.size
      have E := E.step _cw_28 (fun i hi => .inl (by have _h1 := List.mem_singleton.1 hi; omega))
      replace _m_29 : Blk _w_28 _b4 57 [(.slice none 0 0), (.slice none 0 0)] := _m_29
      refine WL_step rfl rfl (r_assign rfl) ?_
      refine WL_nil ?_
      refine thn_nrm (_hK_26 _ _ ?_)
      clear _hK_26
      refine W_ret (thn_ret ?_)
      clear _hK_4
      have _o_30 : Ol ics 3 1 _w_28 (.slice none 0 0) ((gaR hF hG n).V) := by
        have hx := (Ol.nil (cs := ics) (e := 3) (k := 1) _w_28)
        first | exact hx.eq (by rw [← ga_n (fun q => _h9 q.1)]) | exact hx.eq (by rw [← ga_n (fun q => _h17 q.2)]) | exact hx.eq (by rw [← _g25])
      have _o_31 : Ol GEdge.cs 168 4 _w_28 (.slice none 0 0) ((gaR hF hG n).E) := by
        have hx := (Ol.nil (cs := GEdge.cs) (e := 168) (k := 4) _w_28)
        first | exact hx.eq (by rw [← ga_n (fun q => _h9 q.1)]) | exact hx.eq (by rw [← ga_n (fun q => _h17 q.2)]) | exact hx.eq (by rw [← _g25])
      exact ret_intro [_, _] (resOf_loadA _m_29 rfl agg57 sz57 ⟨rfl, trivial⟩) ⟨(.slice none 0 0), (.slice none 0 0), (congrArg (fun zq => (Value.tuple #[.agg #[(.slice none 0 0), (.slice none 0 0)], .bool zq])) (by first | exact tt_false (fun q => _h9 q.1) | exact tt_false (fun q => _h17 q.2) | exact tt_true ⟨_h9, _h17⟩)), _o_30, (Lo.nil _), _o_31, (Lo.nil _), (fun g hm hg => by cases hm), E⟩
    · have _kb_25 := _h17
      have _h17 := bt_d (bf_n _h17)
      refine W_skip ?_
      refine thn_nrm (_hK_4 _ _ ?_)
      clear _hK_4
      refine W_seq fun _K_32 _hK_32 => ?_
      refine W_region ?_
      refine WL_step rfl rfl (r_fieldAddr fa28_1 rfl) ?_
      have _f_33 := (((_f_7.ch0 _cw_10).ch0 _cw_21).ch0 _cw_23)
      refine WL_step rfl rfl (r_loadAt _f_33.at_ agg26 rfl rfl) ?_
      refine WL_step rfl rfl (r_move rfl) ?_
      refine WL_step rfl rfl (r_fieldAddr fa28_0 rfl) ?_
      refine WL_step rfl rfl (r_loadAt _f_33.at_ agg3 rfl rfl) ?_
      refine WL_step rfl rfl (r_sub (by omega) rfl rfl) ?_
      refine WL_s rfl rfl ?_
      have _f_34 := ((_f_19.ch0 _cw_21).ch0 _cw_23)
      refine (s_index (j := (n - hF).toNat) _f_34 Gv.len el26 sz57 rfl rfl (by omega) (by omega) fun _p25 _y25 _hy25 _a25 => ?_)
      have _f_35 := ((_f_20.ch0 _cw_21).ch0 _cw_23)
      obtain ⟨_ys25, _hys25, _fs25, fe25⟩ := _f_35.get _hy25
      obtain ⟨⟨_A25, _n25, _C25⟩, ⟨Ae25, ne25, Ce25⟩⟩ := _y25
      obtain rfl := _fs25.eqn
      obtain rfl := fe25.eqn
      have _l25 := _fs25.len
      have le25 := fe25.len
      replace _fs25 : Ls ics 1 _w_23 LR_hG w.heap.size (.slice _A25 _ys25.V.length _C25) _ys25.V := _fs25
      replace fe25 : Ls GEdge.cs 4 _w_23 LR_hG w.heap.size (.slice Ae25 _ys25.E.length Ce25) _ys25.E := fe25
      have d25 := gd_len _h9 _hys25
      have _g25 := ga_y _h9 _h17 _hys25
      refine WL_step rfl rfl (r_loadAtA0 _a25 agg57 sz57 rfl) ?_
      refine WL_s rfl rfl ?_
      refine Step.call (r_call (xs := [.tmp 26]) fk117 rfl) (c_impl_copyGraph _fs25 fe25 (by omega)) fun _v27 _w_36 _q27 => ?_
      obtain ⟨u27_0x0, u27_0x1, rfl, _q_u27_0x0, _lo_u27_0x0, _q_u27_0x1, _lo_u27_0x1, _dj_u27_0x0_u27_0x1, _cw_36⟩ := _q27
      have _cw_36z := _cw_36.size
      have E := E.trans _cw_36
      obtain ⟨Au27_0x0, Cu27_0x0, eu27_0x0⟩ := _q_u27_0x0.val
      subst eu27_0x0
      have lu27_0x0 := _q_u27_0x0.len
      have _hiu27_0x0 := _q_u27_0x0.lt
      obtain ⟨Au27_0x1, Cu27_0x1, eu27_0x1⟩ := _q_u27_0x1.val
      subst eu27_0x1
      have lu27_0x1 := _q_u27_0x1.len
      have _hiu27_0x1 := _q_u27_0x1.lt
      refine WL_s rfl rfl ?_
      have _f_37 := (((((_m4.ch0 _cw_6).ch0 _cw_10).ch0 _cw_21).ch0 _cw_23).ch0 _cw_36)
      refine s_storeA (off := 0) 2 _f_37 sz57 rfl (us := [(.slice Au27_0x0 (_ys25.V).length Cu27_0x0), (.slice Au27_0x1 (_ys25.E).length Cu27_0x1)]) rfl rfl rfl rfl fun _w_38 _m_39 _cw_38 => ?_
      have _cw_38z := _cw_38.size
      have E := E.step _cw_38 (fun i hi => .inl (by have _h1 := List.mem_singleton.1 hi; omega))
      replace _m_39 : Blk _w_38 _b4 57 [(.slice Au27_0x0 (_ys25.V).length Cu27_0x0), (.slice Au27_0x1 (_ys25.E).length Cu27_0x1)] := _m_39
      refine WL_step rfl rfl (r_assign rfl) ?_
      refine WL_nil ?_
      refine thn_nrm (_hK_32 _ _ ?_)
      clear _hK_32
      refine W_ret ?_
      have _f_40 := (_q_u27_0x0.ch _cw_38 (fun g hg hm => by have _h0 := List.mem_singleton.1 hm; have _h2 := _lo_u27_0x0 _ hg; have _h3 := _hiu27_0x0 _ hg; omega))
      have _o_41 : Ol ics 3 1 _w_38 (.slice Au27_0x0 (_ys25.V).length Cu27_0x0) ((gaR hF hG n).V) := by
        have hx := _f_40
        first | exact hx.eq (by rw [← ga_n (fun q => _h9 q.1)]) | exact hx.eq (by rw [← ga_n (fun q => _h17 q.2)]) | exact hx.eq (by rw [← _g25])
      have _f_42 := (_q_u27_0x1.ch _cw_38 (fun g hg hm => by have _h0 := List.mem_singleton.1 hm; have _h2 := _lo_u27_0x1 _ hg; have _h3 := _hiu27_0x1 _ hg; omega))
      have _o_43 : Ol GEdge.cs 168 4 _w_38 (.slice Au27_0x1 (_ys25.E).length Cu27_0x1) ((gaR hF hG n).E) := by
        have hx := _f_42
        first | exact hx.eq (by rw [← ga_n (fun q => _h9 q.1)]) | exact hx.eq (by rw [← ga_n (fun q => _h17 q.2)]) | exact hx.eq (by rw [← _g25])
      exact ret_intro [_, _] (resOf_loadA _m_39 rfl agg57 sz57 ⟨rfl, trivial⟩) ⟨(.slice Au27_0x0 (_ys25.V).length Cu27_0x0), (.slice Au27_0x1 (_ys25.E).length Cu27_0x1), (congrArg (fun zq => (Value.tuple #[.agg #[(.slice Au27_0x0 (_ys25.V).length Cu27_0x0), (.slice Au27_0x1 (_ys25.E).length Cu27_0x1)], .bool zq])) (by first | exact tt_false (fun q => _h9 q.1) | exact tt_false (fun q => _h17 q.2) | exact tt_true ⟨_h9, _h17⟩)), _o_41, (Lo.down _lo_u27_0x0 (by omega)), _o_43, (Lo.down _lo_u27_0x1 (by omega)), (fun g hm hg => by exact _dj_u27_0x0_u27_0x1 _ hm hg), E⟩

/-- impl.copyHistory -/
theorem c_impl_copyHistory {w : World} (hF : Int) {LL_shG _B_shG : Nat} {_v_shG : Value} {shG : List Gv} (_h_shG : Ls Gv.cs 2 w LL_shG _B_shG _v_shG shG) {LR_hG BB_hG : Nat} {hG : List GD} (_rd_hG : RdG w LR_hG BB_hG shG hG) (hb : hG.length + gsize hG ≤ 4194304) :
    Ctr Try.prog 59 #[(.agg #[(.int .i64 hF), _v_shG])] w (fun v w' => ∃ (u0x1 : Value) (vs0x1 : List Gv), v = .agg #[.int .i64 hF, u0x1] ∧ Ol Gv.cs 57 2 w' u0x1 vs0x1 ∧ Lo w.heap.size u0x1 ∧ OdG 3 168 w' w.heap.size w'.heap.size vs0x1 (hG) ∧ SepH u0x1 vs0x1 ∧ Ch [] w w') := by
  obtain ⟨_A_shG, _C_shG, _e1_shG⟩ := _h_shG.val
  subst _e1_shG
  have _l_shG := _h_shG.len
  have _h_shG := _h_shG.here (by decide)
  have _rd_hG := _rd_hG.here
  have _rl_hG := _rd_hG.1
  have E := Ch.refl [] w
  refine Ctr_of_W (N := 25) (vs0 := [(.agg #[(.int .i64 hF), (.slice _A_shG shG.length _C_shG)])]) Try.func59 rfl rfl rfl ?_
  refine W_seq fun _K_1 _hK_1 => ?_
  refine W_region ?_
  refine WL_s rfl rfl ?_
  refine s_box rfl fun _b1 _w_2 _m1 _cw_2 _e1 => ?_
  have _cw_2z := _cw_2.size
  have E := E.trans _cw_2
  have _z1 := _m1.lt
  replace _m1 : Blk _w_2 _b1 28 [(.int .i64 hF), (.slice _A_shG shG.length _C_shG)] := _m1
  refine WL_s rfl rfl ?_
  refine s_alloc zr28 fun _b2 _w_3 _m2 _cw_3 _e2 => ?_
  have _cw_3z := _cw_3.size
  have E := E.trans _cw_3
  have _z2 := _m2.lt
  replace _m2 : Blk _w_3 _b2 28 [(.int .i64 0), (.slice none 0 0)] := _m2
  refine WL_nil ?_
  refine thn_nrm (_hK_1 _ _ ?_)
  clear _hK_1
  refine W_seq fun _K_4 _hK_4 => ?_
  refine W_region ?_
  refine WL_step rfl rfl (r_fieldAddr fa28_0 rfl) ?_
  have _f_5 := (_m1.ch0 _cw_3)
  refine WL_step rfl rfl (r_loadAt _f_5.at_ agg3 rfl rfl) ?_
  refine WL_step rfl rfl (r_build (parts := [(0, .tmp 7)]) (cells := [(.int .i64 hF), (.slice none 0 0)]) zr28 pl28 rfl rfl) ?_
  refine WL_s rfl rfl ?_
  refine s_alloc zr28 fun _b3 _w_6 _m3 _cw_6 _e3 => ?_
  have _cw_6z := _cw_6.size
  have E := E.trans _cw_6
  have _z3 := _m3.lt
  replace _m3 : Blk _w_6 _b3 28 [(.int .i64 0), (.slice none 0 0)] := _m3
  refine WL_s rfl rfl ?_
  refine s_storeA (off := 0) 2 _m3 sz28 rfl (us := [(.int .i64 hF), (.slice none 0 0)]) rfl rfl rfl rfl fun _w_7 _m_8 _cw_7 => ?_
  have _cw_7z := _cw_7.size
  have E := E.step _cw_7 (fun i hi => .inl (by have _h1 := List.mem_singleton.1 hi; omega))
  replace _m_8 : Blk _w_7 _b3 28 [(.int .i64 hF), (.slice none 0 0)] := _m_8
  refine WL_nil ?_
  refine thn_nrm (_hK_4 _ _ ?_)
  clear _hK_4
  refine W_seq fun _K_9 _hK_9 => ?_
  refine W_seq fun _K_10 _hK_10 => ?_
  refine W_region ?_
  refine WL_step rfl rfl (r_fieldAddr fa28_1 rfl) ?_
  have _f_11 := ((_f_5.ch0 _cw_6).ch _cw_7 (fun hm => by have _h1 := List.mem_singleton.1 hm; omega))
  refine WL_step rfl rfl (r_loadAt _f_11.at_ agg26 rfl rfl) ?_
  refine WL_step rfl rfl (r_len (by rw [el26]; rfl) rfl) ?_
  refine WL_step rfl rfl (r_move rfl) ?_
  refine WL_nil ?_
  refine thn_nrm (_hK_10 _ _ ?_)
  clear _hK_10
  refine W_block ?_
  have _oi_12 : Ol Gv.cs 57 2 _w_7 (.slice none 0 0) (([] : List Gv)) := by
    have hx := (Ol.nil (cs := Gv.cs) (e := 57) (k := 2) _w_7)
    exact hx
  have _f_13 := ((_m2.ch0 _cw_6).ch _cw_7 (fun hm => by have _h1 := List.mem_singleton.1 hm; omega))
  refine W_loop (σ := Nat × List Gv × Value) (fun ⟨k, vs, kv⟩ => [(2, (.pointer (some ⟨_b2, 0, none⟩))), (3, (.pointer (some ⟨_b3, 0, none⟩))), (10, (.slice _A_shG shG.length _C_shG)), (11, (.int .i64 ((shG.length : Nat) : Int))), (12, (.int .i64 ((k : Nat) : Int)))]) (fun ⟨k, vs, kv⟩ wx => Ch [] w wx ∧ _w_7.heap.size ≤ wx.heap.size ∧ (k ≤ hG.length) ∧ (vs.length = k) ∧ Blk wx _b2 28 [(.int .i64 0), (.slice none 0 0)] ∧ Ol Gv.cs 57 2 wx kv vs ∧ Lo _w_7.heap.size kv ∧ OdG 3 168 wx _w_7.heap.size wx.heap.size vs (hG.take k) ∧ Blk wx _b3 28 [(.int .i64 hF), kv] ∧ (_b3 ∉ bl kv) ∧ (SepH kv vs)) (fun ⟨k, vs, kv⟩ => hG.length - k) (0, ([] : List Gv), (.slice none 0 0)) (Sub.cons rfl (Sub.cons rfl (Sub.cons rfl (Sub.cons rfl (Sub.cons rfl (Sub.nil _)))))) ⟨E, (Nat.le_refl _), (by omega), rfl, _f_13, _oi_12, (Lo.nil _), OdG.nil, _m_8, (fun hm => by cases hm), (fun u hu => by cases hu)⟩ ?_
  rintro ⟨k, vs, kv⟩ _wr_14 ⟨E, _zz0, _hk, hvl, _F0_0, o0_3_1, lo0_3_1, od, _m0_3, _nb0_3_1, _spl0_3⟩
  have _E0h := E
  have _E0hz := _E0h.size
  have _F0_0z := _F0_0.lt
  obtain ⟨Akv, Ckv, ekv⟩ := o0_3_1.val
  subst ekv
  have lkv := o0_3_1.len
  have hikv := o0_3_1.lt
  refine W_seq fun _K_15 _hK_15 => ?_
  refine W_region ?_
  refine WL_step rfl rfl (r_lss rfl rfl) ?_
  refine WL_nil ?_
  refine thn_nrm (_hK_15 _ _ ?_)
  clear _hK_15
  refine W_seq fun _K_16 _hK_16 => ?_
  refine W_cond rfl (fun _h13 => ?_) (fun _h13 => ?_)
  · have _kb_17 := _h13
    have _h13 := bt_d _h13
    refine W_skip ?_
    refine thn_nrm (_hK_16 _ _ ?_)
    clear _hK_16
    refine W_seq fun _K_18 _hK_18 => ?_
    refine W_block ?_
    refine W_seq fun _K_19 _hK_19 => ?_
    refine W_region ?_
    refine WL_s rfl rfl ?_
    have _f_20 := (_h_shG.ch0 _E0h)
    refine (s_index _f_20 Gv.len el26 sz57 rfl rfl rfl (by omega) fun _p14 _y14 _hy14 _a14 => ?_)
    have _f_21 := (_rd_hG.ch0 _E0h)
    obtain ⟨_ys14, _hys14, _fs14, fe14⟩ := _f_21.get _hy14
    obtain ⟨⟨_A14, _n14, _C14⟩, ⟨Ae14, ne14, Ce14⟩⟩ := _y14
    obtain rfl := _fs14.eqn
    obtain rfl := fe14.eqn
    have _l14 := _fs14.len
    have le14 := fe14.len
    replace _fs14 : Ls ics 1 _wr_14 LR_hG w.heap.size (.slice _A14 _ys14.V.length _C14) _ys14.V := _fs14
    replace fe14 : Ls GEdge.cs 4 _wr_14 LR_hG w.heap.size (.slice Ae14 _ys14.E.length Ce14) _ys14.E := fe14
    refine WL_step rfl rfl (r_loadAtA0 _a14 agg57 sz57 rfl) ?_
    refine WL_s rfl rfl ?_
    refine s_alloc zr57 fun _b5 _w_22 _m5 _cw_22 _e5 => ?_
    have _cw_22z := _cw_22.size
    have E := E.trans _cw_22
    have _z5 := _m5.lt
    replace _m5 : Blk _w_22 _b5 57 [(.slice none 0 0), (.slice none 0 0)] := _m5
    refine WL_s rfl rfl ?_
    refine s_storeA (off := 0) 2 _m5 sz57 rfl (us := [(.slice _A14 _ys14.V.length _C14), (.slice Ae14 _ys14.E.length Ce14)]) rfl rfl rfl rfl fun _w_23 _m_24 _cw_23 => ?_
    have _cw_23z := _cw_23.size
    have E := E.step _cw_23 (fun i hi => .inl (by have _h1 := List.mem_singleton.1 hi; omega))
    replace _m_24 : Blk _w_23 _b5 57 [(.slice _A14 _ys14.V.length _C14), (.slice Ae14 _ys14.E.length Ce14)] := _m_24
    refine WL_nil ?_
    refine thn_nrm (_hK_19 _ _ ?_)
    clear _hK_19
    refine W_drawC ((bl (.slice Akv (vs).length Ckv)) ++ [_b3]) 8 mixed rfl fun _w_25 _cw_25 => ?_
    have _cw_25z := _cw_25.size
    have E := E.trans _cw_25
    refine DR_s 0 rfl (by kernel_rfl) rfl rfl (t_v (fun _ => (r_fieldAddr fa28_1 rfl)) ?_)
    have _f_26 := (_m_24.ch0 _cw_25)
    refine DR_s 2 rfl (by kernel_rfl) rfl rfl (t_loadAtA0 _f_26.at_ (fun i hm => by rcases List.mem_append.1 hm with hm | hm; (have _h1 := lo0_3_1 _ hm; have _h2 := hikv _ hm; omega); (have _h1 := List.mem_singleton.1 hm; omega)) agg57 sz57 rfl ?_)
    refine DR_two 1 3 (by kernel_rfl) ?_ ?_
    · refine DO_s rfl rfl rfl ?_
      have _f_27 := (((_m0_3.ch0 _cw_22).ch _cw_23 (fun hm => by have _h1 := List.mem_singleton.1 hm; omega)).ch0 _cw_25)
      refine s_v (r_loadAt _f_27.at_ agg26 rfl rfl) ?_
      refine ⟨(Ch.refl _ _), ?_⟩
      refine DR_one 3 (by kernel_rfl) ?_
      refine DO_s rfl rfl rfl ?_
      have _f_28 := (((_fs14.ch0 _cw_22).ch _cw_23 (fun i hi => by have _h1 := List.mem_singleton.1 hi; omega)).ch0 _cw_25)
      have _f_29 := (((fe14.ch0 _cw_22).ch _cw_23 (fun i hi => by have _h1 := List.mem_singleton.1 hi; omega)).ch0 _cw_25)
      refine Step.call (r_call (xs := [.tmp 18]) fk117 rfl) (c_impl_copyGraph _f_28 _f_29 (by have _h9 := gsize_le _hys14; omega)) fun _v19 _w_30 _q19 => ?_
      obtain ⟨u19_0x0, u19_0x1, rfl, _q_u19_0x0, _lo_u19_0x0, _q_u19_0x1, _lo_u19_0x1, _dj_u19_0x0_u19_0x1, _cw_30⟩ := _q19
      have _cw_30z := _cw_30.size
      have E := E.trans _cw_30
      obtain ⟨Au19_0x0, Cu19_0x0, eu19_0x0⟩ := _q_u19_0x0.val
      subst eu19_0x0
      have lu19_0x0 := _q_u19_0x0.len
      have _hiu19_0x0 := _q_u19_0x0.lt
      obtain ⟨Au19_0x1, Cu19_0x1, eu19_0x1⟩ := _q_u19_0x1.val
      subst eu19_0x1
      have lu19_0x1 := _q_u19_0x1.len
      have _hiu19_0x1 := _q_u19_0x1.lt
      have _S_31 : Ch ((bl (.slice Akv (vs).length Ckv)) ++ [_b3]) _w_25 _w_30 := ((Ch.refl _ _).trans _cw_30.of_nil)
      refine ⟨_S_31, ?_⟩
      refine DR_one 4 (by kernel_rfl) ?_
      refine DO_s rfl rfl rfl ?_
      refine s_buildSlice (cs := Gv.cs) (parts := [(0, .tmp 19)]) (⟨⟨none, 0, 0⟩, ⟨none, 0, 0⟩⟩ : Gv) [(⟨(⟨Au19_0x0, (_ys14.V).length, Cu19_0x0⟩ : Sv), (⟨Au19_0x1, (_ys14.E).length, Cu19_0x1⟩ : Sv)⟩ : Gv)] el26 sz57 zr57 Gv.len (by decide) rfl rfl rfl (by decide) (by decide) rfl fun _v20 _w_32 _q20 _lo20 _cw_32 => ?_
      have _cw_32z := _cw_32.size
      have E := E.trans _cw_32
      obtain ⟨_Av20, _Cv20, _ev20⟩ := _q20.val
      subst _ev20
      have _lv20 := _q20.len
      have _hiv20 := _q20.lt
      have _f_33 := (_q_u19_0x0.ch0 _cw_32)
      have _f_34 := (_q_u19_0x1.ch0 _cw_32)
      have od20 : OdG 3 168 _w_32 _w_25.heap.size _w_32.heap.size ([(⟨(⟨Au19_0x0, (_ys14.V).length, Cu19_0x0⟩ : Sv), (⟨Au19_0x1, (_ys14.E).length, Cu19_0x1⟩ : Sv)⟩ : Gv)]) ([(⟨_ys14.V, _ys14.E⟩ : GD)]) := OdG.snoc (hi := _w_25.heap.size) (vs := []) (xs := []) OdG.nil _f_33 _f_34 (Lo.down _lo_u19_0x0 (by omega)) (Lo.down _lo_u19_0x1 (by omega)) (fun g hg => by have _h1 := _hiu19_0x0 g hg; omega) (fun g hg => by have _h1 := _hiu19_0x1 g hg; omega) (fun g hm hg => by exact _dj_u19_0x0_u19_0x1 _ hm hg) (by omega) (by omega)
      have spn20 : SepH (.slice _Av20 ([(⟨(⟨Au19_0x0, (_ys14.V).length, Cu19_0x0⟩ : Sv), (⟨Au19_0x1, (_ys14.E).length, Cu19_0x1⟩ : Sv)⟩ : Gv)]).length _Cv20) [(⟨(⟨Au19_0x0, (_ys14.V).length, Cu19_0x0⟩ : Sv), (⟨Au19_0x1, (_ys14.E).length, Cu19_0x1⟩ : Sv)⟩ : Gv)] := fun u hu => by rw [List.mem_singleton.1 hu]; exact ⟨fun g hg hm => by have _h1 := _hiu19_0x0 _ hg; have _h2 := _lo20 _ hm; omega, fun g hg hm => by have _h1 := _hiu19_0x1 _ hg; have _h2 := _lo20 _ hm; omega⟩
      have _S_35 : Ch ((bl (.slice Akv (vs).length Ckv)) ++ [_b3]) _w_25 _w_32 := (_S_31.trans _cw_32.of_nil)
      refine ⟨_S_35, ?_⟩
      refine DR_one 5 (by kernel_rfl) ?_
      refine DO_s rfl rfl rfl ?_
      have _f_37 := (((((o0_3_1.ch0 _cw_22).ch _cw_23 (fun g hg hm => by have _h0 := List.mem_singleton.1 hm; have _h2 := lo0_3_1 _ hg; have _h3 := hikv _ hg; omega)).ch0 _cw_25).ch0 _cw_30).ch0 _cw_32)
      refine s_append (cs := Gv.cs) el26 sz57 by57 zr57 rfl (by decide) Gv.one _f_37 _q20.ls rfl rfl (by simp only [List.length_singleton]; omega) (by simp only [List.length_singleton]; omega) lo0_3_1 (by omega) fun _v21 _w_36 _q21 _lo21 _ap21 _cw_36 => ?_
      have _cw_36z := _cw_36.size
      have E := E.step _cw_36 (fun i hi => .inl (by have _h1 := lo0_3_1 _ hi; omega))
      obtain ⟨_Av21, _Cv21, _ev21⟩ := _q21.val
      subst _ev21
      have _lv21 := _q21.len
      have _hiv21 := _q21.lt
      have _S_38 : Ch ((bl (.slice Akv (vs).length Ckv)) ++ [_b3]) _w_25 _w_36 := (_S_35.step _cw_36 (fun i hm => by exact .inr (List.mem_append_left _ hm)))
      refine ⟨_S_38, ?_⟩
      refine DR_s 6 rfl (by kernel_rfl) rfl rfl (t_v (fun _ => (r_fieldAddr fa28_1 rfl)) ?_)
      refine DR_one 7 (by kernel_rfl) ?_
      refine DO_s rfl rfl rfl ?_
      have _f_39 := (((_f_27.ch0 _cw_30).ch0 _cw_32).ch _cw_36 (fun hm => by exact _nb0_3_1 (by first | exact hm | exact _h0 ▸ hm)))
      refine s_store1 (off := 1) _f_39 sz26 rfl rfl rfl rfl fun _w_40 _m_41 _cw_40 => ?_
      have _cw_40z := _cw_40.size
      have E := E.step _cw_40 (fun i hi => .inl (by have _h1 := List.mem_singleton.1 hi; omega))
      replace _m_41 : Blk _w_40 _b3 28 [(.int .i64 hF), (.slice _Av21 ((vs ++ [(⟨(⟨Au19_0x0, (_ys14.V).length, Cu19_0x0⟩ : Sv), (⟨Au19_0x1, (_ys14.E).length, Cu19_0x1⟩ : Sv)⟩ : Gv)])).length _Cv21)] := _m_41
      have _S_42 : Ch ((bl (.slice Akv (vs).length Ckv)) ++ [_b3]) _w_25 _w_40 := (_S_38.step _cw_40 (fun i hm => by have _h0 := List.mem_singleton.1 hm; exact .inr (by rw [_h0]; exact (List.mem_append_right _ (List.mem_singleton.2 rfl)))))
      refine ⟨_S_42, ?_⟩
      refine DR_done (by kernel_rfl) ?_
      refine inB_nrm ?_
      refine thn_nrm (_hK_18 _ _ ?_)
      clear _hK_18
      refine W_region ?_
      refine WL_step rfl rfl (r_add (by omega) rfl rfl) ?_
      refine WL_step rfl rfl (r_move rfl) ?_
      refine WL_nil ?_
      have _f_44 := (_q21.ch _cw_40 (fun g hg hm => by have _h0 := List.mem_singleton.1 hm; rcases _ap21 with ea | ea; (rw [ea] at hg; exact _nb0_3_1 (by first | exact hg | exact _h0 ▸ hg)); (rw [ea] at hg; have _z1 := List.mem_singleton.1 hg; omega)))
      have _on_43 : Ol Gv.cs 57 2 _w_40 (.slice _Av21 ((vs ++ [(⟨(⟨Au19_0x0, (_ys14.V).length, Cu19_0x0⟩ : Sv), (⟨Au19_0x1, (_ys14.E).length, Cu19_0x1⟩ : Sv)⟩ : Gv)])).length _Cv21) ((vs ++ [(⟨(⟨Au19_0x0, (_ys14.V).length, Cu19_0x0⟩ : Sv), (⟨Au19_0x1, (_ys14.E).length, Cu19_0x1⟩ : Sv)⟩ : Gv)])) := by
        have hx := _f_44
        exact hx
      have _f_45 := (((((((od.ch0 _cw_22).ch _cw_23 (fun i hi => by have _h1 := List.mem_singleton.1 hi; omega)).ch0 _cw_25).ch0 _cw_30).ch0 _cw_32).chH _cw_36 _spl0_3).ch _cw_40 (fun i hi => by have _h1 := List.mem_singleton.1 hi; omega))
      have _f_46 := ((_f_33.ch _cw_36 (fun g hg hm => by have _h1 := lo0_3_1 _ hm; have _h2 := hikv _ hm; have _h3 := _lo_u19_0x0 _ hg; have _h4 := _hiu19_0x0 _ hg; omega)).ch _cw_40 (fun g hg hm => by have _h0 := List.mem_singleton.1 hm; have _h2 := _lo_u19_0x0 _ hg; have _h3 := _hiu19_0x0 _ hg; omega))
      have _f_47 := ((_f_34.ch _cw_36 (fun g hg hm => by have _h1 := lo0_3_1 _ hm; have _h2 := hikv _ hm; have _h3 := _lo_u19_0x1 _ hg; have _h4 := _hiu19_0x1 _ hg; omega)).ch _cw_40 (fun g hg hm => by have _h0 := List.mem_singleton.1 hm; have _h2 := _lo_u19_0x1 _ hg; have _h3 := _hiu19_0x1 _ hg; omega))
      have _f_48 := (((((((_F0_0.ch0 _cw_22).ch _cw_23 (fun hm => by have _h1 := List.mem_singleton.1 hm; omega)).ch0 _cw_25).ch0 _cw_30).ch0 _cw_32).ch _cw_36 (fun hm => by have _h1 := lo0_3_1 _ hm; have _h2 := hikv _ hm; omega)).ch _cw_40 (fun hm => by have _h1 := List.mem_singleton.1 hm; omega))
      exact thn_nrm (Exists.intro ((k + 1), (vs ++ [(⟨(⟨Au19_0x0, (_ys14.V).length, Cu19_0x0⟩ : Sv), (⟨Au19_0x1, (_ys14.E).length, Cu19_0x1⟩ : Sv)⟩ : Gv)]), (.slice _Av21 ((vs ++ [(⟨(⟨Au19_0x0, (_ys14.V).length, Cu19_0x0⟩ : Sv), (⟨Au19_0x1, (_ys14.E).length, Cu19_0x1⟩ : Sv)⟩ : Gv)])).length _Cv21)) ⟨⟨E, (by omega), (by omega), (by simp [hvl]), _f_48, _on_43, (Lo.down _lo21 (by omega)), (by rw [take_snoc _hys14]; exact OdG.snoc _f_45 (x := _ys14) _f_46 _f_47 (Lo.down _lo_u19_0x0 (by omega)) (Lo.down _lo_u19_0x1 (by omega)) (fun g hg => by have _h1 := _hiu19_0x0 g hg; omega) (fun g hg => by have _h1 := _hiu19_0x1 g hg; omega) (fun g hm hg => by exact _dj_u19_0x0_u19_0x1 _ hm hg) (by omega) (by omega)), _m_41, (fun hm => by rcases _ap21 with ea | ea; (rw [ea] at hm; exact _nb0_3_1 (by first | exact hm | exact _h0 ▸ hm)); (rw [ea] at hm; have _z1 := List.mem_singleton.1 hm; omega)), (fun u hu => ⟨fun g hg hm => by rcases List.mem_append.1 hu with hu | hu; (rcases _ap21 with ea | ea; (rw [ea] at hm; exact (_spl0_3 _ hu).1 _ hg hm); (rw [ea] at hm; have _z1 := List.mem_singleton.1 hm; have _h9 := (_f_45.rng hu).1 _ hg; omega)); (rw [List.mem_singleton.1 hu] at hg; rcases _ap21 with ea | ea; (rw [ea] at hm; have _h1 := lo0_3_1 _ hm; have _h2 := hikv _ hm; have _h3 := _lo_u19_0x0 _ hg; have _h4 := _hiu19_0x0 _ hg; omega); (rw [ea] at hm; have _z1 := List.mem_singleton.1 hm; have _h3 := _lo_u19_0x0 _ hg; have _h4 := _hiu19_0x0 _ hg; omega)), fun g hg hm => by rcases List.mem_append.1 hu with hu | hu; (rcases _ap21 with ea | ea; (rw [ea] at hm; exact (_spl0_3 _ hu).2 _ hg hm); (rw [ea] at hm; have _z1 := List.mem_singleton.1 hm; have _h9 := (_f_45.rng hu).2 _ hg; omega)); (rw [List.mem_singleton.1 hu] at hg; rcases _ap21 with ea | ea; (rw [ea] at hm; have _h1 := lo0_3_1 _ hm; have _h2 := hikv _ hm; have _h3 := _lo_u19_0x1 _ hg; have _h4 := _hiu19_0x1 _ hg; omega); (rw [ea] at hm; have _z1 := List.mem_singleton.1 hm; have _h3 := _lo_u19_0x1 _ hg; have _h4 := _hiu19_0x1 _ hg; omega))⟩)⟩, Sub.cons rfl (Sub.cons rfl (Sub.cons rfl (Sub.cons rfl (Sub.cons rfl (Sub.nil _))))), (by first | omega | (dsimp only; omega))⟩)
    · refine DO_s rfl rfl rfl ?_
      have _f_49 := (((_fs14.ch0 _cw_22).ch _cw_23 (fun i hi => by have _h1 := List.mem_singleton.1 hi; omega)).ch0 _cw_25)
      have _f_50 := (((fe14.ch0 _cw_22).ch _cw_23 (fun i hi => by have _h1 := List.mem_singleton.1 hi; omega)).ch0 _cw_25)
      refine Step.call (r_call (xs := [.tmp 18]) fk117 rfl) (c_impl_copyGraph _f_49 _f_50 (by have _h9 := gsize_le _hys14; omega)) fun _v19 _w_51 _q19 => ?_
      obtain ⟨u19_0x0, u19_0x1, rfl, _q_u19_0x0, _lo_u19_0x0, _q_u19_0x1, _lo_u19_0x1, _dj_u19_0x0_u19_0x1, _cw_51⟩ := _q19
      have _cw_51z := _cw_51.size
      have E := E.trans _cw_51
      obtain ⟨Au19_0x0, Cu19_0x0, eu19_0x0⟩ := _q_u19_0x0.val
      subst eu19_0x0
      have lu19_0x0 := _q_u19_0x0.len
      have _hiu19_0x0 := _q_u19_0x0.lt
      obtain ⟨Au19_0x1, Cu19_0x1, eu19_0x1⟩ := _q_u19_0x1.val
      subst eu19_0x1
      have lu19_0x1 := _q_u19_0x1.len
      have _hiu19_0x1 := _q_u19_0x1.lt
      have _S_52 : Ch ((bl (.slice Akv (vs).length Ckv)) ++ [_b3]) _w_25 _w_51 := ((Ch.refl _ _).trans _cw_51.of_nil)
      refine ⟨_S_52, ?_⟩
      refine DR_two 1 4 (by kernel_rfl) ?_ ?_
      · refine DO_s rfl rfl rfl ?_
        have _f_53 := ((((_m0_3.ch0 _cw_22).ch _cw_23 (fun hm => by have _h1 := List.mem_singleton.1 hm; omega)).ch0 _cw_25).ch0 _cw_51)
        refine s_v (r_loadAt _f_53.at_ agg26 rfl rfl) ?_
        refine ⟨_S_52, ?_⟩
        refine DR_one 4 (by kernel_rfl) ?_
        refine DO_s rfl rfl rfl ?_
        refine s_buildSlice (cs := Gv.cs) (parts := [(0, .tmp 19)]) (⟨⟨none, 0, 0⟩, ⟨none, 0, 0⟩⟩ : Gv) [(⟨(⟨Au19_0x0, (_ys14.V).length, Cu19_0x0⟩ : Sv), (⟨Au19_0x1, (_ys14.E).length, Cu19_0x1⟩ : Sv)⟩ : Gv)] el26 sz57 zr57 Gv.len (by decide) rfl rfl rfl (by decide) (by decide) rfl fun _v20 _w_54 _q20 _lo20 _cw_54 => ?_
        have _cw_54z := _cw_54.size
        have E := E.trans _cw_54
        obtain ⟨_Av20, _Cv20, _ev20⟩ := _q20.val
        subst _ev20
        have _lv20 := _q20.len
        have _hiv20 := _q20.lt
        have _f_55 := (_q_u19_0x0.ch0 _cw_54)
        have _f_56 := (_q_u19_0x1.ch0 _cw_54)
        have od20 : OdG 3 168 _w_54 _w_25.heap.size _w_54.heap.size ([(⟨(⟨Au19_0x0, (_ys14.V).length, Cu19_0x0⟩ : Sv), (⟨Au19_0x1, (_ys14.E).length, Cu19_0x1⟩ : Sv)⟩ : Gv)]) ([(⟨_ys14.V, _ys14.E⟩ : GD)]) := OdG.snoc (hi := _w_25.heap.size) (vs := []) (xs := []) OdG.nil _f_55 _f_56 (Lo.down _lo_u19_0x0 (by omega)) (Lo.down _lo_u19_0x1 (by omega)) (fun g hg => by have _h1 := _hiu19_0x0 g hg; omega) (fun g hg => by have _h1 := _hiu19_0x1 g hg; omega) (fun g hm hg => by exact _dj_u19_0x0_u19_0x1 _ hm hg) (by omega) (by omega)
        have spn20 : SepH (.slice _Av20 ([(⟨(⟨Au19_0x0, (_ys14.V).length, Cu19_0x0⟩ : Sv), (⟨Au19_0x1, (_ys14.E).length, Cu19_0x1⟩ : Sv)⟩ : Gv)]).length _Cv20) [(⟨(⟨Au19_0x0, (_ys14.V).length, Cu19_0x0⟩ : Sv), (⟨Au19_0x1, (_ys14.E).length, Cu19_0x1⟩ : Sv)⟩ : Gv)] := fun u hu => by rw [List.mem_singleton.1 hu]; exact ⟨fun g hg hm => by have _h1 := _hiu19_0x0 _ hg; have _h2 := _lo20 _ hm; omega, fun g hg hm => by have _h1 := _hiu19_0x1 _ hg; have _h2 := _lo20 _ hm; omega⟩
        have _S_57 : Ch ((bl (.slice Akv (vs).length Ckv)) ++ [_b3]) _w_25 _w_54 := (_S_52.trans _cw_54.of_nil)
        refine ⟨_S_57, ?_⟩
        refine DR_one 5 (by kernel_rfl) ?_
        refine DO_s rfl rfl rfl ?_
        have _f_59 := (((((o0_3_1.ch0 _cw_22).ch _cw_23 (fun g hg hm => by have _h0 := List.mem_singleton.1 hm; have _h2 := lo0_3_1 _ hg; have _h3 := hikv _ hg; omega)).ch0 _cw_25).ch0 _cw_51).ch0 _cw_54)
        refine s_append (cs := Gv.cs) el26 sz57 by57 zr57 rfl (by decide) Gv.one _f_59 _q20.ls rfl rfl (by simp only [List.length_singleton]; omega) (by simp only [List.length_singleton]; omega) lo0_3_1 (by omega) fun _v21 _w_58 _q21 _lo21 _ap21 _cw_58 => ?_
        have _cw_58z := _cw_58.size
        have E := E.step _cw_58 (fun i hi => .inl (by have _h1 := lo0_3_1 _ hi; omega))
        obtain ⟨_Av21, _Cv21, _ev21⟩ := _q21.val
        subst _ev21
        have _lv21 := _q21.len
        have _hiv21 := _q21.lt
        have _S_60 : Ch ((bl (.slice Akv (vs).length Ckv)) ++ [_b3]) _w_25 _w_58 := (_S_57.step _cw_58 (fun i hm => by exact .inr (List.mem_append_left _ hm)))
        refine ⟨_S_60, ?_⟩
        refine DR_s 6 rfl (by kernel_rfl) rfl rfl (t_v (fun _ => (r_fieldAddr fa28_1 rfl)) ?_)
        refine DR_one 7 (by kernel_rfl) ?_
        refine DO_s rfl rfl rfl ?_
        have _f_61 := ((_f_53.ch0 _cw_54).ch _cw_58 (fun hm => by exact _nb0_3_1 (by first | exact hm | exact _h0 ▸ hm)))
        refine s_store1 (off := 1) _f_61 sz26 rfl rfl rfl rfl fun _w_62 _m_63 _cw_62 => ?_
        have _cw_62z := _cw_62.size
        have E := E.step _cw_62 (fun i hi => .inl (by have _h1 := List.mem_singleton.1 hi; omega))
        replace _m_63 : Blk _w_62 _b3 28 [(.int .i64 hF), (.slice _Av21 ((vs ++ [(⟨(⟨Au19_0x0, (_ys14.V).length, Cu19_0x0⟩ : Sv), (⟨Au19_0x1, (_ys14.E).length, Cu19_0x1⟩ : Sv)⟩ : Gv)])).length _Cv21)] := _m_63
        have _S_64 : Ch ((bl (.slice Akv (vs).length Ckv)) ++ [_b3]) _w_25 _w_62 := (_S_60.step _cw_62 (fun i hm => by have _h0 := List.mem_singleton.1 hm; exact .inr (by rw [_h0]; exact (List.mem_append_right _ (List.mem_singleton.2 rfl)))))
        refine ⟨_S_64, ?_⟩
        refine DR_done (by kernel_rfl) ?_
        refine inB_nrm ?_
        refine thn_nrm (_hK_18 _ _ ?_)
        clear _hK_18
        refine W_region ?_
        refine WL_step rfl rfl (r_add (by omega) rfl rfl) ?_
        refine WL_step rfl rfl (r_move rfl) ?_
        refine WL_nil ?_
        have _f_66 := (_q21.ch _cw_62 (fun g hg hm => by have _h0 := List.mem_singleton.1 hm; rcases _ap21 with ea | ea; (rw [ea] at hg; exact _nb0_3_1 (by first | exact hg | exact _h0 ▸ hg)); (rw [ea] at hg; have _z1 := List.mem_singleton.1 hg; omega)))
        have _on_65 : Ol Gv.cs 57 2 _w_62 (.slice _Av21 ((vs ++ [(⟨(⟨Au19_0x0, (_ys14.V).length, Cu19_0x0⟩ : Sv), (⟨Au19_0x1, (_ys14.E).length, Cu19_0x1⟩ : Sv)⟩ : Gv)])).length _Cv21) ((vs ++ [(⟨(⟨Au19_0x0, (_ys14.V).length, Cu19_0x0⟩ : Sv), (⟨Au19_0x1, (_ys14.E).length, Cu19_0x1⟩ : Sv)⟩ : Gv)])) := by
          have hx := _f_66
          exact hx
        have _f_67 := (((((((od.ch0 _cw_22).ch _cw_23 (fun i hi => by have _h1 := List.mem_singleton.1 hi; omega)).ch0 _cw_25).ch0 _cw_51).ch0 _cw_54).chH _cw_58 _spl0_3).ch _cw_62 (fun i hi => by have _h1 := List.mem_singleton.1 hi; omega))
        have _f_68 := ((_f_55.ch _cw_58 (fun g hg hm => by have _h1 := lo0_3_1 _ hm; have _h2 := hikv _ hm; have _h3 := _lo_u19_0x0 _ hg; have _h4 := _hiu19_0x0 _ hg; omega)).ch _cw_62 (fun g hg hm => by have _h0 := List.mem_singleton.1 hm; have _h2 := _lo_u19_0x0 _ hg; have _h3 := _hiu19_0x0 _ hg; omega))
        have _f_69 := ((_f_56.ch _cw_58 (fun g hg hm => by have _h1 := lo0_3_1 _ hm; have _h2 := hikv _ hm; have _h3 := _lo_u19_0x1 _ hg; have _h4 := _hiu19_0x1 _ hg; omega)).ch _cw_62 (fun g hg hm => by have _h0 := List.mem_singleton.1 hm; have _h2 := _lo_u19_0x1 _ hg; have _h3 := _hiu19_0x1 _ hg; omega))
        have _f_70 := (((((((_F0_0.ch0 _cw_22).ch _cw_23 (fun hm => by have _h1 := List.mem_singleton.1 hm; omega)).ch0 _cw_25).ch0 _cw_51).ch0 _cw_54).ch _cw_58 (fun hm => by have _h1 := lo0_3_1 _ hm; have _h2 := hikv _ hm; omega)).ch _cw_62 (fun hm => by have _h1 := List.mem_singleton.1 hm; omega))
        exact thn_nrm (Exists.intro ((k + 1), (vs ++ [(⟨(⟨Au19_0x0, (_ys14.V).length, Cu19_0x0⟩ : Sv), (⟨Au19_0x1, (_ys14.E).length, Cu19_0x1⟩ : Sv)⟩ : Gv)]), (.slice _Av21 ((vs ++ [(⟨(⟨Au19_0x0, (_ys14.V).length, Cu19_0x0⟩ : Sv), (⟨Au19_0x1, (_ys14.E).length, Cu19_0x1⟩ : Sv)⟩ : Gv)])).length _Cv21)) ⟨⟨E, (by omega), (by omega), (by simp [hvl]), _f_70, _on_65, (Lo.down _lo21 (by omega)), (by rw [take_snoc _hys14]; exact OdG.snoc _f_67 (x := _ys14) _f_68 _f_69 (Lo.down _lo_u19_0x0 (by omega)) (Lo.down _lo_u19_0x1 (by omega)) (fun g hg => by have _h1 := _hiu19_0x0 g hg; omega) (fun g hg => by have _h1 := _hiu19_0x1 g hg; omega) (fun g hm hg => by exact _dj_u19_0x0_u19_0x1 _ hm hg) (by omega) (by omega)), _m_63, (fun hm => by rcases _ap21 with ea | ea; (rw [ea] at hm; exact _nb0_3_1 (by first | exact hm | exact _h0 ▸ hm)); (rw [ea] at hm; have _z1 := List.mem_singleton.1 hm; omega)), (fun u hu => ⟨fun g hg hm => by rcases List.mem_append.1 hu with hu | hu; (rcases _ap21 with ea | ea; (rw [ea] at hm; exact (_spl0_3 _ hu).1 _ hg hm); (rw [ea] at hm; have _z1 := List.mem_singleton.1 hm; have _h9 := (_f_67.rng hu).1 _ hg; omega)); (rw [List.mem_singleton.1 hu] at hg; rcases _ap21 with ea | ea; (rw [ea] at hm; have _h1 := lo0_3_1 _ hm; have _h2 := hikv _ hm; have _h3 := _lo_u19_0x0 _ hg; have _h4 := _hiu19_0x0 _ hg; omega); (rw [ea] at hm; have _z1 := List.mem_singleton.1 hm; have _h3 := _lo_u19_0x0 _ hg; have _h4 := _hiu19_0x0 _ hg; omega)), fun g hg hm => by rcases List.mem_append.1 hu with hu | hu; (rcases _ap21 with ea | ea; (rw [ea] at hm; exact (_spl0_3 _ hu).2 _ hg hm); (rw [ea] at hm; have _z1 := List.mem_singleton.1 hm; have _h9 := (_f_67.rng hu).2 _ hg; omega)); (rw [List.mem_singleton.1 hu] at hg; rcases _ap21 with ea | ea; (rw [ea] at hm; have _h1 := lo0_3_1 _ hm; have _h2 := hikv _ hm; have _h3 := _lo_u19_0x1 _ hg; have _h4 := _hiu19_0x1 _ hg; omega); (rw [ea] at hm; have _z1 := List.mem_singleton.1 hm; have _h3 := _lo_u19_0x1 _ hg; have _h4 := _hiu19_0x1 _ hg; omega))⟩)⟩, Sub.cons rfl (Sub.cons rfl (Sub.cons rfl (Sub.cons rfl (Sub.cons rfl (Sub.nil _))))), (by first | omega | (dsimp only; omega))⟩)
      · refine DO_s rfl rfl rfl ?_
        refine s_buildSlice (cs := Gv.cs) (parts := [(0, .tmp 19)]) (⟨⟨none, 0, 0⟩, ⟨none, 0, 0⟩⟩ : Gv) [(⟨(⟨Au19_0x0, (_ys14.V).length, Cu19_0x0⟩ : Sv), (⟨Au19_0x1, (_ys14.E).length, Cu19_0x1⟩ : Sv)⟩ : Gv)] el26 sz57 zr57 Gv.len (by decide) rfl rfl rfl (by decide) (by decide) rfl fun _v20 _w_71 _q20 _lo20 _cw_71 => ?_
        have _cw_71z := _cw_71.size
        have E := E.trans _cw_71
        obtain ⟨_Av20, _Cv20, _ev20⟩ := _q20.val
        subst _ev20
        have _lv20 := _q20.len
        have _hiv20 := _q20.lt
        have _f_72 := (_q_u19_0x0.ch0 _cw_71)
        have _f_73 := (_q_u19_0x1.ch0 _cw_71)
        have od20 : OdG 3 168 _w_71 _w_25.heap.size _w_71.heap.size ([(⟨(⟨Au19_0x0, (_ys14.V).length, Cu19_0x0⟩ : Sv), (⟨Au19_0x1, (_ys14.E).length, Cu19_0x1⟩ : Sv)⟩ : Gv)]) ([(⟨_ys14.V, _ys14.E⟩ : GD)]) := OdG.snoc (hi := _w_25.heap.size) (vs := []) (xs := []) OdG.nil _f_72 _f_73 (Lo.down _lo_u19_0x0 (by omega)) (Lo.down _lo_u19_0x1 (by omega)) (fun g hg => by have _h1 := _hiu19_0x0 g hg; omega) (fun g hg => by have _h1 := _hiu19_0x1 g hg; omega) (fun g hm hg => by exact _dj_u19_0x0_u19_0x1 _ hm hg) (by omega) (by omega)
        have spn20 : SepH (.slice _Av20 ([(⟨(⟨Au19_0x0, (_ys14.V).length, Cu19_0x0⟩ : Sv), (⟨Au19_0x1, (_ys14.E).length, Cu19_0x1⟩ : Sv)⟩ : Gv)]).length _Cv20) [(⟨(⟨Au19_0x0, (_ys14.V).length, Cu19_0x0⟩ : Sv), (⟨Au19_0x1, (_ys14.E).length, Cu19_0x1⟩ : Sv)⟩ : Gv)] := fun u hu => by rw [List.mem_singleton.1 hu]; exact ⟨fun g hg hm => by have _h1 := _hiu19_0x0 _ hg; have _h2 := _lo20 _ hm; omega, fun g hg hm => by have _h1 := _hiu19_0x1 _ hg; have _h2 := _lo20 _ hm; omega⟩
        have _S_74 : Ch ((bl (.slice Akv (vs).length Ckv)) ++ [_b3]) _w_25 _w_71 := (_S_52.trans _cw_71.of_nil)
        refine ⟨_S_74, ?_⟩
        refine DR_one 1 (by kernel_rfl) ?_
        refine DO_s rfl rfl rfl ?_
        have _f_75 := (((((_m0_3.ch0 _cw_22).ch _cw_23 (fun hm => by have _h1 := List.mem_singleton.1 hm; omega)).ch0 _cw_25).ch0 _cw_51).ch0 _cw_71)
        refine s_v (r_loadAt _f_75.at_ agg26 rfl rfl) ?_
        refine ⟨_S_74, ?_⟩
        refine DR_one 5 (by kernel_rfl) ?_
        refine DO_s rfl rfl rfl ?_
        have _f_77 := (((((o0_3_1.ch0 _cw_22).ch _cw_23 (fun g hg hm => by have _h0 := List.mem_singleton.1 hm; have _h2 := lo0_3_1 _ hg; have _h3 := hikv _ hg; omega)).ch0 _cw_25).ch0 _cw_51).ch0 _cw_71)
        refine s_append (cs := Gv.cs) el26 sz57 by57 zr57 rfl (by decide) Gv.one _f_77 _q20.ls rfl rfl (by simp only [List.length_singleton]; omega) (by simp only [List.length_singleton]; omega) lo0_3_1 (by omega) fun _v21 _w_76 _q21 _lo21 _ap21 _cw_76 => ?_
        have _cw_76z := _cw_76.size
        have E := E.step _cw_76 (fun i hi => .inl (by have _h1 := lo0_3_1 _ hi; omega))
        obtain ⟨_Av21, _Cv21, _ev21⟩ := _q21.val
        subst _ev21
        have _lv21 := _q21.len
        have _hiv21 := _q21.lt
        have _S_78 : Ch ((bl (.slice Akv (vs).length Ckv)) ++ [_b3]) _w_25 _w_76 := (_S_74.step _cw_76 (fun i hm => by exact .inr (List.mem_append_left _ hm)))
        refine ⟨_S_78, ?_⟩
        refine DR_s 6 rfl (by kernel_rfl) rfl rfl (t_v (fun _ => (r_fieldAddr fa28_1 rfl)) ?_)
        refine DR_one 7 (by kernel_rfl) ?_
        refine DO_s rfl rfl rfl ?_
        have _f_79 := (_f_75.ch _cw_76 (fun hm => by exact _nb0_3_1 (by first | exact hm | exact _h0 ▸ hm)))
        refine s_store1 (off := 1) _f_79 sz26 rfl rfl rfl rfl fun _w_80 _m_81 _cw_80 => ?_
        have _cw_80z := _cw_80.size
        have E := E.step _cw_80 (fun i hi => .inl (by have _h1 := List.mem_singleton.1 hi; omega))
        replace _m_81 : Blk _w_80 _b3 28 [(.int .i64 hF), (.slice _Av21 ((vs ++ [(⟨(⟨Au19_0x0, (_ys14.V).length, Cu19_0x0⟩ : Sv), (⟨Au19_0x1, (_ys14.E).length, Cu19_0x1⟩ : Sv)⟩ : Gv)])).length _Cv21)] := _m_81
        have _S_82 : Ch ((bl (.slice Akv (vs).length Ckv)) ++ [_b3]) _w_25 _w_80 := (_S_78.step _cw_80 (fun i hm => by have _h0 := List.mem_singleton.1 hm; exact .inr (by rw [_h0]; exact (List.mem_append_right _ (List.mem_singleton.2 rfl)))))
        refine ⟨_S_82, ?_⟩
        refine DR_done (by kernel_rfl) ?_
        refine inB_nrm ?_
        refine thn_nrm (_hK_18 _ _ ?_)
        clear _hK_18
        refine W_region ?_
        refine WL_step rfl rfl (r_add (by omega) rfl rfl) ?_
        refine WL_step rfl rfl (r_move rfl) ?_
        refine WL_nil ?_
        have _f_84 := (_q21.ch _cw_80 (fun g hg hm => by have _h0 := List.mem_singleton.1 hm; rcases _ap21 with ea | ea; (rw [ea] at hg; exact _nb0_3_1 (by first | exact hg | exact _h0 ▸ hg)); (rw [ea] at hg; have _z1 := List.mem_singleton.1 hg; omega)))
        have _on_83 : Ol Gv.cs 57 2 _w_80 (.slice _Av21 ((vs ++ [(⟨(⟨Au19_0x0, (_ys14.V).length, Cu19_0x0⟩ : Sv), (⟨Au19_0x1, (_ys14.E).length, Cu19_0x1⟩ : Sv)⟩ : Gv)])).length _Cv21) ((vs ++ [(⟨(⟨Au19_0x0, (_ys14.V).length, Cu19_0x0⟩ : Sv), (⟨Au19_0x1, (_ys14.E).length, Cu19_0x1⟩ : Sv)⟩ : Gv)])) := by
          have hx := _f_84
          exact hx
        have _f_85 := (((((((od.ch0 _cw_22).ch _cw_23 (fun i hi => by have _h1 := List.mem_singleton.1 hi; omega)).ch0 _cw_25).ch0 _cw_51).ch0 _cw_71).chH _cw_76 _spl0_3).ch _cw_80 (fun i hi => by have _h1 := List.mem_singleton.1 hi; omega))
        have _f_86 := ((_f_72.ch _cw_76 (fun g hg hm => by have _h1 := lo0_3_1 _ hm; have _h2 := hikv _ hm; have _h3 := _lo_u19_0x0 _ hg; have _h4 := _hiu19_0x0 _ hg; omega)).ch _cw_80 (fun g hg hm => by have _h0 := List.mem_singleton.1 hm; have _h2 := _lo_u19_0x0 _ hg; have _h3 := _hiu19_0x0 _ hg; omega))
        have _f_87 := ((_f_73.ch _cw_76 (fun g hg hm => by have _h1 := lo0_3_1 _ hm; have _h2 := hikv _ hm; have _h3 := _lo_u19_0x1 _ hg; have _h4 := _hiu19_0x1 _ hg; omega)).ch _cw_80 (fun g hg hm => by have _h0 := List.mem_singleton.1 hm; have _h2 := _lo_u19_0x1 _ hg; have _h3 := _hiu19_0x1 _ hg; omega))
        have _f_88 := (((((((_F0_0.ch0 _cw_22).ch _cw_23 (fun hm => by have _h1 := List.mem_singleton.1 hm; omega)).ch0 _cw_25).ch0 _cw_51).ch0 _cw_71).ch _cw_76 (fun hm => by have _h1 := lo0_3_1 _ hm; have _h2 := hikv _ hm; omega)).ch _cw_80 (fun hm => by have _h1 := List.mem_singleton.1 hm; omega))
        exact thn_nrm (Exists.intro ((k + 1), (vs ++ [(⟨(⟨Au19_0x0, (_ys14.V).length, Cu19_0x0⟩ : Sv), (⟨Au19_0x1, (_ys14.E).length, Cu19_0x1⟩ : Sv)⟩ : Gv)]), (.slice _Av21 ((vs ++ [(⟨(⟨Au19_0x0, (_ys14.V).length, Cu19_0x0⟩ : Sv), (⟨Au19_0x1, (_ys14.E).length, Cu19_0x1⟩ : Sv)⟩ : Gv)])).length _Cv21)) ⟨⟨E, (by omega), (by omega), (by simp [hvl]), _f_88, _on_83, (Lo.down _lo21 (by omega)), (by rw [take_snoc _hys14]; exact OdG.snoc _f_85 (x := _ys14) _f_86 _f_87 (Lo.down _lo_u19_0x0 (by omega)) (Lo.down _lo_u19_0x1 (by omega)) (fun g hg => by have _h1 := _hiu19_0x0 g hg; omega) (fun g hg => by have _h1 := _hiu19_0x1 g hg; omega) (fun g hm hg => by exact _dj_u19_0x0_u19_0x1 _ hm hg) (by omega) (by omega)), _m_81, (fun hm => by rcases _ap21 with ea | ea; (rw [ea] at hm; exact _nb0_3_1 (by first | exact hm | exact _h0 ▸ hm)); (rw [ea] at hm; have _z1 := List.mem_singleton.1 hm; omega)), (fun u hu => ⟨fun g hg hm => by rcases List.mem_append.1 hu with hu | hu; (rcases _ap21 with ea | ea; (rw [ea] at hm; exact (_spl0_3 _ hu).1 _ hg hm); (rw [ea] at hm; have _z1 := List.mem_singleton.1 hm; have _h9 := (_f_85.rng hu).1 _ hg; omega)); (rw [List.mem_singleton.1 hu] at hg; rcases _ap21 with ea | ea; (rw [ea] at hm; have _h1 := lo0_3_1 _ hm; have _h2 := hikv _ hm; have _h3 := _lo_u19_0x0 _ hg; have _h4 := _hiu19_0x0 _ hg; omega); (rw [ea] at hm; have _z1 := List.mem_singleton.1 hm; have _h3 := _lo_u19_0x0 _ hg; have _h4 := _hiu19_0x0 _ hg; omega)), fun g hg hm => by rcases List.mem_append.1 hu with hu | hu; (rcases _ap21 with ea | ea; (rw [ea] at hm; exact (_spl0_3 _ hu).2 _ hg hm); (rw [ea] at hm; have _z1 := List.mem_singleton.1 hm; have _h9 := (_f_85.rng hu).2 _ hg; omega)); (rw [List.mem_singleton.1 hu] at hg; rcases _ap21 with ea | ea; (rw [ea] at hm; have _h1 := lo0_3_1 _ hm; have _h2 := hikv _ hm; have _h3 := _lo_u19_0x1 _ hg; have _h4 := _hiu19_0x1 _ hg; omega); (rw [ea] at hm; have _z1 := List.mem_singleton.1 hm; have _h3 := _lo_u19_0x1 _ hg; have _h4 := _hiu19_0x1 _ hg; omega))⟩)⟩, Sub.cons rfl (Sub.cons rfl (Sub.cons rfl (Sub.cons rfl (Sub.cons rfl (Sub.nil _))))), (by first | omega | (dsimp only; omega))⟩)
  · have _kb_17 := _h13
    have _h13 := bf_d _h13
    refine W_exit (thn_exit (thn_exit (inB_hit ?_)))
    refine thn_nrm (_hK_9 _ _ ?_)
    clear _hK_9
    refine W_seq fun _K_89 _hK_89 => ?_
    refine W_region ?_
    refine WL_step rfl rfl (r_loadAtA0 _m0_3.at_ agg28 sz28 rfl) ?_
    refine WL_s rfl rfl ?_
    refine s_storeA (off := 0) 2 _F0_0 sz28 rfl (us := [(.int .i64 hF), (.slice Akv (vs).length Ckv)]) rfl rfl rfl rfl fun _w_90 _m_91 _cw_90 => ?_
    have _cw_90z := _cw_90.size
    have E := E.step _cw_90 (fun i hi => .inl (by have _h1 := List.mem_singleton.1 hi; omega))
    replace _m_91 : Blk _w_90 _b2 28 [(.int .i64 hF), (.slice Akv (vs).length Ckv)] := _m_91
    refine WL_nil ?_
    refine thn_nrm (_hK_89 _ _ ?_)
    clear _hK_89
    refine W_ret ?_
    clear _hK_16
    have _f_94 := (o0_3_1.ch _cw_90 (fun g hg hm => by have _h0 := List.mem_singleton.1 hm; have _h2 := lo0_3_1 _ hg; have _h3 := hikv _ hg; omega))
    have _f_95 := (od.ch _cw_90 (fun i hi => by have _h1 := List.mem_singleton.1 hi; omega))
    have _o_92 : Ol Gv.cs 57 2 _w_90 (.slice Akv (vs).length Ckv) vs := by
      have hx := _f_94
      exact hx
    have _o_93 : OdG 3 168 _w_90 w.heap.size _w_90.heap.size vs (hG) := by
      have hx := _f_95.up (lo' := w.heap.size) (hi' := _w_90.heap.size) (by omega) (by omega)
      rwa [List.take_of_length_le (by omega)] at hx
    exact ret_intro [_] (resOf_loadA _m_91 rfl agg28 sz28 trivial) ⟨(.slice Akv (vs).length Ckv), vs, (congrArg (fun zq => (Value.agg #[.int .i64 zq, (.slice Akv (vs).length Ckv)])) (by first | rfl | simp_all)), _o_92, (Lo.down lo0_3_1 (by omega)), _o_93, _spl0_3, E⟩

/-- impl.CompactHistory -/
theorem c_impl_CompactHistory {w : World} (hF : Int) {LL_shG _B_shG : Nat} {_v_shG : Value} {shG : List Gv} (_h_shG : Ls Gv.cs 2 w LL_shG _B_shG _v_shG shG) {LR_hG BB_hG : Nat} {hG : List GD} (_rd_hG : RdG w LR_hG BB_hG shG hG) (n : Int) (hb : hG.length + gsize hG ≤ 4194304) :
    Ctr Try.prog 12 #[(.agg #[(.int .i64 hF), _v_shG]), (.int .i64 n)] w (fun v w' => ∃ (u0x1 : Value) (vs0x1 : List Gv), v = .tuple #[.agg #[.int .i64 (chF hF hG n), u0x1], .bool (tt (gaP hF hG n))] ∧ Ol Gv.cs 57 2 w' u0x1 vs0x1 ∧ Lo w.heap.size u0x1 ∧ OdG 3 168 w' w.heap.size w'.heap.size vs0x1 (chG hF hG n) ∧ SepH u0x1 vs0x1 ∧ Ch [] w w') := by
  obtain ⟨_A_shG, _C_shG, _e1_shG⟩ := _h_shG.val
  subst _e1_shG
  have _l_shG := _h_shG.len
  have _h_shG := _h_shG.here (by decide)
  have _rd_hG := _rd_hG.here
  have _rl_hG := _rd_hG.1
  have E := Ch.refl [] w
  refine Ctr_of_W (N := 31) (vs0 := [(.agg #[(.int .i64 hF), (.slice _A_shG shG.length _C_shG)]), (.int .i64 n)]) Try.func12 rfl rfl rfl ?_
  refine W_seq fun _K_1 _hK_1 => ?_
  refine W_region ?_
  refine WL_s rfl rfl ?_
  refine s_box rfl fun _b2 _w_2 _m2 _cw_2 _e2 => ?_
  have _cw_2z := _cw_2.size
  have E := E.trans _cw_2
  have _z2 := _m2.lt
  replace _m2 : Blk _w_2 _b2 28 [(.int .i64 hF), (.slice _A_shG shG.length _C_shG)] := _m2
  refine WL_s rfl rfl ?_
  refine s_alloc zr28 fun _b4 _w_3 _m4 _cw_3 _e4 => ?_
  have _cw_3z := _cw_3.size
  have E := E.trans _cw_3
  have _z4 := _m4.lt
  replace _m4 : Blk _w_3 _b4 28 [(.int .i64 0), (.slice none 0 0)] := _m4
  refine WL_step rfl rfl (r_assign rfl) ?_
  refine WL_nil ?_
  refine thn_nrm (_hK_1 _ _ ?_)
  clear _hK_1
  refine W_seq fun _K_4 _hK_4 => ?_
  refine W_region ?_
  have _f_5 := (_m2.ch0 _cw_3)
  refine WL_step rfl rfl (r_loadAtA0 _f_5.at_ agg28 sz28 rfl) ?_
  refine WL_s rfl rfl ?_
  have _f_6 := ((_h_shG.ch0 _cw_2).ch0 _cw_3)
  have _f_7 := ((_rd_hG.ch0 _cw_2).ch0 _cw_3)
  refine Step.call (r_call (xs := [.tmp 9]) fk59 rfl) (c_impl_copyHistory _ _f_6 _f_7 (by omega)) fun _v10 _w_8 _q10 => ?_
  obtain ⟨u10_0x1, _vs10_0x1, rfl, _q_u10_0x1, _lo_u10_0x1, rg_vs10_0x1, _sep_vs10_0x1, _cw_8⟩ := _q10
  have _cw_8z := _cw_8.size
  have E := E.trans _cw_8
  obtain ⟨Au10_0x1, Cu10_0x1, eu10_0x1⟩ := _q_u10_0x1.val
  subst eu10_0x1
  have lu10_0x1 := _q_u10_0x1.len
  have _hiu10_0x1 := _q_u10_0x1.lt
  have vl10 := rg_vs10_0x1.1
  refine WL_s rfl rfl ?_
  refine s_alloc zr28 fun _b6 _w_9 _m6 _cw_9 _e6 => ?_
  have _cw_9z := _cw_9.size
  have E := E.trans _cw_9
  have _z6 := _m6.lt
  replace _m6 : Blk _w_9 _b6 28 [(.int .i64 0), (.slice none 0 0)] := _m6
  refine WL_s rfl rfl ?_
  refine s_storeA (off := 0) 2 _m6 sz28 rfl (us := [(.int .i64 hF), (.slice Au10_0x1 (_vs10_0x1).length Cu10_0x1)]) rfl rfl rfl rfl fun _w_10 _m_11 _cw_10 => ?_
  have _cw_10z := _cw_10.size
  have E := E.step _cw_10 (fun i hi => .inl (by have _h1 := List.mem_singleton.1 hi; omega))
  replace _m_11 : Blk _w_10 _b6 28 [(.int .i64 hF), (.slice Au10_0x1 (_vs10_0x1).length Cu10_0x1)] := _m_11
  refine WL_nil ?_
  refine thn_nrm (_hK_4 _ _ ?_)
  clear _hK_4
  refine W_seq fun _K_12 _hK_12 => ?_
  refine W_seq fun _K_13 _hK_13 => ?_
  refine W_region ?_
  have _f_14 := (((_f_5.ch0 _cw_8).ch0 _cw_9).ch _cw_10 (fun hm => by have _h1 := List.mem_singleton.1 hm; omega))
  refine WL_step rfl rfl (r_loadAtA0 _f_14.at_ agg28 sz28 rfl) ?_
  refine WL_step rfl rfl (r_move rfl) ?_
  refine WL_s rfl rfl ?_
  have _f_15 := (((_f_6.ch0 _cw_8).ch0 _cw_9).ch _cw_10 (fun i hi => by have _h1 := List.mem_singleton.1 hi; omega))
  have _f_16 := (((_f_7.ch0 _cw_8).ch0 _cw_9).ch _cw_10 (fun i hi => by have _h1 := List.mem_singleton.1 hi; omega))
  refine Step.call (r_call (xs := [.tmp 12, .tmp 13]) fk60 rfl) (c_impl_GraphAt _ _f_15 _f_16 _ ) fun _v14 _w_17 _q14 => ?_
  obtain ⟨u14_0x0, u14_0x1, rfl, _q_u14_0x0, _lo_u14_0x0, _q_u14_0x1, _lo_u14_0x1, _dj_u14_0x0_u14_0x1, _cw_17⟩ := _q14
  have _cw_17z := _cw_17.size
  have E := E.trans _cw_17
  obtain ⟨Au14_0x0, Cu14_0x0, eu14_0x0⟩ := _q_u14_0x0.val
  subst eu14_0x0
  have lu14_0x0 := _q_u14_0x0.len
  have _hiu14_0x0 := _q_u14_0x0.lt
  obtain ⟨Au14_0x1, Cu14_0x1, eu14_0x1⟩ := _q_u14_0x1.val
  subst eu14_0x1
  have lu14_0x1 := _q_u14_0x1.len
  have _hiu14_0x1 := _q_u14_0x1.lt
  refine WL_step rfl rfl (r_move rfl) ?_
  refine WL_step rfl rfl (r_extract rfl rfl) ?_
  refine WL_step rfl rfl (r_extract rfl rfl) ?_
  refine WL_s rfl rfl ?_
  refine s_alloc zr57 fun _b7 _w_18 _m7 _cw_18 _e7 => ?_
  have _cw_18z := _cw_18.size
  have E := E.trans _cw_18
  have _z7 := _m7.lt
  replace _m7 : Blk _w_18 _b7 57 [(.slice none 0 0), (.slice none 0 0)] := _m7
  refine WL_s rfl rfl ?_
  refine s_storeA (off := 0) 2 _m7 sz57 rfl (us := [(.slice Au14_0x0 ((gaR hF hG n).V).length Cu14_0x0), (.slice Au14_0x1 ((gaR hF hG n).E).length Cu14_0x1)]) rfl rfl rfl rfl fun _w_19 _m_20 _cw_19 => ?_
  have _cw_19z := _cw_19.size
  have E := E.step _cw_19 (fun i hi => .inl (by have _h1 := List.mem_singleton.1 hi; omega))
  replace _m_20 : Blk _w_19 _b7 57 [(.slice Au14_0x0 ((gaR hF hG n).V).length Cu14_0x0), (.slice Au14_0x1 ((gaR hF hG n).E).length Cu14_0x1)] := _m_20
  refine WL_step rfl rfl (r_assign rfl) ?_
  refine WL_nil ?_
  refine thn_nrm (_hK_13 _ _ ?_)
  clear _hK_13
  refine W_seq fun _K_21 _hK_21 => ?_
  refine W_region ?_
  refine WL_step rfl rfl (r_move rfl) ?_
  refine WL_step rfl rfl (r_not rfl) ?_
  refine WL_nil ?_
  refine thn_nrm (_hK_21 _ _ ?_)
  clear _hK_21
  refine W_cond rfl (fun _h18 => ?_) (fun _h18 => ?_)
  · have _kb_22 := _h18
    have _h18 := bf_t (bt_n _h18)
    first | (have _v9 := lv_val _h18.1; have _v8 := _h18.1.2; have _v7 := _h18.2) | skip
    refine W_seq fun _K_23 _hK_23 => ?_
    refine W_region ?_
    have _f_24 := (((_m_11.ch0 _cw_17).ch0 _cw_18).ch _cw_19 (fun hm => by have _h1 := List.mem_singleton.1 hm; omega))
    refine WL_step rfl rfl (r_loadAtA0 _f_24.at_ agg28 sz28 rfl) ?_
    refine WL_s rfl rfl ?_
    have _f_25 := ((((((_m4.ch0 _cw_8).ch0 _cw_9).ch _cw_10 (fun hm => by have _h1 := List.mem_singleton.1 hm; omega)).ch0 _cw_17).ch0 _cw_18).ch _cw_19 (fun hm => by have _h1 := List.mem_singleton.1 hm; omega))
    refine s_storeA (off := 0) 2 _f_25 sz28 rfl (us := [(.int .i64 hF), (.slice Au10_0x1 (_vs10_0x1).length Cu10_0x1)]) rfl rfl rfl rfl fun _w_26 _m_27 _cw_26 => ?_
    have _cw_26z := _cw_26.size
    have E := E.step _cw_26 (fun i hi => .inl (by have _h1 := List.mem_singleton.1 hi; omega))
    replace _m_27 : Blk _w_26 _b4 28 [(.int .i64 hF), (.slice Au10_0x1 (_vs10_0x1).length Cu10_0x1)] := _m_27
    refine WL_step rfl rfl (r_assign rfl) ?_
    refine WL_nil ?_
    refine thn_nrm (_hK_23 _ _ ?_)
    clear _hK_23
    refine W_ret (thn_ret ?_)
    clear _hK_12
    have _f_30 := ((((((_q_u10_0x1.ch0 _cw_9).ch _cw_10 (fun g hg hm => by have _h0 := List.mem_singleton.1 hm; have _h2 := _lo_u10_0x1 _ hg; have _h3 := _hiu10_0x1 _ hg; omega)).ch0 _cw_17).ch0 _cw_18).ch _cw_19 (fun g hg hm => by have _h0 := List.mem_singleton.1 hm; have _h2 := _lo_u10_0x1 _ hg; have _h3 := _hiu10_0x1 _ hg; omega)).ch _cw_26 (fun g hg hm => by have _h0 := List.mem_singleton.1 hm; have _h2 := _lo_u10_0x1 _ hg; have _h3 := _hiu10_0x1 _ hg; omega))
    have _f_31 := ((((((rg_vs10_0x1.ch0 _cw_9).ch _cw_10 (fun i hi => by have _h1 := List.mem_singleton.1 hi; omega)).ch0 _cw_17).ch0 _cw_18).ch _cw_19 (fun i hi => by have _h1 := List.mem_singleton.1 hi; omega)).ch _cw_26 (fun i hi => by have _h1 := List.mem_singleton.1 hi; omega))
    have _o_28 : Ol Gv.cs 57 2 _w_26 (.slice Au10_0x1 (_vs10_0x1).length Cu10_0x1) _vs10_0x1 := by
      have hx := _f_30
      exact hx
    have _o_29 : OdG 3 168 _w_26 w.heap.size _w_26.heap.size _vs10_0x1 (chG hF hG n) := by
      have hx := _f_31.up (lo' := w.heap.size) (hi' := _w_26.heap.size) (by omega) (by omega)
      first | (rw [← chG_n _h18]; exact hx) | (rw [← chG_y _h18]; exact hx)
    exact ret_intro [_, _] (resOf_loadA _m_27 rfl agg28 sz28 ⟨rfl, trivial⟩) ⟨(.slice Au10_0x1 (_vs10_0x1).length Cu10_0x1), _vs10_0x1, ((congrArg (fun zq => (Value.tuple #[.agg #[.int .i64 zq, (.slice Au10_0x1 (_vs10_0x1).length Cu10_0x1)], .bool false])) (by first | exact chF_n _h18 | exact chF_y _h18)).trans (congrArg (fun zq => (Value.tuple #[.agg #[.int .i64 (chF hF hG n), (.slice Au10_0x1 (_vs10_0x1).length Cu10_0x1)], .bool zq])) (by first | exact tt_false _h18 | exact tt_true _h18))), _o_28, (Lo.down _lo_u10_0x1 (by omega)), _o_29, _sep_vs10_0x1, E⟩
  · have _kb_22 := _h18
    have _h18 := bt_t (bf_n _h18)
    first | (have _v9 := lv_val _h18.1; have _v8 := _h18.1.2; have _v7 := _h18.2) | skip
    refine W_skip ?_
    refine thn_nrm (_hK_12 _ _ ?_)
    clear _hK_12
    refine W_seq fun _K_32 _hK_32 => ?_
    refine W_region ?_
    refine WL_step rfl rfl (r_fieldAddr fa28_1 rfl) ?_
    have _f_33 := (((_m_11.ch0 _cw_17).ch0 _cw_18).ch _cw_19 (fun hm => by have _h1 := List.mem_singleton.1 hm; omega))
    refine WL_step rfl rfl (r_loadAt _f_33.at_ agg26 rfl rfl) ?_
    refine WL_step rfl rfl (r_move rfl) ?_
    refine WL_step rfl rfl (r_fieldAddr fa28_0 rfl) ?_
    have _f_34 := (((_f_14.ch0 _cw_17).ch0 _cw_18).ch _cw_19 (fun hm => by have _h1 := List.mem_singleton.1 hm; omega))
    refine WL_step rfl rfl (r_loadAt _f_34.at_ agg3 rfl rfl) ?_
    refine WL_step rfl rfl (r_sub (by omega) rfl rfl) ?_
    refine WL_s rfl rfl ?_
    have _f_35 := (((((_q_u10_0x1.ch0 _cw_9).ch _cw_10 (fun g hg hm => by have _h0 := List.mem_singleton.1 hm; have _h2 := _lo_u10_0x1 _ hg; have _h3 := _hiu10_0x1 _ hg; omega)).ch0 _cw_17).ch0 _cw_18).ch _cw_19 (fun g hg hm => by have _h0 := List.mem_singleton.1 hm; have _h2 := _lo_u10_0x1 _ hg; have _h3 := _hiu10_0x1 _ hg; omega))
    have _f_36 := (((((rg_vs10_0x1.ch0 _cw_9).ch _cw_10 (fun i hi => by have _h1 := List.mem_singleton.1 hi; omega)).ch0 _cw_17).ch0 _cw_18).ch _cw_19 (fun i hi => by have _h1 := List.mem_singleton.1 hi; omega))
    refine (s_cutO (ys := (_vs10_0x1.drop ((n - hF).toNat))) ((n - hF).toNat) _vs10_0x1.length _f_35 Gv.len el26 sz57 rfl ⟨_, _, rfl, by omega⟩ rfl (by omega) (by omega) (cut_all _ _) fun _v26 _q26 _bb26 _ln26 => ?_)
    obtain ⟨_A26, _C26, _e26⟩ := _q26.val
    subst _e26
    have _l26 := _q26.len
    have hi26 := _q26.lt
    have og26 := (_f_36).dropN ((n - hF).toNat)
    have spc26 := (_sep_vs10_0x1.dropN ((n - hF).toNat)).of _bb26
    refine WL_step rfl rfl (r_fieldAddr fa28_1 rfl) ?_
    refine WL_s rfl rfl ?_
    refine s_store1 (off := 1) _f_33 sz26 rfl rfl rfl rfl fun _w_37 _m_38 _cw_37 => ?_
    have _cw_37z := _cw_37.size
    have E := E.step _cw_37 (fun i hi => .inl (by have _h1 := List.mem_singleton.1 hi; omega))
    replace _m_38 : Blk _w_37 _b6 28 [(.int .i64 hF), (.slice _A26 ((_vs10_0x1.drop ((n - hF).toNat))).length _C26)] := _m_38
    refine WL_nil ?_
    refine thn_nrm (_hK_32 _ _ ?_)
    clear _hK_32
    refine W_seq fun _K_39 _hK_39 => ?_
    refine W_region ?_
    refine WL_step rfl rfl (r_move rfl) ?_
    refine WL_step rfl rfl (r_fieldAddr fa28_0 rfl) ?_
    refine WL_s rfl rfl ?_
    refine s_store1 (off := 0) _m_38 sz3 rfl rfl rfl rfl fun _w_40 _m_41 _cw_40 => ?_
    have _cw_40z := _cw_40.size
    have E := E.step _cw_40 (fun i hi => .inl (by have _h1 := List.mem_singleton.1 hi; omega))
    replace _m_41 : Blk _w_40 _b6 28 [(.int .i64 n), (.slice _A26 ((_vs10_0x1.drop ((n - hF).toNat))).length _C26)] := _m_41
    refine WL_nil ?_
    refine thn_nrm (_hK_39 _ _ ?_)
    clear _hK_39
    refine W_seq fun _K_42 _hK_42 => ?_
    refine W_region ?_
    refine WL_step rfl rfl (r_loadAtA0 _m_41.at_ agg28 sz28 rfl) ?_
    refine WL_s rfl rfl ?_
    have _f_43 := ((((((((_m4.ch0 _cw_8).ch0 _cw_9).ch _cw_10 (fun hm => by have _h1 := List.mem_singleton.1 hm; omega)).ch0 _cw_17).ch0 _cw_18).ch _cw_19 (fun hm => by have _h1 := List.mem_singleton.1 hm; omega)).ch _cw_37 (fun hm => by have _h1 := List.mem_singleton.1 hm; omega)).ch _cw_40 (fun hm => by have _h1 := List.mem_singleton.1 hm; omega))
    refine s_storeA (off := 0) 2 _f_43 sz28 rfl (us := [(.int .i64 n), (.slice _A26 ((_vs10_0x1.drop ((n - hF).toNat))).length _C26)]) rfl rfl rfl rfl fun _w_44 _m_45 _cw_44 => ?_
    have _cw_44z := _cw_44.size
    have E := E.step _cw_44 (fun i hi => .inl (by have _h1 := List.mem_singleton.1 hi; omega))
    replace _m_45 : Blk _w_44 _b4 28 [(.int .i64 n), (.slice _A26 ((_vs10_0x1.drop ((n - hF).toNat))).length _C26)] := _m_45
    refine WL_step rfl rfl (r_assign rfl) ?_
    refine WL_nil ?_
    refine thn_nrm (_hK_42 _ _ ?_)
    clear _hK_42
    refine W_ret ?_
    have _f_48 := (((_q26.ch _cw_37 (fun g hg hm => by have _h0 := List.mem_singleton.1 hm; rw [_bb26] at hg; have _h2 := _lo_u10_0x1 _ hg; have _h3 := _hiu10_0x1 _ hg; omega)).ch _cw_40 (fun g hg hm => by have _h0 := List.mem_singleton.1 hm; rw [_bb26] at hg; have _h2 := _lo_u10_0x1 _ hg; have _h3 := _hiu10_0x1 _ hg; omega)).ch _cw_44 (fun g hg hm => by have _h0 := List.mem_singleton.1 hm; rw [_bb26] at hg; have _h2 := _lo_u10_0x1 _ hg; have _h3 := _hiu10_0x1 _ hg; omega))
    have _f_49 := (((og26.ch _cw_37 (fun i hi => by have _h1 := List.mem_singleton.1 hi; omega)).ch _cw_40 (fun i hi => by have _h1 := List.mem_singleton.1 hi; omega)).ch _cw_44 (fun i hi => by have _h1 := List.mem_singleton.1 hi; omega))
    have _o_46 : Ol Gv.cs 57 2 _w_44 (.slice _A26 ((_vs10_0x1.drop ((n - hF).toNat))).length _C26) (_vs10_0x1.drop ((n - hF).toNat)) := by
      have hx := _f_48
      exact hx
    have _o_47 : OdG 3 168 _w_44 w.heap.size _w_44.heap.size (_vs10_0x1.drop ((n - hF).toNat)) (chG hF hG n) := by
      have hx := _f_49.up (lo' := w.heap.size) (hi' := _w_44.heap.size) (by omega) (by omega)
      first | (rw [← chG_n _h18]; exact hx) | (rw [← chG_y _h18]; exact hx)
    exact ret_intro [_, _] (resOf_loadA _m_45 rfl agg28 sz28 ⟨rfl, trivial⟩) ⟨(.slice _A26 ((_vs10_0x1.drop ((n - hF).toNat))).length _C26), (_vs10_0x1.drop ((n - hF).toNat)), ((congrArg (fun zq => (Value.tuple #[.agg #[.int .i64 zq, (.slice _A26 ((_vs10_0x1.drop ((n - hF).toNat))).length _C26)], .bool true])) (by first | exact chF_n _h18 | exact chF_y _h18)).trans (congrArg (fun zq => (Value.tuple #[.agg #[.int .i64 (chF hF hG n), (.slice _A26 ((_vs10_0x1.drop ((n - hF).toNat))).length _C26)], .bool zq])) (by first | exact tt_false _h18 | exact tt_true _h18))), _o_46, (Lo.down (fun g hg => _lo_u10_0x1 g (_bb26 ▸ hg)) (by omega)), _o_47, spc26, E⟩

/-- laws.eqEdge -/
theorem c_laws_eqEdge {w : World} (a : GEdge) (b : GEdge) :
    Ctr Try.prog 139 #[(.agg #[(.int .i64 a.id), (.int .i64 a.f), (.int .i64 a.t), (.int .i64 a.label)]), (.agg #[(.int .i64 b.id), (.int .i64 b.f), (.int .i64 b.t), (.int .i64 b.label)])] w (fun v w' => v = .bool (decide (a = b)) ∧ Ch [] w w') := by
  have E := Ch.refl [] w
  refine Ctr_of_W (N := 25) (vs0 := [(.agg #[(.int .i64 a.id), (.int .i64 a.f), (.int .i64 a.t), (.int .i64 a.label)]), (.agg #[(.int .i64 b.id), (.int .i64 b.f), (.int .i64 b.t), (.int .i64 b.label)])]) Try.func139 rfl rfl rfl ?_
  refine W_seq fun _K_1 _hK_1 => ?_
  refine W_region ?_
  refine WL_s rfl rfl ?_
  refine s_box rfl fun _b2 _w_2 _m2 _cw_2 _e2 => ?_
  have _cw_2z := _cw_2.size
  have E := E.trans _cw_2
  have _z2 := _m2.lt
  replace _m2 : Blk _w_2 _b2 168 [(.int .i64 a.id), (.int .i64 a.f), (.int .i64 a.t), (.int .i64 a.label)] := _m2
  refine WL_s rfl rfl ?_
  refine s_box rfl fun _b3 _w_3 _m3 _cw_3 _e3 => ?_
  have _cw_3z := _cw_3.size
  have E := E.trans _cw_3
  have _z3 := _m3.lt
  replace _m3 : Blk _w_3 _b3 168 [(.int .i64 b.id), (.int .i64 b.f), (.int .i64 b.t), (.int .i64 b.label)] := _m3
  refine WL_step rfl rfl (r_assign rfl) ?_
  refine WL_nil ?_
  refine thn_nrm (_hK_1 _ _ ?_)
  clear _hK_1
  refine W_seq fun _K_4 _hK_4 => ?_
  refine W_seq fun _K_5 _hK_5 => ?_
  refine W_region ?_
  refine WL_step rfl rfl (r_fieldAddr fa168_0 rfl) ?_
  have _f_6 := (_m2.ch0 _cw_3)
  refine WL_step rfl rfl (r_loadAt _f_6.at_ agg3 rfl rfl) ?_
  refine WL_step rfl rfl (r_fieldAddr fa168_0 rfl) ?_
  refine WL_step rfl rfl (r_loadAt _m3.at_ agg3 rfl rfl) ?_
  refine WL_step rfl rfl (r_neq rfl rfl) ?_
  refine WL_nil ?_
  refine thn_nrm (_hK_5 _ _ ?_)
  clear _hK_5
  refine W_cond rfl (fun _h9 => ?_) (fun _h9 => ?_)
  · have _kb_7 := _h9
    have _h9 := bf_d (bt_n _h9)
    refine W_seq fun _K_8 _hK_8 => ?_
    refine W_region ?_
    refine WL_step rfl rfl (r_assign rfl) ?_
    refine WL_nil ?_
    refine thn_nrm (_hK_8 _ _ ?_)
    clear _hK_8
    refine W_ret (thn_ret ?_)
    clear _hK_4
    exact ret_intro [_] ⟨rfl, trivial⟩ ⟨congrArg Value.bool (decide_eq_false (fun e => _h9 (by rw [e]))).symm, E⟩
  · have _kb_7 := _h9
    have _h9 := bt_d (bf_n _h9)
    refine W_skip ?_
    refine thn_nrm (_hK_4 _ _ ?_)
    clear _hK_4
    refine W_seq fun _K_9 _hK_9 => ?_
    refine W_seq fun _K_10 _hK_10 => ?_
    refine W_region ?_
    refine WL_step rfl rfl (r_fieldAddr fa168_1 rfl) ?_
    refine WL_step rfl rfl (r_loadAt _f_6.at_ agg3 rfl rfl) ?_
    refine WL_step rfl rfl (r_fieldAddr fa168_1 rfl) ?_
    refine WL_step rfl rfl (r_loadAt _m3.at_ agg3 rfl rfl) ?_
    refine WL_step rfl rfl (r_neq rfl rfl) ?_
    refine WL_nil ?_
    refine thn_nrm (_hK_10 _ _ ?_)
    clear _hK_10
    refine W_cond rfl (fun _h14 => ?_) (fun _h14 => ?_)
    · have _kb_11 := _h14
      have _h14 := bf_d (bt_n _h14)
      refine W_seq fun _K_12 _hK_12 => ?_
      refine W_region ?_
      refine WL_step rfl rfl (r_assign rfl) ?_
      refine WL_nil ?_
      refine thn_nrm (_hK_12 _ _ ?_)
      clear _hK_12
      refine W_ret (thn_ret ?_)
      clear _hK_9
      exact ret_intro [_] ⟨rfl, trivial⟩ ⟨congrArg Value.bool (decide_eq_false (fun e => _h14 (by rw [e]))).symm, E⟩
    · have _kb_11 := _h14
      have _h14 := bt_d (bf_n _h14)
      refine W_skip ?_
      refine thn_nrm (_hK_9 _ _ ?_)
      clear _hK_9
      refine W_seq fun _K_13 _hK_13 => ?_
      refine W_seq fun _K_14 _hK_14 => ?_
      refine W_region ?_
      refine WL_step rfl rfl (r_fieldAddr fa168_2 rfl) ?_
      refine WL_step rfl rfl (r_loadAt _f_6.at_ agg3 rfl rfl) ?_
      refine WL_step rfl rfl (r_fieldAddr fa168_2 rfl) ?_
      refine WL_step rfl rfl (r_loadAt _m3.at_ agg3 rfl rfl) ?_
      refine WL_step rfl rfl (r_neq rfl rfl) ?_
      refine WL_nil ?_
      refine thn_nrm (_hK_14 _ _ ?_)
      clear _hK_14
      refine W_cond rfl (fun _h19 => ?_) (fun _h19 => ?_)
      · have _kb_15 := _h19
        have _h19 := bf_d (bt_n _h19)
        refine W_seq fun _K_16 _hK_16 => ?_
        refine W_region ?_
        refine WL_step rfl rfl (r_assign rfl) ?_
        refine WL_nil ?_
        refine thn_nrm (_hK_16 _ _ ?_)
        clear _hK_16
        refine W_ret (thn_ret ?_)
        clear _hK_13
        exact ret_intro [_] ⟨rfl, trivial⟩ ⟨congrArg Value.bool (decide_eq_false (fun e => _h19 (by rw [e]))).symm, E⟩
      · have _kb_15 := _h19
        have _h19 := bt_d (bf_n _h19)
        refine W_skip ?_
        refine thn_nrm (_hK_13 _ _ ?_)
        clear _hK_13
        refine W_seq fun _K_17 _hK_17 => ?_
        refine W_seq fun _K_18 _hK_18 => ?_
        refine W_region ?_
        refine WL_step rfl rfl (r_fieldAddr fa168_3 rfl) ?_
        refine WL_step rfl rfl (r_loadAt _f_6.at_ agg3 rfl rfl) ?_
        refine WL_step rfl rfl (r_fieldAddr fa168_3 rfl) ?_
        refine WL_step rfl rfl (r_loadAt _m3.at_ agg3 rfl rfl) ?_
        refine WL_step rfl rfl (r_neq rfl rfl) ?_
        refine WL_nil ?_
        refine thn_nrm (_hK_18 _ _ ?_)
        clear _hK_18
        refine W_cond rfl (fun _h24 => ?_) (fun _h24 => ?_)
        · have _kb_19 := _h24
          have _h24 := bf_d (bt_n _h24)
          refine W_seq fun _K_20 _hK_20 => ?_
          refine W_region ?_
          refine WL_step rfl rfl (r_assign rfl) ?_
          refine WL_nil ?_
          refine thn_nrm (_hK_20 _ _ ?_)
          clear _hK_20
          refine W_ret (thn_ret ?_)
          clear _hK_17
          exact ret_intro [_] ⟨rfl, trivial⟩ ⟨congrArg Value.bool (decide_eq_false (fun e => _h24 (by rw [e]))).symm, E⟩
        · have _kb_19 := _h24
          have _h24 := bt_d (bf_n _h24)
          refine W_skip ?_
          refine thn_nrm (_hK_17 _ _ ?_)
          clear _hK_17
          refine W_seq fun _K_21 _hK_21 => ?_
          refine W_region ?_
          refine WL_step rfl rfl (r_assign rfl) ?_
          refine WL_nil ?_
          refine thn_nrm (_hK_21 _ _ ?_)
          clear _hK_21
          refine W_ret ?_
          exact ret_intro [_] ⟨rfl, trivial⟩ ⟨congrArg Value.bool (decide_eq_true (GEdge.inj (by rw [_h9, _h14, _h19, _h24]))).symm, E⟩

/-- laws.eqEdgeS -/
theorem c_laws_eqEdgeS {w : World} {LL_a _B_a : Nat} {_v_a : Value} {a : List GEdge} (_h_a : Ls GEdge.cs 4 w LL_a _B_a _v_a a) {LL_b _B_b : Nat} {_v_b : Value} {b : List GEdge} (_h_b : Ls GEdge.cs 4 w LL_b _B_b _v_b b) :
    Ctr Try.prog 89 #[_v_a, _v_b] w (fun v w' => v = .bool (decide (a = b)) ∧ Ch [] w w') := by
  obtain ⟨_A_a, _C_a, _e1_a⟩ := _h_a.val
  subst _e1_a
  have _l_a := _h_a.len
  have _h_a := _h_a.here (by decide)
  obtain ⟨_A_b, _C_b, _e1_b⟩ := _h_b.val
  subst _e1_b
  have _l_b := _h_b.len
  have _h_b := _h_b.here (by decide)
  have E := Ch.refl [] w
  refine Ctr_of_W (N := 27) (vs0 := [(.slice _A_a a.length _C_a), (.slice _A_b b.length _C_b)]) Try.func89 rfl rfl rfl ?_
  refine W_seq fun _K_1 _hK_1 => ?_
  refine W_region ?_
  refine WL_step rfl rfl (r_assign rfl) ?_
  refine WL_nil ?_
  refine thn_nrm (_hK_1 _ _ ?_)
  clear _hK_1
  refine W_seq fun _K_2 _hK_2 => ?_
  refine W_seq fun _K_3 _hK_3 => ?_
  refine W_region ?_
  refine WL_step rfl rfl (r_move rfl) ?_
  refine WL_step rfl rfl (r_len (by rw [el55]; rfl) rfl) ?_
  refine WL_step rfl rfl (r_move rfl) ?_
  refine WL_step rfl rfl (r_len (by rw [el55]; rfl) rfl) ?_
  refine WL_step rfl rfl (r_neq rfl rfl) ?_
  refine WL_nil ?_
  refine thn_nrm (_hK_3 _ _ ?_)
  clear _hK_3
  refine W_cond rfl (fun _h10 => ?_) (fun _h10 => ?_)
  · have _kb_4 := _h10
    have _h10 := bf_d (bt_n _h10)
    refine W_seq fun _K_5 _hK_5 => ?_
    refine W_region ?_
    refine WL_step rfl rfl (r_assign rfl) ?_
    refine WL_nil ?_
    refine thn_nrm (_hK_5 _ _ ?_)
    clear _hK_5
    refine W_ret (thn_ret ?_)
    clear _hK_2
    exact ret_intro [_] ⟨rfl, trivial⟩ ⟨congrArg Value.bool (decide_eq_false (fun e => _h10 (by rw [e]))).symm, E⟩
  · have _kb_4 := _h10
    have _h10 := bt_d (bf_n _h10)
    refine W_skip ?_
    refine thn_nrm (_hK_2 _ _ ?_)
    clear _hK_2
    refine W_seq fun _K_6 _hK_6 => ?_
    refine W_seq fun _K_7 _hK_7 => ?_
    refine W_region ?_
    refine WL_step rfl rfl (r_assign rfl) ?_
    refine WL_nil ?_
    refine thn_nrm (_hK_7 _ _ ?_)
    clear _hK_7
    refine W_block ?_
    refine W_loop (σ := Nat) (fun (k : Nat) => [(0, (.slice _A_a a.length _C_a)), (1, (.slice _A_b b.length _C_b)), (5, (.int .i64 ((k : Nat) : Int)))]) (fun (k : Nat) wx => Ch [] w wx ∧ w.heap.size ≤ wx.heap.size ∧ (k ≤ a.length) ∧ (a.take k = b.take k)) (fun (k : Nat) => a.length - k) 0 (Sub.cons rfl (Sub.cons rfl (Sub.cons rfl (Sub.nil _)))) ⟨E, (Nat.le_refl _), (by omega), rfl⟩ ?_
    rintro k _wr_8 ⟨E, _zz0, _hk, _ht⟩
    have _E0h := E
    have _E0hz := _E0h.size
    refine W_seq fun _K_9 _hK_9 => ?_
    refine W_seq fun _K_10 _hK_10 => ?_
    refine W_region ?_
    refine WL_step rfl rfl (r_move rfl) ?_
    refine WL_step rfl rfl (r_move rfl) ?_
    refine WL_step rfl rfl (r_len (by rw [el55]; rfl) rfl) ?_
    refine WL_step rfl rfl (r_lss rfl rfl) ?_
    refine WL_nil ?_
    refine thn_nrm (_hK_10 _ _ ?_)
    clear _hK_10
    refine W_cond rfl (fun _h14 => ?_) (fun _h14 => ?_)
    · have _kb_11 := _h14
      have _h14 := bt_d _h14
      refine W_skip ?_
      refine thn_nrm (_hK_9 _ _ ?_)
      clear _hK_9
      refine W_seq fun _K_12 _hK_12 => ?_
      refine W_block ?_
      refine W_seq fun _K_13 _hK_13 => ?_
      refine W_drawC [] 10 mixed rfl fun _w_14 _cw_14 => ?_
      have _cw_14z := _cw_14.size
      have E := E.trans _cw_14
      refine DR_s 0 rfl (by kernel_rfl) rfl rfl (t_v (fun _ => (r_move rfl)) ?_)
      refine DR_s 1 rfl (by kernel_rfl) rfl rfl (t_v (fun _ => (r_move rfl)) ?_)
      have _f_15 := ((_h_a.ch0 _E0h).ch0 _cw_14)
      refine DR_s 2 rfl (by kernel_rfl) rfl rfl (t_index _f_15 GEdge.len el55 sz168 rfl rfl rfl (by omega) fun _p19 _y19 _hy19 _a19 => ?_)
      refine DR_s 3 rfl (by kernel_rfl) rfl rfl (t_loadAtA0 _a19 (fun i hi => absurd hi List.not_mem_nil) agg168 sz168 rfl ?_)
      refine DR_s 4 rfl (by kernel_rfl) rfl rfl (t_v (fun _ => (r_move rfl)) ?_)
      refine DR_s 5 rfl (by kernel_rfl) rfl rfl (t_v (fun _ => (r_move rfl)) ?_)
      have _f_16 := ((_h_b.ch0 _E0h).ch0 _cw_14)
      refine DR_s 6 rfl (by kernel_rfl) rfl rfl (t_index _f_16 GEdge.len el55 sz168 rfl rfl rfl (by omega) fun _p23 _y23 _hy23 _a23 => ?_)
      refine DR_s 7 rfl (by kernel_rfl) rfl rfl (t_loadAtA0 _a23 (fun i hi => absurd hi List.not_mem_nil) agg168 sz168 rfl ?_)
      refine DR_one 8 (by kernel_rfl) ?_
      refine DO_s rfl rfl rfl ?_
      refine Step.call (r_call (xs := [.tmp 20, .tmp 24]) fk139 rfl) (c_laws_eqEdge _y19 _y23 ) fun _v25 _w_17 _q25 => ?_
      obtain ⟨rfl, _cw_17⟩ := _q25
      have _cw_17z := _cw_17.size
      have E := E.trans _cw_17
      have _S_18 : Ch [] _w_14 _w_17 := ((Ch.refl _ _).trans _cw_17)
      refine ⟨_S_18, ?_⟩
      refine DR_s 9 rfl (by kernel_rfl) rfl rfl (t_v (fun _ => (r_not rfl)) ?_)
      refine DR_done (by kernel_rfl) ?_
      refine thn_nrm (_hK_13 _ _ ?_)
      clear _hK_13
      refine W_cond rfl (fun _h26 => ?_) (fun _h26 => ?_)
      · have _kb_19 := _h26
        have _h26 := bf_d (bt_n _h26)
        refine W_seq fun _K_20 _hK_20 => ?_
        refine W_region ?_
        refine WL_step rfl rfl (r_assign rfl) ?_
        refine WL_nil ?_
        refine thn_nrm (_hK_20 _ _ ?_)
        clear _hK_20
        refine W_ret (inB_ret (thn_ret (thn_ret (inB_ret (thn_ret ?_)))))
        clear _hK_6 _hK_12
        exact ret_intro [_] ⟨rfl, trivial⟩ ⟨congrArg Value.bool (decide_eq_false (ne_of_get _hy19 _hy23 _h26)).symm, E⟩
      · have _kb_19 := _h26
        have _h26 := bt_d (bf_n _h26)
        refine W_skip ?_
        refine inB_nrm ?_
        refine thn_nrm (_hK_12 _ _ ?_)
        clear _hK_12
        refine W_region ?_
        refine WL_step rfl rfl (r_move rfl) ?_
        refine WL_step rfl rfl (r_add (by omega) rfl rfl) ?_
        refine WL_step rfl rfl (r_assign rfl) ?_
        refine WL_nil ?_
        exact thn_nrm (Exists.intro (k + 1) ⟨⟨E, (by omega), (by omega), (take_eq_succ _ht _hy19 _hy23 _h26)⟩, Sub.cons rfl (Sub.cons rfl (Sub.cons rfl (Sub.nil _))), (by first | omega | (dsimp only; omega))⟩)
    · have _kb_11 := _h14
      have _h14 := bf_d _h14
      refine W_exit (thn_exit (thn_exit (inB_hit ?_)))
      refine thn_nrm (_hK_6 _ _ ?_)
      clear _hK_6
      refine W_seq fun _K_21 _hK_21 => ?_
      refine W_region ?_
      refine WL_step rfl rfl (r_assign rfl) ?_
      refine WL_nil ?_
      refine thn_nrm (_hK_21 _ _ ?_)
      clear _hK_21
      refine W_ret ?_
      clear _hK_9
      exact ret_intro [_] ⟨rfl, trivial⟩ ⟨congrArg Value.bool (decide_eq_true (eq_of_take _ht (by omega) (by omega))).symm, E⟩

/-- laws.eqIntS -/
theorem c_laws_eqIntS {w : World} {LL_a _B_a : Nat} {_v_a : Value} {a : List Int} (_h_a : Ls ics 1 w LL_a _B_a _v_a a) {LL_b _B_b : Nat} {_v_b : Value} {b : List Int} (_h_b : Ls ics 1 w LL_b _B_b _v_b b) :
    Ctr Try.prog 88 #[_v_a, _v_b] w (fun v w' => v = .bool (decide (a = b)) ∧ Ch [] w w') := by
  obtain ⟨_A_a, _C_a, _e1_a⟩ := _h_a.val
  subst _e1_a
  have _l_a := _h_a.len
  have _h_a := _h_a.here (by decide)
  obtain ⟨_A_b, _C_b, _e1_b⟩ := _h_b.val
  subst _e1_b
  have _l_b := _h_b.len
  have _h_b := _h_b.here (by decide)
  have E := Ch.refl [] w
  refine Ctr_of_W (N := 26) (vs0 := [(.slice _A_a a.length _C_a), (.slice _A_b b.length _C_b)]) Try.func88 rfl rfl rfl ?_
  refine W_seq fun _K_1 _hK_1 => ?_
  refine W_region ?_
  refine WL_step rfl rfl (r_assign rfl) ?_
  refine WL_nil ?_
  refine thn_nrm (_hK_1 _ _ ?_)
  clear _hK_1
  refine W_seq fun _K_2 _hK_2 => ?_
  refine W_seq fun _K_3 _hK_3 => ?_
  refine W_region ?_
  refine WL_step rfl rfl (r_move rfl) ?_
  refine WL_step rfl rfl (r_len (by rw [el43]; rfl) rfl) ?_
  refine WL_step rfl rfl (r_move rfl) ?_
  refine WL_step rfl rfl (r_len (by rw [el43]; rfl) rfl) ?_
  refine WL_step rfl rfl (r_neq rfl rfl) ?_
  refine WL_nil ?_
  refine thn_nrm (_hK_3 _ _ ?_)
  clear _hK_3
  refine W_cond rfl (fun _h10 => ?_) (fun _h10 => ?_)
  · have _kb_4 := _h10
    have _h10 := bf_d (bt_n _h10)
    refine W_seq fun _K_5 _hK_5 => ?_
    refine W_region ?_
    refine WL_step rfl rfl (r_assign rfl) ?_
    refine WL_nil ?_
    refine thn_nrm (_hK_5 _ _ ?_)
    clear _hK_5
    refine W_ret (thn_ret ?_)
    clear _hK_2
    exact ret_intro [_] ⟨rfl, trivial⟩ ⟨congrArg Value.bool (decide_eq_false (fun e => _h10 (by rw [e]))).symm, E⟩
  · have _kb_4 := _h10
    have _h10 := bt_d (bf_n _h10)
    refine W_skip ?_
    refine thn_nrm (_hK_2 _ _ ?_)
    clear _hK_2
    refine W_seq fun _K_6 _hK_6 => ?_
    refine W_seq fun _K_7 _hK_7 => ?_
    refine W_region ?_
    refine WL_step rfl rfl (r_assign rfl) ?_
    refine WL_nil ?_
    refine thn_nrm (_hK_7 _ _ ?_)
    clear _hK_7
    refine W_block ?_
    refine W_loop (σ := Nat) (fun (k : Nat) => [(0, (.slice _A_a a.length _C_a)), (1, (.slice _A_b b.length _C_b)), (5, (.int .i64 ((k : Nat) : Int)))]) (fun (k : Nat) wx => Ch [] w wx ∧ w.heap.size ≤ wx.heap.size ∧ (k ≤ a.length) ∧ (a.take k = b.take k)) (fun (k : Nat) => a.length - k) 0 (Sub.cons rfl (Sub.cons rfl (Sub.cons rfl (Sub.nil _)))) ⟨E, (Nat.le_refl _), (by omega), rfl⟩ ?_
    rintro k _wr_8 ⟨E, _zz0, _hk, _ht⟩
    have _E0h := E
    have _E0hz := _E0h.size
    refine W_seq fun _K_9 _hK_9 => ?_
    refine W_seq fun _K_10 _hK_10 => ?_
    refine W_region ?_
    refine WL_step rfl rfl (r_move rfl) ?_
    refine WL_step rfl rfl (r_move rfl) ?_
    refine WL_step rfl rfl (r_len (by rw [el43]; rfl) rfl) ?_
    refine WL_step rfl rfl (r_lss rfl rfl) ?_
    refine WL_nil ?_
    refine thn_nrm (_hK_10 _ _ ?_)
    clear _hK_10
    refine W_cond rfl (fun _h14 => ?_) (fun _h14 => ?_)
    · have _kb_11 := _h14
      have _h14 := bt_d _h14
      refine W_skip ?_
      refine thn_nrm (_hK_9 _ _ ?_)
      clear _hK_9
      refine W_seq fun _K_12 _hK_12 => ?_
      refine W_block ?_
      refine W_seq fun _K_13 _hK_13 => ?_
      refine W_drawC [] 9 mixed rfl fun _w_14 _cw_14 => ?_
      have _cw_14z := _cw_14.size
      have E := E.trans _cw_14
      refine DR_s 0 rfl (by kernel_rfl) rfl rfl (t_v (fun _ => (r_move rfl)) ?_)
      refine DR_s 1 rfl (by kernel_rfl) rfl rfl (t_v (fun _ => (r_move rfl)) ?_)
      have _f_15 := ((_h_a.ch0 _E0h).ch0 _cw_14)
      refine DR_s 2 rfl (by kernel_rfl) rfl rfl (t_index _f_15 ics_len el43 sz3 rfl rfl rfl (by omega) fun _p19 _y19 _hy19 _a19 => ?_)
      refine DR_s 3 rfl (by kernel_rfl) rfl rfl (t_loadAt0 _a19 (fun i hi => absurd hi List.not_mem_nil) agg3 rfl rfl ?_)
      refine DR_s 4 rfl (by kernel_rfl) rfl rfl (t_v (fun _ => (r_move rfl)) ?_)
      refine DR_s 5 rfl (by kernel_rfl) rfl rfl (t_v (fun _ => (r_move rfl)) ?_)
      have _f_16 := ((_h_b.ch0 _E0h).ch0 _cw_14)
      refine DR_s 6 rfl (by kernel_rfl) rfl rfl (t_index _f_16 ics_len el43 sz3 rfl rfl rfl (by omega) fun _p23 _y23 _hy23 _a23 => ?_)
      refine DR_s 7 rfl (by kernel_rfl) rfl rfl (t_loadAt0 _a23 (fun i hi => absurd hi List.not_mem_nil) agg3 rfl rfl ?_)
      refine DR_s 8 rfl (by kernel_rfl) rfl rfl (t_v (fun _ => (r_neq rfl rfl)) ?_)
      refine DR_done (by kernel_rfl) ?_
      refine thn_nrm (_hK_13 _ _ ?_)
      clear _hK_13
      refine W_cond rfl (fun _h25 => ?_) (fun _h25 => ?_)
      · have _kb_17 := _h25
        have _h25 := bf_d (bt_n _h25)
        refine W_seq fun _K_18 _hK_18 => ?_
        refine W_region ?_
        refine WL_step rfl rfl (r_assign rfl) ?_
        refine WL_nil ?_
        refine thn_nrm (_hK_18 _ _ ?_)
        clear _hK_18
        refine W_ret (inB_ret (thn_ret (thn_ret (inB_ret (thn_ret ?_)))))
        clear _hK_6 _hK_12
        exact ret_intro [_] ⟨rfl, trivial⟩ ⟨congrArg Value.bool (decide_eq_false (ne_of_get _hy19 _hy23 _h25)).symm, E⟩
      · have _kb_17 := _h25
        have _h25 := bt_d (bf_n _h25)
        refine W_skip ?_
        refine inB_nrm ?_
        refine thn_nrm (_hK_12 _ _ ?_)
        clear _hK_12
        refine W_region ?_
        refine WL_step rfl rfl (r_move rfl) ?_
        refine WL_step rfl rfl (r_add (by omega) rfl rfl) ?_
        refine WL_step rfl rfl (r_assign rfl) ?_
        refine WL_nil ?_
        exact thn_nrm (Exists.intro (k + 1) ⟨⟨E, (by omega), (by omega), (take_eq_succ _ht _hy19 _hy23 _h25)⟩, Sub.cons rfl (Sub.cons rfl (Sub.cons rfl (Sub.nil _))), (by first | omega | (dsimp only; omega))⟩)
    · have _kb_11 := _h14
      have _h14 := bf_d _h14
      refine W_exit (thn_exit (thn_exit (inB_hit ?_)))
      refine thn_nrm (_hK_6 _ _ ?_)
      clear _hK_6
      refine W_seq fun _K_19 _hK_19 => ?_
      refine W_region ?_
      refine WL_step rfl rfl (r_assign rfl) ?_
      refine WL_nil ?_
      refine thn_nrm (_hK_19 _ _ ?_)
      clear _hK_19
      refine W_ret ?_
      clear _hK_9
      exact ret_intro [_] ⟨rfl, trivial⟩ ⟨congrArg Value.bool (decide_eq_true (eq_of_take _ht (by omega) (by omega))).symm, E⟩

/-- laws.eqGraph -/
theorem c_laws_eqGraph {w : World} {LL_aV _B_aV : Nat} {_v_aV : Value} {aV : List Int} (_h_aV : Ls ics 1 w LL_aV _B_aV _v_aV aV) {LL_aE _B_aE : Nat} {_v_aE : Value} {aE : List GEdge} (_h_aE : Ls GEdge.cs 4 w LL_aE _B_aE _v_aE aE) {LL_bV _B_bV : Nat} {_v_bV : Value} {bV : List Int} (_h_bV : Ls ics 1 w LL_bV _B_bV _v_bV bV) {LL_bE _B_bE : Nat} {_v_bE : Value} {bE : List GEdge} (_h_bE : Ls GEdge.cs 4 w LL_bE _B_bE _v_bE bE) :
    Ctr Try.prog 32 #[(.agg #[_v_aV, _v_aE]), (.agg #[_v_bV, _v_bE])] w (fun v w' => v = .bool (decide (aV = bV ∧ aE = bE)) ∧ Ch [] w w') := by
  obtain ⟨_A_aV, _C_aV, _e1_aV⟩ := _h_aV.val
  subst _e1_aV
  have _l_aV := _h_aV.len
  have _h_aV := _h_aV.here (by decide)
  obtain ⟨_A_aE, _C_aE, _e1_aE⟩ := _h_aE.val
  subst _e1_aE
  have _l_aE := _h_aE.len
  have _h_aE := _h_aE.here (by decide)
  obtain ⟨_A_bV, _C_bV, _e1_bV⟩ := _h_bV.val
  subst _e1_bV
  have _l_bV := _h_bV.len
  have _h_bV := _h_bV.here (by decide)
  obtain ⟨_A_bE, _C_bE, _e1_bE⟩ := _h_bE.val
  subst _e1_bE
  have _l_bE := _h_bE.len
  have _h_bE := _h_bE.here (by decide)
  have E := Ch.refl [] w
  refine Ctr_of_W (N := 17) (vs0 := [(.agg #[(.slice _A_aV aV.length _C_aV), (.slice _A_aE aE.length _C_aE)]), (.agg #[(.slice _A_bV bV.length _C_bV), (.slice _A_bE bE.length _C_bE)])]) Try.func32 rfl rfl rfl ?_
  refine W_seq fun _K_1 _hK_1 => ?_
  refine W_region ?_
  refine WL_s rfl rfl ?_
  refine s_box rfl fun _b2 _w_2 _m2 _cw_2 _e2 => ?_
  have _cw_2z := _cw_2.size
  have E := E.trans _cw_2
  have _z2 := _m2.lt
  replace _m2 : Blk _w_2 _b2 57 [(.slice _A_aV aV.length _C_aV), (.slice _A_aE aE.length _C_aE)] := _m2
  refine WL_s rfl rfl ?_
  refine s_box rfl fun _b3 _w_3 _m3 _cw_3 _e3 => ?_
  have _cw_3z := _cw_3.size
  have E := E.trans _cw_3
  have _z3 := _m3.lt
  replace _m3 : Blk _w_3 _b3 57 [(.slice _A_bV bV.length _C_bV), (.slice _A_bE bE.length _C_bE)] := _m3
  refine WL_step rfl rfl (r_assign rfl) ?_
  refine WL_nil ?_
  refine thn_nrm (_hK_1 _ _ ?_)
  clear _hK_1
  refine W_seq fun _K_4 _hK_4 => ?_
  refine W_seq fun _K_5 _hK_5 => ?_
  refine W_region ?_
  refine WL_step rfl rfl (r_fieldAddr fa57_0 rfl) ?_
  have _f_6 := (_m2.ch0 _cw_3)
  refine WL_step rfl rfl (r_loadAt _f_6.at_ agg43 rfl rfl) ?_
  refine WL_step rfl rfl (r_fieldAddr fa57_0 rfl) ?_
  refine WL_step rfl rfl (r_loadAt _m3.at_ agg43 rfl rfl) ?_
  refine WL_s rfl rfl ?_
  have _f_7 := ((_h_aV.ch0 _cw_2).ch0 _cw_3)
  have _f_8 := ((_h_bV.ch0 _cw_2).ch0 _cw_3)
  refine Step.call (r_call (xs := [.tmp 6, .tmp 8]) fk88 rfl) (c_laws_eqIntS _f_7 _f_8 ) fun _v9 _w_9 _q9 => ?_
  obtain ⟨rfl, _cw_9⟩ := _q9
  have _cw_9z := _cw_9.size
  have E := E.trans _cw_9
  refine WL_step rfl rfl (r_not rfl) ?_
  refine WL_nil ?_
  refine thn_nrm (_hK_5 _ _ ?_)
  clear _hK_5
  refine W_cond rfl (fun _h10 => ?_) (fun _h10 => ?_)
  · have _kb_10 := _h10
    have _h10 := bf_d (bt_n _h10)
    refine W_seq fun _K_11 _hK_11 => ?_
    refine W_region ?_
    refine WL_step rfl rfl (r_assign rfl) ?_
    refine WL_nil ?_
    refine thn_nrm (_hK_11 _ _ ?_)
    clear _hK_11
    refine W_ret (thn_ret ?_)
    clear _hK_4
    exact ret_intro [_] ⟨rfl, trivial⟩ ⟨congrArg Value.bool (by simp_all), E⟩
  · have _kb_10 := _h10
    have _h10 := bt_d (bf_n _h10)
    refine W_skip ?_
    refine thn_nrm (_hK_4 _ _ ?_)
    clear _hK_4
    refine W_seq fun _K_12 _hK_12 => ?_
    refine W_seq fun _K_13 _hK_13 => ?_
    refine W_region ?_
    refine WL_step rfl rfl (r_fieldAddr fa57_1 rfl) ?_
    have _f_14 := (_f_6.ch0 _cw_9)
    refine WL_step rfl rfl (r_loadAt _f_14.at_ agg55 rfl rfl) ?_
    refine WL_step rfl rfl (r_fieldAddr fa57_1 rfl) ?_
    have _f_15 := (_m3.ch0 _cw_9)
    refine WL_step rfl rfl (r_loadAt _f_15.at_ agg55 rfl rfl) ?_
    refine WL_s rfl rfl ?_
    have _f_16 := (((_h_aE.ch0 _cw_2).ch0 _cw_3).ch0 _cw_9)
    have _f_17 := (((_h_bE.ch0 _cw_2).ch0 _cw_3).ch0 _cw_9)
    refine Step.call (r_call (xs := [.tmp 12, .tmp 14]) fk89 rfl) (c_laws_eqEdgeS _f_16 _f_17 ) fun _v15 _w_18 _q15 => ?_
    obtain ⟨rfl, _cw_18⟩ := _q15
    have _cw_18z := _cw_18.size
    have E := E.trans _cw_18
    refine WL_step rfl rfl (r_not rfl) ?_
    refine WL_nil ?_
    refine thn_nrm (_hK_13 _ _ ?_)
    clear _hK_13
    refine W_cond rfl (fun _h16 => ?_) (fun _h16 => ?_)
    · have _kb_19 := _h16
      have _h16 := bf_d (bt_n _h16)
      refine W_seq fun _K_20 _hK_20 => ?_
      refine W_region ?_
      refine WL_step rfl rfl (r_assign rfl) ?_
      refine WL_nil ?_
      refine thn_nrm (_hK_20 _ _ ?_)
      clear _hK_20
      refine W_ret (thn_ret ?_)
      clear _hK_12
      exact ret_intro [_] ⟨rfl, trivial⟩ ⟨congrArg Value.bool (by simp_all), E⟩
    · have _kb_19 := _h16
      have _h16 := bt_d (bf_n _h16)
      refine W_skip ?_
      refine thn_nrm (_hK_12 _ _ ?_)
      clear _hK_12
      refine W_seq fun _K_21 _hK_21 => ?_
      refine W_region ?_
      refine WL_step rfl rfl (r_assign rfl) ?_
      refine WL_nil ?_
      refine thn_nrm (_hK_21 _ _ ?_)
      clear _hK_21
      refine W_ret ?_
      exact ret_intro [_] ⟨rfl, trivial⟩ ⟨congrArg Value.bool (by simp_all), E⟩

/-- laws.eqGraphS -/
theorem c_laws_eqGraphS {w : World} {LL_sa _B_sa : Nat} {_v_sa : Value} {sa : List Gv} (_h_sa : Ls Gv.cs 2 w LL_sa _B_sa _v_sa sa) {LR_a BB_a : Nat} {a : List GD} (_rd_a : RdG w LR_a BB_a sa a) {LL_sb _B_sb : Nat} {_v_sb : Value} {sb : List Gv} (_h_sb : Ls Gv.cs 2 w LL_sb _B_sb _v_sb sb) {LR_b BB_b : Nat} {b : List GD} (_rd_b : RdG w LR_b BB_b sb b) :
    Ctr Try.prog 61 #[_v_sa, _v_sb] w (fun v w' => v = .bool (tt (a = b)) ∧ Ch [] w w') := by
  obtain ⟨_A_sa, _C_sa, _e1_sa⟩ := _h_sa.val
  subst _e1_sa
  have _l_sa := _h_sa.len
  have _h_sa := _h_sa.here (by decide)
  have _rd_a := _rd_a.here
  have _rl_a := _rd_a.1
  obtain ⟨_A_sb, _C_sb, _e1_sb⟩ := _h_sb.val
  subst _e1_sb
  have _l_sb := _h_sb.len
  have _h_sb := _h_sb.here (by decide)
  have _rd_b := _rd_b.here
  have _rl_b := _rd_b.1
  have E := Ch.refl [] w
  refine Ctr_of_W (N := 27) (vs0 := [(.slice _A_sa sa.length _C_sa), (.slice _A_sb sb.length _C_sb)]) Try.func61 rfl rfl rfl ?_
  refine W_seq fun _K_1 _hK_1 => ?_
  refine W_region ?_
  refine WL_step rfl rfl (r_assign rfl) ?_
  refine WL_nil ?_
  refine thn_nrm (_hK_1 _ _ ?_)
  clear _hK_1
  refine W_seq fun _K_2 _hK_2 => ?_
  refine W_seq fun _K_3 _hK_3 => ?_
  refine W_region ?_
  refine WL_step rfl rfl (r_move rfl) ?_
  refine WL_step rfl rfl (r_len (by rw [el26]; rfl) rfl) ?_
  refine WL_step rfl rfl (r_move rfl) ?_
  refine WL_step rfl rfl (r_len (by rw [el26]; rfl) rfl) ?_
  refine WL_step rfl rfl (r_neq rfl rfl) ?_
  refine WL_nil ?_
  refine thn_nrm (_hK_3 _ _ ?_)
  clear _hK_3
  refine W_cond rfl (fun _h10 => ?_) (fun _h10 => ?_)
  · have _kb_4 := _h10
    have _h10 := bf_d (bt_n _h10)
    refine W_seq fun _K_5 _hK_5 => ?_
    refine W_region ?_
    refine WL_step rfl rfl (r_assign rfl) ?_
    refine WL_nil ?_
    refine thn_nrm (_hK_5 _ _ ?_)
    clear _hK_5
    refine W_ret (thn_ret ?_)
    clear _hK_2
    exact ret_intro [_] ⟨rfl, trivial⟩ ⟨congrArg Value.bool (tt_false (fun e => _h10 (by rw [_rl_a, _rl_b, e]))), E⟩
  · have _kb_4 := _h10
    have _h10 := bt_d (bf_n _h10)
    refine W_skip ?_
    refine thn_nrm (_hK_2 _ _ ?_)
    clear _hK_2
    refine W_seq fun _K_6 _hK_6 => ?_
    refine W_seq fun _K_7 _hK_7 => ?_
    refine W_region ?_
    refine WL_step rfl rfl (r_assign rfl) ?_
    refine WL_nil ?_
    refine thn_nrm (_hK_7 _ _ ?_)
    clear _hK_7
    refine W_block ?_
    refine W_loop (σ := Nat) (fun (k : Nat) => [(0, (.slice _A_sa sa.length _C_sa)), (1, (.slice _A_sb sb.length _C_sb)), (5, (.int .i64 ((k : Nat) : Int)))]) (fun (k : Nat) wx => Ch [] w wx ∧ w.heap.size ≤ wx.heap.size ∧ (k ≤ a.length) ∧ (a.take k = b.take k)) (fun (k : Nat) => a.length - k) 0 (Sub.cons rfl (Sub.cons rfl (Sub.cons rfl (Sub.nil _)))) ⟨E, (Nat.le_refl _), (by omega), rfl⟩ ?_
    rintro k _wr_8 ⟨E, _zz0, _hk, _ht⟩
    have _E0h := E
    have _E0hz := _E0h.size
    refine W_seq fun _K_9 _hK_9 => ?_
    refine W_seq fun _K_10 _hK_10 => ?_
    refine W_region ?_
    refine WL_step rfl rfl (r_move rfl) ?_
    refine WL_step rfl rfl (r_move rfl) ?_
    refine WL_step rfl rfl (r_len (by rw [el26]; rfl) rfl) ?_
    refine WL_step rfl rfl (r_lss rfl rfl) ?_
    refine WL_nil ?_
    refine thn_nrm (_hK_10 _ _ ?_)
    clear _hK_10
    refine W_cond rfl (fun _h14 => ?_) (fun _h14 => ?_)
    · have _kb_11 := _h14
      have _h14 := bt_d _h14
      refine W_skip ?_
      refine thn_nrm (_hK_9 _ _ ?_)
      clear _hK_9
      refine W_seq fun _K_12 _hK_12 => ?_
      refine W_block ?_
      refine W_seq fun _K_13 _hK_13 => ?_
      refine W_drawC [] 10 mixed rfl fun _w_14 _cw_14 => ?_
      have _cw_14z := _cw_14.size
      have E := E.trans _cw_14
      refine DR_s 0 rfl (by kernel_rfl) rfl rfl (t_v (fun _ => (r_move rfl)) ?_)
      refine DR_s 1 rfl (by kernel_rfl) rfl rfl (t_v (fun _ => (r_move rfl)) ?_)
      have _f_15 := ((_h_sa.ch0 _E0h).ch0 _cw_14)
      have _f_16 := ((_rd_a.ch0 _E0h).ch0 _cw_14)
      refine DR_s 2 rfl (by kernel_rfl) rfl rfl (t_index _f_15 Gv.len el26 sz57 rfl rfl rfl (by omega) fun _p19 _y19 _hy19 _a19 => ?_)
      obtain ⟨_ys19, _hys19, _fs19, fe19⟩ := _f_16.get _hy19
      obtain ⟨⟨_A19, _n19, _C19⟩, ⟨Ae19, ne19, Ce19⟩⟩ := _y19
      obtain rfl := _fs19.eqn
      obtain rfl := fe19.eqn
      have _l19 := _fs19.len
      have le19 := fe19.len
      replace _fs19 : Ls ics 1 _w_14 LR_a w.heap.size (.slice _A19 _ys19.V.length _C19) _ys19.V := _fs19
      replace fe19 : Ls GEdge.cs 4 _w_14 LR_a w.heap.size (.slice Ae19 _ys19.E.length Ce19) _ys19.E := fe19
      refine DR_s 3 rfl (by kernel_rfl) rfl rfl (t_loadAtA0 _a19 (fun i hi => absurd hi List.not_mem_nil) agg57 sz57 rfl ?_)
      refine DR_s 4 rfl (by kernel_rfl) rfl rfl (t_v (fun _ => (r_move rfl)) ?_)
      refine DR_s 5 rfl (by kernel_rfl) rfl rfl (t_v (fun _ => (r_move rfl)) ?_)
      have _f_17 := ((_h_sb.ch0 _E0h).ch0 _cw_14)
      have _f_18 := ((_rd_b.ch0 _E0h).ch0 _cw_14)
      refine DR_s 6 rfl (by kernel_rfl) rfl rfl (t_index _f_17 Gv.len el26 sz57 rfl rfl rfl (by omega) fun _p23 _y23 _hy23 _a23 => ?_)
      obtain ⟨_ys23, _hys23, _fs23, fe23⟩ := _f_18.get _hy23
      obtain ⟨⟨_A23, _n23, _C23⟩, ⟨Ae23, ne23, Ce23⟩⟩ := _y23
      obtain rfl := _fs23.eqn
      obtain rfl := fe23.eqn
      have _l23 := _fs23.len
      have le23 := fe23.len
      replace _fs23 : Ls ics 1 _w_14 LR_b w.heap.size (.slice _A23 _ys23.V.length _C23) _ys23.V := _fs23
      replace fe23 : Ls GEdge.cs 4 _w_14 LR_b w.heap.size (.slice Ae23 _ys23.E.length Ce23) _ys23.E := fe23
      refine DR_s 7 rfl (by kernel_rfl) rfl rfl (t_loadAtA0 _a23 (fun i hi => absurd hi List.not_mem_nil) agg57 sz57 rfl ?_)
      refine DR_one 8 (by kernel_rfl) ?_
      refine DO_s rfl rfl rfl ?_
      refine Step.call (r_call (xs := [.tmp 20, .tmp 24]) fk32 rfl) (c_laws_eqGraph _fs19 fe19 _fs23 fe23 ) fun _v25 _w_19 _q25 => ?_
      obtain ⟨rfl, _cw_19⟩ := _q25
      have _cw_19z := _cw_19.size
      have E := E.trans _cw_19
      have _S_20 : Ch [] _w_14 _w_19 := ((Ch.refl _ _).trans _cw_19)
      refine ⟨_S_20, ?_⟩
      refine DR_s 9 rfl (by kernel_rfl) rfl rfl (t_v (fun _ => (r_not rfl)) ?_)
      refine DR_done (by kernel_rfl) ?_
      refine thn_nrm (_hK_13 _ _ ?_)
      clear _hK_13
      refine W_cond rfl (fun _h26 => ?_) (fun _h26 => ?_)
      · have _kb_21 := _h26
        have _h26 := bf_d (bt_n _h26)
        refine W_seq fun _K_22 _hK_22 => ?_
        refine W_region ?_
        refine WL_step rfl rfl (r_assign rfl) ?_
        refine WL_nil ?_
        refine thn_nrm (_hK_22 _ _ ?_)
        clear _hK_22
        refine W_ret (inB_ret (thn_ret (thn_ret (inB_ret (thn_ret ?_)))))
        clear _hK_6 _hK_12
        exact ret_intro [_] ⟨rfl, trivial⟩ ⟨congrArg Value.bool (tt_false (ne_of_get _hys19 _hys23 (fun e => _h26 ⟨by rw [e], by rw [e]⟩))), E⟩
      · have _kb_21 := _h26
        have _h26 := bt_d (bf_n _h26)
        refine W_skip ?_
        refine inB_nrm ?_
        refine thn_nrm (_hK_12 _ _ ?_)
        clear _hK_12
        refine W_region ?_
        refine WL_step rfl rfl (r_move rfl) ?_
        refine WL_step rfl rfl (r_add (by omega) rfl rfl) ?_
        refine WL_step rfl rfl (r_assign rfl) ?_
        refine WL_nil ?_
        exact thn_nrm (Exists.intro (k + 1) ⟨⟨E, (by omega), (by omega), (take_eq_succ _ht _hys19 _hys23 (GD.ext2 _h26.1 _h26.2))⟩, Sub.cons rfl (Sub.cons rfl (Sub.cons rfl (Sub.nil _))), (by first | omega | (dsimp only; omega))⟩)
    · have _kb_11 := _h14
      have _h14 := bf_d _h14
      refine W_exit (thn_exit (thn_exit (inB_hit ?_)))
      refine thn_nrm (_hK_6 _ _ ?_)
      clear _hK_6
      refine W_seq fun _K_23 _hK_23 => ?_
      refine W_region ?_
      refine WL_step rfl rfl (r_assign rfl) ?_
      refine WL_nil ?_
      refine thn_nrm (_hK_23 _ _ ?_)
      clear _hK_23
      refine W_ret ?_
      clear _hK_9
      exact ret_intro [_] ⟨rfl, trivial⟩ ⟨congrArg Value.bool (tt_true (eq_of_take _ht (by omega) (by omega))), E⟩

/-- laws.eqHistory -/
theorem c_laws_eqHistory {w : World} (aF : Int) {LL_saG _B_saG : Nat} {_v_saG : Value} {saG : List Gv} (_h_saG : Ls Gv.cs 2 w LL_saG _B_saG _v_saG saG) {LR_aG BB_aG : Nat} {aG : List GD} (_rd_aG : RdG w LR_aG BB_aG saG aG) (bF : Int) {LL_sbG _B_sbG : Nat} {_v_sbG : Value} {sbG : List Gv} (_h_sbG : Ls Gv.cs 2 w LL_sbG _B_sbG _v_sbG sbG) {LR_bG BB_bG : Nat} {bG : List GD} (_rd_bG : RdG w LR_bG BB_bG sbG bG) :
    Ctr Try.prog 13 #[(.agg #[(.int .i64 aF), _v_saG]), (.agg #[(.int .i64 bF), _v_sbG])] w (fun v w' => v = .bool (tt (aF = bF ∧ aG = bG)) ∧ Ch [] w w') := by
  obtain ⟨_A_saG, _C_saG, _e1_saG⟩ := _h_saG.val
  subst _e1_saG
  have _l_saG := _h_saG.len
  have _h_saG := _h_saG.here (by decide)
  have _rd_aG := _rd_aG.here
  have _rl_aG := _rd_aG.1
  obtain ⟨_A_sbG, _C_sbG, _e1_sbG⟩ := _h_sbG.val
  subst _e1_sbG
  have _l_sbG := _h_sbG.len
  have _h_sbG := _h_sbG.here (by decide)
  have _rd_bG := _rd_bG.here
  have _rl_bG := _rd_bG.1
  have E := Ch.refl [] w
  refine Ctr_of_W (N := 16) (vs0 := [(.agg #[(.int .i64 aF), (.slice _A_saG saG.length _C_saG)]), (.agg #[(.int .i64 bF), (.slice _A_sbG sbG.length _C_sbG)])]) Try.func13 rfl rfl rfl ?_
  refine W_seq fun _K_1 _hK_1 => ?_
  refine W_region ?_
  refine WL_s rfl rfl ?_
  refine s_box rfl fun _b2 _w_2 _m2 _cw_2 _e2 => ?_
  have _cw_2z := _cw_2.size
  have E := E.trans _cw_2
  have _z2 := _m2.lt
  replace _m2 : Blk _w_2 _b2 28 [(.int .i64 aF), (.slice _A_saG saG.length _C_saG)] := _m2
  refine WL_s rfl rfl ?_
  refine s_box rfl fun _b3 _w_3 _m3 _cw_3 _e3 => ?_
  have _cw_3z := _cw_3.size
  have E := E.trans _cw_3
  have _z3 := _m3.lt
  replace _m3 : Blk _w_3 _b3 28 [(.int .i64 bF), (.slice _A_sbG sbG.length _C_sbG)] := _m3
  refine WL_step rfl rfl (r_assign rfl) ?_
  refine WL_nil ?_
  refine thn_nrm (_hK_1 _ _ ?_)
  clear _hK_1
  refine W_seq fun _K_4 _hK_4 => ?_
  refine W_seq fun _K_5 _hK_5 => ?_
  refine W_region ?_
  refine WL_step rfl rfl (r_fieldAddr fa28_0 rfl) ?_
  have _f_6 := (_m2.ch0 _cw_3)
  refine WL_step rfl rfl (r_loadAt _f_6.at_ agg3 rfl rfl) ?_
  refine WL_step rfl rfl (r_fieldAddr fa28_0 rfl) ?_
  refine WL_step rfl rfl (r_loadAt _m3.at_ agg3 rfl rfl) ?_
  refine WL_step rfl rfl (r_neq rfl rfl) ?_
  refine WL_nil ?_
  refine thn_nrm (_hK_5 _ _ ?_)
  clear _hK_5
  refine W_cond rfl (fun _h9 => ?_) (fun _h9 => ?_)
  · have _kb_7 := _h9
    have _h9 := bf_d (bt_n _h9)
    refine W_seq fun _K_8 _hK_8 => ?_
    refine W_region ?_
    refine WL_step rfl rfl (r_assign rfl) ?_
    refine WL_nil ?_
    refine thn_nrm (_hK_8 _ _ ?_)
    clear _hK_8
    refine W_ret (thn_ret ?_)
    clear _hK_4
    exact ret_intro [_] ⟨rfl, trivial⟩ ⟨congrArg Value.bool (tt_false (fun e => _h9 e.1)), E⟩
  · have _kb_7 := _h9
    have _h9 := bt_d (bf_n _h9)
    refine W_skip ?_
    refine thn_nrm (_hK_4 _ _ ?_)
    clear _hK_4
    refine W_seq fun _K_9 _hK_9 => ?_
    refine W_seq fun _K_10 _hK_10 => ?_
    refine W_region ?_
    refine WL_step rfl rfl (r_fieldAddr fa28_1 rfl) ?_
    refine WL_step rfl rfl (r_loadAt _f_6.at_ agg26 rfl rfl) ?_
    refine WL_step rfl rfl (r_fieldAddr fa28_1 rfl) ?_
    refine WL_step rfl rfl (r_loadAt _m3.at_ agg26 rfl rfl) ?_
    refine WL_s rfl rfl ?_
    have _f_11 := ((_h_saG.ch0 _cw_2).ch0 _cw_3)
    have _f_12 := ((_rd_aG.ch0 _cw_2).ch0 _cw_3)
    have _f_13 := ((_h_sbG.ch0 _cw_2).ch0 _cw_3)
    have _f_14 := ((_rd_bG.ch0 _cw_2).ch0 _cw_3)
    refine Step.call (r_call (xs := [.tmp 11, .tmp 13]) fk61 rfl) (c_laws_eqGraphS _f_11 _f_12 _f_13 _f_14 ) fun _v14 _w_15 _q14 => ?_
    obtain ⟨rfl, _cw_15⟩ := _q14
    have _cw_15z := _cw_15.size
    have E := E.trans _cw_15
    refine WL_step rfl rfl (r_not rfl) ?_
    refine WL_nil ?_
    refine thn_nrm (_hK_10 _ _ ?_)
    clear _hK_10
    refine W_cond rfl (fun _h15 => ?_) (fun _h15 => ?_)
    · have _kb_16 := _h15
      have _h15 := bf_t (bt_n _h15)
      refine W_seq fun _K_17 _hK_17 => ?_
      refine W_region ?_
      refine WL_step rfl rfl (r_assign rfl) ?_
      refine WL_nil ?_
      refine thn_nrm (_hK_17 _ _ ?_)
      clear _hK_17
      refine W_ret (thn_ret ?_)
      clear _hK_9
      exact ret_intro [_] ⟨rfl, trivial⟩ ⟨congrArg Value.bool (tt_false (fun e => _h15 e.2)), E⟩
    · have _kb_16 := _h15
      have _h15 := bt_t (bf_n _h15)
      refine W_skip ?_
      refine thn_nrm (_hK_9 _ _ ?_)
      clear _hK_9
      refine W_seq fun _K_18 _hK_18 => ?_
      refine W_region ?_
      refine WL_step rfl rfl (r_assign rfl) ?_
      refine WL_nil ?_
      refine thn_nrm (_hK_18 _ _ ?_)
      clear _hK_18
      refine W_ret ?_
      exact ret_intro [_] ⟨rfl, trivial⟩ ⟨congrArg Value.bool (tt_true ⟨_h9, _h15⟩), E⟩

/-- laws.heldEdgeS -/
theorem c_laws_heldEdgeS {w : World} {LL_a _B_a : Nat} {_v_a : Value} {a : List GEdge} (_h_a : Ls GEdge.cs 4 w LL_a _B_a _v_a a) (k : Int) (_hk0 : 0 ≤ k) (hkk : k + 4 * a.length ≤ 4611686018427387904) :
    Ctr Try.prog 119 #[_v_a, (.int .i64 k)] w (fun v w' => v = .int .i64 (if a = mkGEdge k a.length then k + 4 * a.length else -1) ∧ Ch [] w w') := by
  obtain ⟨_A_a, _C_a, _e1_a⟩ := _h_a.val
  subst _e1_a
  have _l_a := _h_a.len
  have _h_a := _h_a.here (by decide)
  have E := Ch.refl [] w
  refine Ctr_of_W (N := 49) (vs0 := [(.slice _A_a a.length _C_a), (.int .i64 k)]) Try.func119 rfl rfl rfl ?_
  refine W_seq fun _K_1 _hK_1 => ?_
  refine W_region ?_
  refine WL_step rfl rfl (r_assign rfl) ?_
  refine WL_nil ?_
  refine thn_nrm (_hK_1 _ _ ?_)
  clear _hK_1
  refine W_seq fun _K_2 _hK_2 => ?_
  refine W_seq fun _K_3 _hK_3 => ?_
  refine W_region ?_
  refine WL_step rfl rfl (r_assign rfl) ?_
  refine WL_nil ?_
  refine thn_nrm (_hK_3 _ _ ?_)
  clear _hK_3
  refine W_block ?_
  refine W_loop (σ := Nat × Int) (fun ⟨i, kk⟩ => [(0, (.slice _A_a a.length _C_a)), (1, (.int .i64 kk)), (5, (.int .i64 ((i : Nat) : Int)))]) (fun ⟨i, kk⟩ wx => Ch [] w wx ∧ w.heap.size ≤ wx.heap.size ∧ (i ≤ a.length) ∧ (kk = k + 4 * i) ∧ (a.take i = mkGEdge k i)) (fun ⟨i, kk⟩ => a.length - i) (0, k) (Sub.cons rfl (Sub.cons rfl (Sub.cons rfl (Sub.nil _)))) ⟨E, (Nat.le_refl _), (by omega), (by omega), rfl⟩ ?_
  rintro ⟨i, kk⟩ _wr_4 ⟨E, _zz0, hi, hq, _ht⟩
  have _E0h := E
  have _E0hz := _E0h.size
  refine W_seq fun _K_5 _hK_5 => ?_
  refine W_seq fun _K_6 _hK_6 => ?_
  refine W_region ?_
  refine WL_step rfl rfl (r_move rfl) ?_
  refine WL_step rfl rfl (r_move rfl) ?_
  refine WL_step rfl rfl (r_len (by rw [el55]; rfl) rfl) ?_
  refine WL_step rfl rfl (r_lss rfl rfl) ?_
  refine WL_nil ?_
  refine thn_nrm (_hK_6 _ _ ?_)
  clear _hK_6
  refine W_cond rfl (fun _h9 => ?_) (fun _h9 => ?_)
  · have _kb_7 := _h9
    have _h9 := bt_d _h9
    refine W_skip ?_
    refine thn_nrm (_hK_5 _ _ ?_)
    clear _hK_5
    refine W_seq fun _K_8 _hK_8 => ?_
    refine W_block ?_
    refine W_seq fun _K_9 _hK_9 => ?_
    refine W_seq fun _K_10 _hK_10 => ?_
    refine W_region ?_
    refine WL_step rfl rfl (r_move rfl) ?_
    refine WL_step rfl rfl (r_move rfl) ?_
    refine WL_s rfl rfl ?_
    have _f_11 := (_h_a.ch0 _E0h)
    refine (s_index _f_11 GEdge.len el55 sz168 rfl rfl rfl (by omega) fun _p14 _y14 _hy14 _a14 => ?_)
    refine WL_step rfl rfl (r_fieldAddr fa168_0 rfl) ?_
    refine WL_step rfl rfl (r_loadAt _a14 agg3 rfl rfl) ?_
    refine WL_step rfl rfl (r_move rfl) ?_
    refine WL_step rfl rfl (r_neq rfl rfl) ?_
    refine WL_nil ?_
    refine thn_nrm (_hK_10 _ _ ?_)
    clear _hK_10
    refine W_cond rfl (fun _h18 => ?_) (fun _h18 => ?_)
    · have _kb_12 := _h18
      have _h18 := bf_d (bt_n _h18)
      refine W_seq fun _K_13 _hK_13 => ?_
      refine W_region ?_
      refine WL_step rfl rfl (r_assign rfl) ?_
      refine WL_nil ?_
      refine thn_nrm (_hK_13 _ _ ?_)
      clear _hK_13
      refine W_ret (thn_ret (inB_ret (thn_ret (thn_ret (inB_ret (thn_ret ?_))))))
      clear _hK_2 _hK_8 _hK_9
      exact ret_intro [_] ⟨rfl, trivial⟩ ⟨congrArg (Value.int .i64) (if_neg (fun e => _h18 (by have _e2 := (heldGEdge_get e _hy14).1; omega))).symm, E⟩
    · have _kb_12 := _h18
      have _h18 := bt_d (bf_n _h18)
      refine W_skip ?_
      refine thn_nrm (_hK_9 _ _ ?_)
      clear _hK_9
      refine W_seq fun _K_14 _hK_14 => ?_
      refine W_region ?_
      refine WL_step rfl rfl (r_move rfl) ?_
      refine WL_step rfl rfl (r_add (by omega) rfl rfl) ?_
      refine WL_step rfl rfl (r_assign rfl) ?_
      refine WL_nil ?_
      refine thn_nrm (_hK_14 _ _ ?_)
      clear _hK_14
      refine W_seq fun _K_15 _hK_15 => ?_
      refine W_seq fun _K_16 _hK_16 => ?_
      refine W_region ?_
      refine WL_step rfl rfl (r_move rfl) ?_
      refine WL_step rfl rfl (r_move rfl) ?_
      refine WL_s rfl rfl ?_
      refine (s_index _f_11 GEdge.len el55 sz168 rfl rfl rfl (by omega) fun _p23 _y23 _hy23 _a23 => ?_)
      refine WL_step rfl rfl (r_fieldAddr fa168_1 rfl) ?_
      refine WL_step rfl rfl (r_loadAt _a23 agg3 rfl rfl) ?_
      refine WL_step rfl rfl (r_move rfl) ?_
      refine WL_step rfl rfl (r_neq rfl rfl) ?_
      refine WL_nil ?_
      refine thn_nrm (_hK_16 _ _ ?_)
      clear _hK_16
      refine W_cond rfl (fun _h27 => ?_) (fun _h27 => ?_)
      · have _kb_17 := _h27
        have _h27 := bf_d (bt_n _h27)
        refine W_seq fun _K_18 _hK_18 => ?_
        refine W_region ?_
        refine WL_step rfl rfl (r_assign rfl) ?_
        refine WL_nil ?_
        refine thn_nrm (_hK_18 _ _ ?_)
        clear _hK_18
        refine W_ret (thn_ret (inB_ret (thn_ret (thn_ret (inB_ret (thn_ret ?_))))))
        clear _hK_2 _hK_8 _hK_15
        exact ret_intro [_] ⟨rfl, trivial⟩ ⟨congrArg (Value.int .i64) (if_neg (fun e => _h27 (by have _e2 := (heldGEdge_get e _hy23).2.1; omega))).symm, E⟩
      · have _kb_17 := _h27
        have _h27 := bt_d (bf_n _h27)
        refine W_skip ?_
        refine thn_nrm (_hK_15 _ _ ?_)
        clear _hK_15
        refine W_seq fun _K_19 _hK_19 => ?_
        refine W_region ?_
        refine WL_step rfl rfl (r_move rfl) ?_
        refine WL_step rfl rfl (r_add (by omega) rfl rfl) ?_
        refine WL_step rfl rfl (r_assign rfl) ?_
        refine WL_nil ?_
        refine thn_nrm (_hK_19 _ _ ?_)
        clear _hK_19
        refine W_seq fun _K_20 _hK_20 => ?_
        refine W_seq fun _K_21 _hK_21 => ?_
        refine W_region ?_
        refine WL_step rfl rfl (r_move rfl) ?_
        refine WL_step rfl rfl (r_move rfl) ?_
        refine WL_s rfl rfl ?_
        refine (s_index _f_11 GEdge.len el55 sz168 rfl rfl rfl (by omega) fun _p32 _y32 _hy32 _a32 => ?_)
        refine WL_step rfl rfl (r_fieldAddr fa168_2 rfl) ?_
        refine WL_step rfl rfl (r_loadAt _a32 agg3 rfl rfl) ?_
        refine WL_step rfl rfl (r_move rfl) ?_
        refine WL_step rfl rfl (r_neq rfl rfl) ?_
        refine WL_nil ?_
        refine thn_nrm (_hK_21 _ _ ?_)
        clear _hK_21
        refine W_cond rfl (fun _h36 => ?_) (fun _h36 => ?_)
        · have _kb_22 := _h36
          have _h36 := bf_d (bt_n _h36)
          refine W_seq fun _K_23 _hK_23 => ?_
          refine W_region ?_
          refine WL_step rfl rfl (r_assign rfl) ?_
          refine WL_nil ?_
          refine thn_nrm (_hK_23 _ _ ?_)
          clear _hK_23
          refine W_ret (thn_ret (inB_ret (thn_ret (thn_ret (inB_ret (thn_ret ?_))))))
          clear _hK_2 _hK_8 _hK_20
          exact ret_intro [_] ⟨rfl, trivial⟩ ⟨congrArg (Value.int .i64) (if_neg (fun e => _h36 (by have _e2 := (heldGEdge_get e _hy32).2.2.1; omega))).symm, E⟩
        · have _kb_22 := _h36
          have _h36 := bt_d (bf_n _h36)
          refine W_skip ?_
          refine thn_nrm (_hK_20 _ _ ?_)
          clear _hK_20
          refine W_seq fun _K_24 _hK_24 => ?_
          refine W_region ?_
          refine WL_step rfl rfl (r_move rfl) ?_
          refine WL_step rfl rfl (r_add (by omega) rfl rfl) ?_
          refine WL_step rfl rfl (r_assign rfl) ?_
          refine WL_nil ?_
          refine thn_nrm (_hK_24 _ _ ?_)
          clear _hK_24
          refine W_seq fun _K_25 _hK_25 => ?_
          refine W_seq fun _K_26 _hK_26 => ?_
          refine W_region ?_
          refine WL_step rfl rfl (r_move rfl) ?_
          refine WL_step rfl rfl (r_move rfl) ?_
          refine WL_s rfl rfl ?_
          refine (s_index _f_11 GEdge.len el55 sz168 rfl rfl rfl (by omega) fun _p41 _y41 _hy41 _a41 => ?_)
          refine WL_step rfl rfl (r_fieldAddr fa168_3 rfl) ?_
          refine WL_step rfl rfl (r_loadAt _a41 agg3 rfl rfl) ?_
          refine WL_step rfl rfl (r_move rfl) ?_
          refine WL_step rfl rfl (r_neq rfl rfl) ?_
          refine WL_nil ?_
          refine thn_nrm (_hK_26 _ _ ?_)
          clear _hK_26
          refine W_cond rfl (fun _h45 => ?_) (fun _h45 => ?_)
          · have _kb_27 := _h45
            have _h45 := bf_d (bt_n _h45)
            refine W_seq fun _K_28 _hK_28 => ?_
            refine W_region ?_
            refine WL_step rfl rfl (r_assign rfl) ?_
            refine WL_nil ?_
            refine thn_nrm (_hK_28 _ _ ?_)
            clear _hK_28
            refine W_ret (thn_ret (inB_ret (thn_ret (thn_ret (inB_ret (thn_ret ?_))))))
            clear _hK_2 _hK_8 _hK_25
            exact ret_intro [_] ⟨rfl, trivial⟩ ⟨congrArg (Value.int .i64) (if_neg (fun e => _h45 (by have _e2 := (heldGEdge_get e _hy41).2.2.2; omega))).symm, E⟩
          · have _kb_27 := _h45
            have _h45 := bt_d (bf_n _h45)
            refine W_skip ?_
            refine thn_nrm (_hK_25 _ _ ?_)
            clear _hK_25
            refine W_region ?_
            refine WL_step rfl rfl (r_move rfl) ?_
            refine WL_step rfl rfl (r_add (by omega) rfl rfl) ?_
            refine WL_step rfl rfl (r_assign rfl) ?_
            refine WL_nil ?_
            refine inB_nrm ?_
            refine thn_nrm (_hK_8 _ _ ?_)
            clear _hK_8
            refine W_region ?_
            refine WL_step rfl rfl (r_move rfl) ?_
            refine WL_step rfl rfl (r_add (by omega) rfl rfl) ?_
            refine WL_step rfl rfl (r_assign rfl) ?_
            refine WL_nil ?_
            exact thn_nrm (Exists.intro ((i + 1), ((((kk + 1) + 1) + 1) + 1)) ⟨⟨E, (by omega), (by omega), (by omega), (heldGEdge_step _ht hq _hy14 _h18 _hy23 _h27 _hy32 _h36 _hy41 _h45)⟩, Sub.cons rfl (Sub.cons rfl (Sub.cons rfl (Sub.nil _))), (by first | omega | (dsimp only; omega))⟩)
  · have _kb_7 := _h9
    have _h9 := bf_d _h9
    refine W_exit (thn_exit (thn_exit (inB_hit ?_)))
    refine thn_nrm (_hK_2 _ _ ?_)
    clear _hK_2
    refine W_seq fun _K_29 _hK_29 => ?_
    refine W_region ?_
    refine WL_step rfl rfl (r_move rfl) ?_
    refine WL_step rfl rfl (r_assign rfl) ?_
    refine WL_nil ?_
    refine thn_nrm (_hK_29 _ _ ?_)
    clear _hK_29
    refine W_ret ?_
    clear _hK_5
    exact ret_intro [_] ⟨rfl, trivial⟩ ⟨congrArg (Value.int .i64) (by rw [if_pos (heldGEdge_all _ht (by omega) (by omega))]; omega), E⟩

/-- laws.heldIntS -/
theorem c_laws_heldIntS {w : World} {LL_a _B_a : Nat} {_v_a : Value} {a : List Int} (_h_a : Ls ics 1 w LL_a _B_a _v_a a) (k : Int) (_hk0 : 0 ≤ k) (hkk : k + a.length ≤ 4611686018427387904) :
    Ctr Try.prog 113 #[_v_a, (.int .i64 k)] w (fun v w' => v = .int .i64 (if a = mkInt k a.length then k + a.length else -1) ∧ Ch [] w w') := by
  obtain ⟨_A_a, _C_a, _e1_a⟩ := _h_a.val
  subst _e1_a
  have _l_a := _h_a.len
  have _h_a := _h_a.here (by decide)
  have E := Ch.refl [] w
  refine Ctr_of_W (N := 21) (vs0 := [(.slice _A_a a.length _C_a), (.int .i64 k)]) Try.func113 rfl rfl rfl ?_
  refine W_seq fun _K_1 _hK_1 => ?_
  refine W_region ?_
  refine WL_step rfl rfl (r_assign rfl) ?_
  refine WL_nil ?_
  refine thn_nrm (_hK_1 _ _ ?_)
  clear _hK_1
  refine W_seq fun _K_2 _hK_2 => ?_
  refine W_seq fun _K_3 _hK_3 => ?_
  refine W_region ?_
  refine WL_step rfl rfl (r_assign rfl) ?_
  refine WL_nil ?_
  refine thn_nrm (_hK_3 _ _ ?_)
  clear _hK_3
  refine W_block ?_
  refine W_loop (σ := Nat × Int) (fun ⟨i, kk⟩ => [(0, (.slice _A_a a.length _C_a)), (1, (.int .i64 kk)), (5, (.int .i64 ((i : Nat) : Int)))]) (fun ⟨i, kk⟩ wx => Ch [] w wx ∧ w.heap.size ≤ wx.heap.size ∧ (i ≤ a.length) ∧ (kk = k + i) ∧ (a.take i = mkInt k i)) (fun ⟨i, kk⟩ => a.length - i) (0, k) (Sub.cons rfl (Sub.cons rfl (Sub.cons rfl (Sub.nil _)))) ⟨E, (Nat.le_refl _), (by omega), (by omega), rfl⟩ ?_
  rintro ⟨i, kk⟩ _wr_4 ⟨E, _zz0, hi, hq, _ht⟩
  have _E0h := E
  have _E0hz := _E0h.size
  refine W_seq fun _K_5 _hK_5 => ?_
  refine W_seq fun _K_6 _hK_6 => ?_
  refine W_region ?_
  refine WL_step rfl rfl (r_move rfl) ?_
  refine WL_step rfl rfl (r_move rfl) ?_
  refine WL_step rfl rfl (r_len (by rw [el43]; rfl) rfl) ?_
  refine WL_step rfl rfl (r_lss rfl rfl) ?_
  refine WL_nil ?_
  refine thn_nrm (_hK_6 _ _ ?_)
  clear _hK_6
  refine W_cond rfl (fun _h9 => ?_) (fun _h9 => ?_)
  · have _kb_7 := _h9
    have _h9 := bt_d _h9
    refine W_skip ?_
    refine thn_nrm (_hK_5 _ _ ?_)
    clear _hK_5
    refine W_seq fun _K_8 _hK_8 => ?_
    refine W_block ?_
    refine W_seq fun _K_9 _hK_9 => ?_
    refine W_seq fun _K_10 _hK_10 => ?_
    refine W_region ?_
    refine WL_step rfl rfl (r_move rfl) ?_
    refine WL_step rfl rfl (r_move rfl) ?_
    refine WL_s rfl rfl ?_
    have _f_11 := (_h_a.ch0 _E0h)
    refine (s_index _f_11 ics_len el43 sz3 rfl rfl rfl (by omega) fun _p14 _y14 _hy14 _a14 => ?_)
    refine WL_step rfl rfl (r_loadAt0 _a14 agg3 rfl rfl) ?_
    refine WL_step rfl rfl (r_move rfl) ?_
    refine WL_step rfl rfl (r_neq rfl rfl) ?_
    refine WL_nil ?_
    refine thn_nrm (_hK_10 _ _ ?_)
    clear _hK_10
    refine W_cond rfl (fun _h17 => ?_) (fun _h17 => ?_)
    · have _kb_12 := _h17
      have _h17 := bf_d (bt_n _h17)
      refine W_seq fun _K_13 _hK_13 => ?_
      refine W_region ?_
      refine WL_step rfl rfl (r_assign rfl) ?_
      refine WL_nil ?_
      refine thn_nrm (_hK_13 _ _ ?_)
      clear _hK_13
      refine W_ret (thn_ret (inB_ret (thn_ret (thn_ret (inB_ret (thn_ret ?_))))))
      clear _hK_2 _hK_8 _hK_9
      exact ret_intro [_] ⟨rfl, trivial⟩ ⟨congrArg (Value.int .i64) (if_neg (fun e => _h17 (by have _e2 := (heldInt_get e _hy14); omega))).symm, E⟩
    · have _kb_12 := _h17
      have _h17 := bt_d (bf_n _h17)
      refine W_skip ?_
      refine thn_nrm (_hK_9 _ _ ?_)
      clear _hK_9
      refine W_region ?_
      refine WL_step rfl rfl (r_move rfl) ?_
      refine WL_step rfl rfl (r_add (by omega) rfl rfl) ?_
      refine WL_step rfl rfl (r_assign rfl) ?_
      refine WL_nil ?_
      refine inB_nrm ?_
      refine thn_nrm (_hK_8 _ _ ?_)
      clear _hK_8
      refine W_region ?_
      refine WL_step rfl rfl (r_move rfl) ?_
      refine WL_step rfl rfl (r_add (by omega) rfl rfl) ?_
      refine WL_step rfl rfl (r_assign rfl) ?_
      refine WL_nil ?_
      exact thn_nrm (Exists.intro ((i + 1), (kk + 1)) ⟨⟨E, (by omega), (by omega), (by omega), (heldInt_step _ht hq _hy14 _h17)⟩, Sub.cons rfl (Sub.cons rfl (Sub.cons rfl (Sub.nil _))), (by first | omega | (dsimp only; omega))⟩)
  · have _kb_7 := _h9
    have _h9 := bf_d _h9
    refine W_exit (thn_exit (thn_exit (inB_hit ?_)))
    refine thn_nrm (_hK_2 _ _ ?_)
    clear _hK_2
    refine W_seq fun _K_14 _hK_14 => ?_
    refine W_region ?_
    refine WL_step rfl rfl (r_move rfl) ?_
    refine WL_step rfl rfl (r_assign rfl) ?_
    refine WL_nil ?_
    refine thn_nrm (_hK_14 _ _ ?_)
    clear _hK_14
    refine W_ret ?_
    clear _hK_5
    exact ret_intro [_] ⟨rfl, trivial⟩ ⟨congrArg (Value.int .i64) (by rw [if_pos (heldInt_all _ht (by omega) (by omega))]; omega), E⟩

/-- laws.heldGraphS -/
theorem c_laws_heldGraphS {w : World} {LL_sa _B_sa : Nat} {_v_sa : Value} {sa : List Gv} (_h_sa : Ls Gv.cs 2 w LL_sa _B_sa _v_sa sa) {LR_a BB_a : Nat} {a : List GD} (_rd_a : RdG w LR_a BB_a sa a) (k : Int) (_hk0 : 0 ≤ k) (hkk : k + 4 * gsize a ≤ 4611686018427387904) :
    Ctr Try.prog 63 #[_v_sa, (.int .i64 k)] w (fun v w' => v = .int .i64 (heldGR k a) ∧ Ch [] w w') := by
  obtain ⟨_A_sa, _C_sa, _e1_sa⟩ := _h_sa.val
  subst _e1_sa
  have _l_sa := _h_sa.len
  have _h_sa := _h_sa.here (by decide)
  have _rd_a := _rd_a.here
  have _rl_a := _rd_a.1
  have E := Ch.refl [] w
  refine Ctr_of_W (N := 31) (vs0 := [(.slice _A_sa sa.length _C_sa), (.int .i64 k)]) Try.func63 rfl rfl rfl ?_
  refine W_seq fun _K_1 _hK_1 => ?_
  refine W_region ?_
  refine WL_step rfl rfl (r_assign rfl) ?_
  refine WL_nil ?_
  refine thn_nrm (_hK_1 _ _ ?_)
  clear _hK_1
  refine W_seq fun _K_2 _hK_2 => ?_
  refine W_seq fun _K_3 _hK_3 => ?_
  refine W_region ?_
  refine WL_step rfl rfl (r_assign rfl) ?_
  refine WL_nil ?_
  refine thn_nrm (_hK_3 _ _ ?_)
  clear _hK_3
  refine W_block ?_
  refine W_loop (σ := Nat × Int) (fun ⟨i, kk⟩ => [(0, (.slice _A_sa sa.length _C_sa)), (1, (.int .i64 kk)), (5, (.int .i64 ((i : Nat) : Int)))]) (fun ⟨i, kk⟩ wx => Ch [] w wx ∧ w.heap.size ≤ wx.heap.size ∧ (i ≤ a.length) ∧ (kk = k + gmark (a.take i)) ∧ (a.take i = mkGS k (a.take i))) (fun ⟨i, kk⟩ => a.length - i) (0, k) (Sub.cons rfl (Sub.cons rfl (Sub.cons rfl (Sub.nil _)))) ⟨E, (Nat.le_refl _), (by omega), (by simp [gmark]), (by simp [mkGS])⟩ ?_
  rintro ⟨i, kk⟩ _wr_4 ⟨E, _zz0, hi, hq, _ht⟩
  have _E0h := E
  have _E0hz := _E0h.size
  refine W_seq fun _K_5 _hK_5 => ?_
  refine W_seq fun _K_6 _hK_6 => ?_
  refine W_region ?_
  refine WL_step rfl rfl (r_move rfl) ?_
  refine WL_step rfl rfl (r_move rfl) ?_
  refine WL_step rfl rfl (r_len (by rw [el26]; rfl) rfl) ?_
  refine WL_step rfl rfl (r_lss rfl rfl) ?_
  refine WL_nil ?_
  refine thn_nrm (_hK_6 _ _ ?_)
  clear _hK_6
  refine W_cond rfl (fun _h9 => ?_) (fun _h9 => ?_)
  · have _kb_7 := _h9
    have _h9 := bt_d _h9
    refine W_skip ?_
    refine thn_nrm (_hK_5 _ _ ?_)
    clear _hK_5
    refine W_seq fun _K_8 _hK_8 => ?_
    refine W_block ?_
    refine W_seq fun _K_9 _hK_9 => ?_
    refine W_region ?_
    refine WL_step rfl rfl (r_move rfl) ?_
    refine WL_step rfl rfl (r_move rfl) ?_
    refine WL_s rfl rfl ?_
    have _f_10 := (_h_sa.ch0 _E0h)
    refine (s_index _f_10 Gv.len el26 sz57 rfl rfl rfl (by omega) fun _p14 _y14 _hy14 _a14 => ?_)
    have _f_11 := (_rd_a.ch0 _E0h)
    obtain ⟨_ys14, _hys14, _fs14, fe14⟩ := _f_11.get _hy14
    obtain ⟨⟨_A14, _n14, _C14⟩, ⟨Ae14, ne14, Ce14⟩⟩ := _y14
    obtain rfl := _fs14.eqn
    obtain rfl := fe14.eqn
    have _l14 := _fs14.len
    have le14 := fe14.len
    replace _fs14 : Ls ics 1 _wr_4 LR_a w.heap.size (.slice _A14 _ys14.V.length _C14) _ys14.V := _fs14
    replace fe14 : Ls GEdge.cs 4 _wr_4 LR_a w.heap.size (.slice Ae14 _ys14.E.length Ce14) _ys14.E := fe14
    have fl9 := gmark_take _hys14
    have gl9 := gmark_le _hys14
    refine WL_step rfl rfl (r_fieldAddr fa57_0 rfl) ?_
    refine WL_step rfl rfl (r_loadAt _a14 agg43 rfl rfl) ?_
    refine WL_step rfl rfl (r_move rfl) ?_
    refine WL_s rfl rfl ?_
    refine Step.call (r_call (xs := [.tmp 16, .tmp 17]) fk113 rfl) (c_laws_heldIntS _fs14 _ (by omega) (by first | omega | (simp <;> omega))) fun _v18 _w_12 _q18 => ?_
    obtain ⟨rfl, _cw_12⟩ := _q18
    have _cw_12z := _cw_12.size
    have E := E.trans _cw_12
    refine WL_step rfl rfl (r_assign rfl) ?_
    refine WL_nil ?_
    refine thn_nrm (_hK_9 _ _ ?_)
    clear _hK_9
    refine W_seq fun _K_13 _hK_13 => ?_
    refine W_seq fun _K_14 _hK_14 => ?_
    refine W_region ?_
    refine WL_step rfl rfl (r_move rfl) ?_
    refine WL_step rfl rfl (r_lss rfl rfl) ?_
    refine WL_nil ?_
    refine thn_nrm (_hK_14 _ _ ?_)
    clear _hK_14
    refine W_cond rfl (fun _h20 => ?_) (fun _h20 => ?_)
    · have _kb_15 := _h20
      have _h20 := bt_d _h20
      first | have _v20 := held_pos _h20 | skip
      refine W_seq fun _K_16 _hK_16 => ?_
      refine W_region ?_
      refine WL_step rfl rfl (r_assign rfl) ?_
      refine WL_nil ?_
      refine thn_nrm (_hK_16 _ _ ?_)
      clear _hK_16
      refine W_ret (thn_ret (inB_ret (thn_ret (thn_ret (inB_ret (thn_ret ?_))))))
      clear _hK_2 _hK_8 _hK_13
      exact ret_intro [_] ⟨rfl, trivial⟩ ⟨congrArg (Value.int .i64) (by first | exact heldGR_n (held_bad _hys14 hq (fun c => held_neg _h20 (by omega) c.1)) | exact heldGR_n (held_bad _hys14 hq (fun c => held_neg _h29 (by rw [_v20.2]; omega) (by rw [_v20.2, ← _u23]; exact c.2))) | exact heldGR_y _ht hq (by omega)), E⟩
    · have _kb_15 := _h20
      have _h20 := bf_d _h20
      first | have _v20 := held_pos _h20 | skip
      refine W_skip ?_
      refine thn_nrm (_hK_13 _ _ ?_)
      clear _hK_13
      refine W_seq fun _K_17 _hK_17 => ?_
      refine W_region ?_
      refine WL_step rfl rfl (r_move rfl) ?_
      refine WL_step rfl rfl (r_move rfl) ?_
      refine WL_s rfl rfl ?_
      have _f_18 := (_f_10.ch0 _cw_12)
      refine (s_index _f_18 Gv.len el26 sz57 rfl rfl rfl (by omega) fun _p23 _y23 _hy23 _a23 => ?_)
      have _f_19 := (_f_11.ch0 _cw_12)
      obtain ⟨_ys23, _hys23, _fs23, fe23⟩ := _f_19.get _hy23
      obtain ⟨⟨_A23, _n23, _C23⟩, ⟨Ae23, ne23, Ce23⟩⟩ := _y23
      obtain rfl := _fs23.eqn
      obtain rfl := fe23.eqn
      have _l23 := _fs23.len
      have le23 := fe23.len
      replace _fs23 : Ls ics 1 _w_12 LR_a w.heap.size (.slice _A23 _ys23.V.length _C23) _ys23.V := _fs23
      replace fe23 : Ls GEdge.cs 4 _w_12 LR_a w.heap.size (.slice Ae23 _ys23.E.length Ce23) _ys23.E := fe23
      have _u23 := get_uniq _hys14 _hys23
      have w23 : _ys14.E.length = _ys23.E.length := by rw [_u23]
      refine WL_step rfl rfl (r_fieldAddr fa57_1 rfl) ?_
      refine WL_step rfl rfl (r_loadAt _a23 agg55 rfl rfl) ?_
      refine WL_step rfl rfl (r_move rfl) ?_
      refine WL_s rfl rfl ?_
      refine Step.call (r_call (xs := [.tmp 25, .tmp 26]) fk119 rfl) (c_laws_heldEdgeS fe23 _ (by omega) (by first | omega | (simp <;> omega))) fun _v27 _w_20 _q27 => ?_
      obtain ⟨rfl, _cw_20⟩ := _q27
      have _cw_20z := _cw_20.size
      have E := E.trans _cw_20
      refine WL_step rfl rfl (r_assign rfl) ?_
      refine WL_nil ?_
      refine thn_nrm (_hK_17 _ _ ?_)
      clear _hK_17
      refine W_seq fun _K_21 _hK_21 => ?_
      refine W_region ?_
      refine WL_step rfl rfl (r_move rfl) ?_
      refine WL_step rfl rfl (r_lss rfl rfl) ?_
      refine WL_nil ?_
      refine thn_nrm (_hK_21 _ _ ?_)
      clear _hK_21
      refine W_cond rfl (fun _h29 => ?_) (fun _h29 => ?_)
      · have _kb_22 := _h29
        have _h29 := bt_d _h29
        first | have _v29 := held_pos _h29 | skip
        refine W_seq fun _K_23 _hK_23 => ?_
        refine W_region ?_
        refine WL_step rfl rfl (r_assign rfl) ?_
        refine WL_nil ?_
        refine thn_nrm (_hK_23 _ _ ?_)
        clear _hK_23
        refine W_ret (inB_ret (thn_ret (thn_ret (inB_ret (thn_ret ?_)))))
        clear _hK_2 _hK_8
        exact ret_intro [_] ⟨rfl, trivial⟩ ⟨congrArg (Value.int .i64) (by first | exact heldGR_n (held_bad _hys14 hq (fun c => held_neg _h20 (by omega) c.1)) | exact heldGR_n (held_bad _hys14 hq (fun c => held_neg _h29 (by rw [_v20.2]; omega) (by rw [_v20.2, ← _u23]; exact c.2))) | exact heldGR_y _ht hq (by omega)), E⟩
      · have _kb_22 := _h29
        have _h29 := bf_d _h29
        first | have _v29 := held_pos _h29 | skip
        refine W_skip ?_
        refine inB_nrm ?_
        refine thn_nrm (_hK_8 _ _ ?_)
        clear _hK_8
        refine W_region ?_
        refine WL_step rfl rfl (r_move rfl) ?_
        refine WL_step rfl rfl (r_add (by omega) rfl rfl) ?_
        refine WL_step rfl rfl (r_assign rfl) ?_
        refine WL_nil ?_
        exact thn_nrm (Exists.intro ((i + 1), (if _ys23.E = mkGEdge (if _ys14.V = mkInt kk _ys14.V.length then kk + _ys14.V.length else -1) _ys23.E.length then (if _ys14.V = mkInt kk _ys14.V.length then kk + _ys14.V.length else -1) + 4 * _ys23.E.length else -1)) ⟨⟨E, (by omega), (by omega), (by rw [_v29.2, _v20.2]; omega), (held_gs _ht _hys14 hq _v20.1 (by have _z9 := _v29.1; rw [_v20.2, ← _u23] at _z9; exact _z9))⟩, Sub.cons rfl (Sub.cons rfl (Sub.cons rfl (Sub.nil _))), (by first | omega | (dsimp only; omega))⟩)
  · have _kb_7 := _h9
    have _h9 := bf_d _h9
    refine W_exit (thn_exit (thn_exit (inB_hit ?_)))
    refine thn_nrm (_hK_2 _ _ ?_)
    clear _hK_2
    refine W_seq fun _K_24 _hK_24 => ?_
    refine W_region ?_
    refine WL_step rfl rfl (r_move rfl) ?_
    refine WL_step rfl rfl (r_assign rfl) ?_
    refine WL_nil ?_
    refine thn_nrm (_hK_24 _ _ ?_)
    clear _hK_24
    refine W_ret ?_
    clear _hK_5
    exact ret_intro [_] ⟨rfl, trivial⟩ ⟨congrArg (Value.int .i64) (by first | exact heldGR_n (held_bad _hys14 hq (fun c => held_neg _h20 (by omega) c.1)) | exact heldGR_n (held_bad _hys14 hq (fun c => held_neg _h29 (by rw [_v20.2]; omega) (by rw [_v20.2, ← _u23]; exact c.2))) | exact heldGR_y _ht hq (by omega)), E⟩

/-- laws.heldHistory -/
theorem c_laws_heldHistory {w : World} (aF : Int) {LL_saG _B_saG : Nat} {_v_saG : Value} {saG : List Gv} (_h_saG : Ls Gv.cs 2 w LL_saG _B_saG _v_saG saG) {LR_aG BB_aG : Nat} {aG : List GD} (_rd_aG : RdG w LR_aG BB_aG saG aG) (k : Int) (_hk0 : 0 ≤ k) (hkk : k + 4 * gsize aG ≤ 4611686018427387904) :
    Ctr Try.prog 15 #[(.agg #[(.int .i64 aF), _v_saG]), (.int .i64 k)] w (fun v w' => v = .int .i64 (heldGR k aG) ∧ Ch [] w w') := by
  obtain ⟨_A_saG, _C_saG, _e1_saG⟩ := _h_saG.val
  subst _e1_saG
  have _l_saG := _h_saG.len
  have _h_saG := _h_saG.here (by decide)
  have _rd_aG := _rd_aG.here
  have _rl_aG := _rd_aG.1
  have E := Ch.refl [] w
  refine Ctr_of_W (N := 12) (vs0 := [(.agg #[(.int .i64 aF), (.slice _A_saG saG.length _C_saG)]), (.int .i64 k)]) Try.func15 rfl rfl rfl ?_
  refine W_seq fun _K_1 _hK_1 => ?_
  refine W_region ?_
  refine WL_s rfl rfl ?_
  refine s_box rfl fun _b2 _w_2 _m2 _cw_2 _e2 => ?_
  have _cw_2z := _cw_2.size
  have E := E.trans _cw_2
  have _z2 := _m2.lt
  replace _m2 : Blk _w_2 _b2 28 [(.int .i64 aF), (.slice _A_saG saG.length _C_saG)] := _m2
  refine WL_step rfl rfl (r_assign rfl) ?_
  refine WL_nil ?_
  refine thn_nrm (_hK_1 _ _ ?_)
  clear _hK_1
  refine W_seq fun _K_3 _hK_3 => ?_
  refine W_region ?_
  refine WL_step rfl rfl (r_fieldAddr fa28_1 rfl) ?_
  refine WL_step rfl rfl (r_loadAt _m2.at_ agg26 rfl rfl) ?_
  refine WL_step rfl rfl (r_move rfl) ?_
  refine WL_s rfl rfl ?_
  have _f_4 := (_h_saG.ch0 _cw_2)
  have _f_5 := (_rd_aG.ch0 _cw_2)
  refine Step.call (r_call (xs := [.tmp 6, .tmp 7]) fk63 rfl) (c_laws_heldGraphS _f_4 _f_5 _ (by omega) (by first | omega | (simp <;> omega))) fun _v8 _w_6 _q8 => ?_
  obtain ⟨rfl, _cw_6⟩ := _q8
  have _cw_6z := _cw_6.size
  have E := E.trans _cw_6
  refine WL_step rfl rfl (r_assign rfl) ?_
  refine WL_nil ?_
  refine thn_nrm (_hK_3 _ _ ?_)
  clear _hK_3
  refine W_seq fun _K_7 _hK_7 => ?_
  refine W_seq fun _K_8 _hK_8 => ?_
  refine W_region ?_
  refine WL_step rfl rfl (r_move rfl) ?_
  refine WL_step rfl rfl (r_lss rfl rfl) ?_
  refine WL_nil ?_
  refine thn_nrm (_hK_8 _ _ ?_)
  clear _hK_8
  refine W_cond rfl (fun _h10 => ?_) (fun _h10 => ?_)
  · have _kb_9 := _h10
    have _h10 := bt_d _h10
    refine W_seq fun _K_10 _hK_10 => ?_
    refine W_region ?_
    refine WL_step rfl rfl (r_assign rfl) ?_
    refine WL_nil ?_
    refine thn_nrm (_hK_10 _ _ ?_)
    clear _hK_10
    refine W_ret (thn_ret ?_)
    clear _hK_7
    exact ret_intro [_] ⟨rfl, trivial⟩ ⟨congrArg (Value.int .i64) (by first | rfl | exact heldGR_neg (by omega) (by omega)), E⟩
  · have _kb_9 := _h10
    have _h10 := bf_d _h10
    refine W_skip ?_
    refine thn_nrm (_hK_7 _ _ ?_)
    clear _hK_7
    refine W_seq fun _K_11 _hK_11 => ?_
    refine W_region ?_
    refine WL_step rfl rfl (r_move rfl) ?_
    refine WL_step rfl rfl (r_assign rfl) ?_
    refine WL_nil ?_
    refine thn_nrm (_hK_11 _ _ ?_)
    clear _hK_11
    refine W_ret ?_
    exact ret_intro [_] ⟨rfl, trivial⟩ ⟨congrArg (Value.int .i64) (by first | rfl | exact heldGR_neg (by omega) (by omega)), E⟩

/-- laws.markEdgeS -/
theorem c_laws_markEdgeS {w : World} {e_a : Nat} {_v_a : Value} {a : List GEdge} (_h_a : Ol GEdge.cs e_a 4 w _v_a a) (k : Int) (_hk0 : 0 ≤ k) (hkk : k + 4 * a.length ≤ 4611686018427387904) :
    Ctr Try.prog 92 #[_v_a, (.int .i64 k)] w (fun v w' => v = .int .i64 (k + 4 * a.length) ∧ Ol GEdge.cs e_a 4 w' _v_a (mkGEdge k a.length) ∧ Ch (bl _v_a) w w') := by
  obtain ⟨_A_a, _C_a, _e1_a⟩ := _h_a.val
  subst _e1_a
  have _l_a := _h_a.len
  have _lt_a := _h_a.lt
  have E := Ch.refl (bl (.slice _A_a a.length _C_a)) w
  refine Ctr_of_W (N := 41) (vs0 := [(.slice _A_a a.length _C_a), (.int .i64 k)]) Try.func92 rfl rfl rfl ?_
  refine W_seq fun _K_1 _hK_1 => ?_
  refine W_region ?_
  refine WL_step rfl rfl (r_assign rfl) ?_
  refine WL_nil ?_
  refine thn_nrm (_hK_1 _ _ ?_)
  clear _hK_1
  refine W_seq fun _K_2 _hK_2 => ?_
  refine W_seq fun _K_3 _hK_3 => ?_
  refine W_region ?_
  refine WL_step rfl rfl (r_assign rfl) ?_
  refine WL_nil ?_
  refine thn_nrm (_hK_3 _ _ ?_)
  clear _hK_3
  refine W_block ?_
  have _oi_4 : Ol GEdge.cs e_a 4 w (.slice _A_a a.length _C_a) (mkGEdge k 0 ++ a.drop 0) := by
    have hx := _h_a
    simpa [mkGEdge] using hx
  refine W_loop (σ := Nat × Int) (fun ⟨i, kk⟩ => [(0, (.slice _A_a a.length _C_a)), (1, (.int .i64 kk)), (4, (.int .i64 0)), (5, (.int .i64 ((i : Nat) : Int)))]) (fun ⟨i, kk⟩ wx => Ch (bl (.slice _A_a a.length _C_a)) w wx ∧ w.heap.size ≤ wx.heap.size ∧ (i ≤ a.length) ∧ (kk = k + 4 * i) ∧ Ol GEdge.cs e_a 4 wx (.slice _A_a a.length _C_a) (mkGEdge k i ++ a.drop i)) (fun ⟨i, kk⟩ => a.length - i) (0, k) (Sub.cons rfl (Sub.cons rfl (Sub.cons rfl (Sub.cons rfl (Sub.nil _))))) ⟨E, (Nat.le_refl _), (by omega), (by omega), _oi_4⟩ ?_
  rintro ⟨i, kk⟩ _wr_5 ⟨E, _zz0, hi, hq, _o0_0⟩
  have _E0h := E
  have _E0hz := _E0h.size
  refine W_seq fun _K_6 _hK_6 => ?_
  refine W_seq fun _K_7 _hK_7 => ?_
  refine W_region ?_
  refine WL_step rfl rfl (r_move rfl) ?_
  refine WL_step rfl rfl (r_move rfl) ?_
  refine WL_step rfl rfl (r_len (by rw [el55]; rfl) rfl) ?_
  refine WL_step rfl rfl (r_lss rfl rfl) ?_
  refine WL_nil ?_
  refine thn_nrm (_hK_7 _ _ ?_)
  clear _hK_7
  refine W_cond rfl (fun _h9 => ?_) (fun _h9 => ?_)
  · have _kb_8 := _h9
    have _h9 := bt_d _h9
    refine W_skip ?_
    refine thn_nrm (_hK_6 _ _ ?_)
    clear _hK_6
    refine W_seq fun _K_9 _hK_9 => ?_
    refine W_block ?_
    refine W_seq fun _K_10 _hK_10 => ?_
    refine W_region ?_
    refine WL_step rfl rfl (r_move rfl) ?_
    refine WL_step rfl rfl (r_move rfl) ?_
    refine WL_step rfl rfl (r_move rfl) ?_
    refine WL_s rfl rfl ?_
    refine s_indexO (j := i) _o0_0 el55 sz168 rfl rfl rfl (by first | omega | (simp [mkGEdge] <;> omega)) fun _g15 _o15 _cp15 _q15 => ?_
    refine WL_step rfl rfl (r_fieldAddr fa168_0 rfl) ?_
    refine WL_s rfl rfl ?_
    obtain ⟨ye_13, hy_14⟩ := get_some (xs := mkGEdge k i ++ a.drop i) (j := i) (by first | omega | (simp [mkGEdge] <;> omega))
    refine s_storeF (j := i) 0 (⟨ye_13.id, ye_13.f, ye_13.t, ye_13.label⟩ : GEdge) (⟨kk, ye_13.f, ye_13.t, ye_13.label⟩ : GEdge) _o0_0 _q15 hy_14 GEdge.len rfl sz3 rfl rfl rfl rfl fun _w_11 _o_12 _cw_11 => ?_
    have _cw_11z := _cw_11.size
    have E := E.trans _cw_11
    refine WL_nil ?_
    refine thn_nrm (_hK_10 _ _ ?_)
    clear _hK_10
    refine W_seq fun _K_15 _hK_15 => ?_
    refine W_region ?_
    refine WL_step rfl rfl (r_move rfl) ?_
    refine WL_step rfl rfl (r_add (by omega) rfl rfl) ?_
    refine WL_step rfl rfl (r_assign rfl) ?_
    refine WL_nil ?_
    refine thn_nrm (_hK_15 _ _ ?_)
    clear _hK_15
    refine W_seq fun _K_16 _hK_16 => ?_
    refine W_region ?_
    refine WL_step rfl rfl (r_move rfl) ?_
    refine WL_step rfl rfl (r_move rfl) ?_
    refine WL_step rfl rfl (r_move rfl) ?_
    refine WL_s rfl rfl ?_
    refine s_indexO (j := i) _o_12 el55 sz168 rfl rfl rfl (by first | omega | (simp [mkGEdge] <;> omega)) fun _g22 _o22 _cp22 _q22 => ?_
    refine WL_step rfl rfl (r_fieldAddr fa168_1 rfl) ?_
    refine WL_s rfl rfl ?_
    refine s_storeF (j := i) 1 (⟨kk, ye_13.f, ye_13.t, ye_13.label⟩ : GEdge) (⟨kk, (kk + 1), ye_13.t, ye_13.label⟩ : GEdge) _o_12 _q22 (get_set hy_14 _) GEdge.len rfl sz3 rfl rfl rfl rfl fun _w_17 _o_18 _cw_17 => ?_
    rw [List.set_set] at _o_18
    have _cw_17z := _cw_17.size
    have E := E.trans _cw_17
    refine WL_nil ?_
    refine thn_nrm (_hK_16 _ _ ?_)
    clear _hK_16
    refine W_seq fun _K_19 _hK_19 => ?_
    refine W_region ?_
    refine WL_step rfl rfl (r_move rfl) ?_
    refine WL_step rfl rfl (r_add (by omega) rfl rfl) ?_
    refine WL_step rfl rfl (r_assign rfl) ?_
    refine WL_nil ?_
    refine thn_nrm (_hK_19 _ _ ?_)
    clear _hK_19
    refine W_seq fun _K_20 _hK_20 => ?_
    refine W_region ?_
    refine WL_step rfl rfl (r_move rfl) ?_
    refine WL_step rfl rfl (r_move rfl) ?_
    refine WL_step rfl rfl (r_move rfl) ?_
    refine WL_s rfl rfl ?_
    refine s_indexO (j := i) _o_18 el55 sz168 rfl rfl rfl (by first | omega | (simp [mkGEdge] <;> omega)) fun _g29 _o29 _cp29 _q29 => ?_
    refine WL_step rfl rfl (r_fieldAddr fa168_2 rfl) ?_
    refine WL_s rfl rfl ?_
    refine s_storeF (j := i) 2 (⟨kk, (kk + 1), ye_13.t, ye_13.label⟩ : GEdge) (⟨kk, (kk + 1), ((kk + 1) + 1), ye_13.label⟩ : GEdge) _o_18 _q29 (get_set hy_14 _) GEdge.len rfl sz3 rfl rfl rfl rfl fun _w_21 _o_22 _cw_21 => ?_
    rw [List.set_set] at _o_22
    have _cw_21z := _cw_21.size
    have E := E.trans _cw_21
    refine WL_nil ?_
    refine thn_nrm (_hK_20 _ _ ?_)
    clear _hK_20
    refine W_seq fun _K_23 _hK_23 => ?_
    refine W_region ?_
    refine WL_step rfl rfl (r_move rfl) ?_
    refine WL_step rfl rfl (r_add (by omega) rfl rfl) ?_
    refine WL_step rfl rfl (r_assign rfl) ?_
    refine WL_nil ?_
    refine thn_nrm (_hK_23 _ _ ?_)
    clear _hK_23
    refine W_seq fun _K_24 _hK_24 => ?_
    refine W_region ?_
    refine WL_step rfl rfl (r_move rfl) ?_
    refine WL_step rfl rfl (r_move rfl) ?_
    refine WL_step rfl rfl (r_move rfl) ?_
    refine WL_s rfl rfl ?_
    refine s_indexO (j := i) _o_22 el55 sz168 rfl rfl rfl (by first | omega | (simp [mkGEdge] <;> omega)) fun _g36 _o36 _cp36 _q36 => ?_
    refine WL_step rfl rfl (r_fieldAddr fa168_3 rfl) ?_
    refine WL_s rfl rfl ?_
    refine s_storeF (j := i) 3 (⟨kk, (kk + 1), ((kk + 1) + 1), ye_13.label⟩ : GEdge) (⟨kk, (kk + 1), ((kk + 1) + 1), (((kk + 1) + 1) + 1)⟩ : GEdge) _o_22 _q36 (get_set hy_14 _) GEdge.len rfl sz3 rfl rfl rfl rfl fun _w_25 _o_26 _cw_25 => ?_
    rw [List.set_set] at _o_26
    have _cw_25z := _cw_25.size
    have E := E.trans _cw_25
    refine WL_nil ?_
    refine thn_nrm (_hK_24 _ _ ?_)
    clear _hK_24
    refine W_region ?_
    refine WL_step rfl rfl (r_move rfl) ?_
    refine WL_step rfl rfl (r_add (by omega) rfl rfl) ?_
    refine WL_step rfl rfl (r_assign rfl) ?_
    refine WL_nil ?_
    refine inB_nrm ?_
    refine thn_nrm (_hK_9 _ _ ?_)
    clear _hK_9
    refine W_region ?_
    refine WL_step rfl rfl (r_move rfl) ?_
    refine WL_step rfl rfl (r_add (by omega) rfl rfl) ?_
    refine WL_step rfl rfl (r_assign rfl) ?_
    refine WL_nil ?_
    have _on_27 : Ol GEdge.cs e_a 4 _w_25 (.slice _A_a a.length _C_a) (mkGEdge k (i + 1) ++ a.drop (i + 1)) := by
      have hx := _o_26
      rwa [mkGEdge_step a (by omega) hq] at hx
    exact thn_nrm (Exists.intro ((i + 1), ((((kk + 1) + 1) + 1) + 1)) ⟨⟨E, (by omega), (by omega), (by omega), _on_27⟩, Sub.cons rfl (Sub.cons rfl (Sub.cons rfl (Sub.cons rfl (Sub.nil _)))), (by first | omega | (dsimp only; omega))⟩)
  · have _kb_8 := _h9
    have _h9 := bf_d _h9
    refine W_exit (thn_exit (thn_exit (inB_hit ?_)))
    refine thn_nrm (_hK_2 _ _ ?_)
    clear _hK_2
    refine W_seq fun _K_28 _hK_28 => ?_
    refine W_region ?_
    refine WL_step rfl rfl (r_move rfl) ?_
    refine WL_step rfl rfl (r_assign rfl) ?_
    refine WL_nil ?_
    refine thn_nrm (_hK_28 _ _ ?_)
    clear _hK_28
    refine W_ret ?_
    clear _hK_6
    have _o_29 : Ol GEdge.cs e_a 4 _wr_5 (.slice _A_a a.length _C_a) (mkGEdge k a.length) := by
      have hx := _o0_0
      have _e1 : i = a.length := (by omega); subst _e1; simpa using hx
    exact ret_intro [_] ⟨rfl, trivial⟩ ⟨congrArg (Value.int .i64) (by omega), _o_29, E⟩

/-- laws.markIntS -/
theorem c_laws_markIntS {w : World} {e_a : Nat} {_v_a : Value} {a : List Int} (_h_a : Ol ics e_a 1 w _v_a a) (k : Int) (_hk0 : 0 ≤ k) (hkk : k + a.length ≤ 4611686018427387904) :
    Ctr Try.prog 91 #[_v_a, (.int .i64 k)] w (fun v w' => v = .int .i64 (k + a.length) ∧ Ol ics e_a 1 w' _v_a (mkInt k a.length) ∧ Ch (bl _v_a) w w') := by
  obtain ⟨_A_a, _C_a, _e1_a⟩ := _h_a.val
  subst _e1_a
  have _l_a := _h_a.len
  have _lt_a := _h_a.lt
  have E := Ch.refl (bl (.slice _A_a a.length _C_a)) w
  refine Ctr_of_W (N := 19) (vs0 := [(.slice _A_a a.length _C_a), (.int .i64 k)]) Try.func91 rfl rfl rfl ?_
  refine W_seq fun _K_1 _hK_1 => ?_
  refine W_region ?_
  refine WL_step rfl rfl (r_assign rfl) ?_
  refine WL_nil ?_
  refine thn_nrm (_hK_1 _ _ ?_)
  clear _hK_1
  refine W_seq fun _K_2 _hK_2 => ?_
  refine W_seq fun _K_3 _hK_3 => ?_
  refine W_region ?_
  refine WL_step rfl rfl (r_assign rfl) ?_
  refine WL_nil ?_
  refine thn_nrm (_hK_3 _ _ ?_)
  clear _hK_3
  refine W_block ?_
  have _oi_4 : Ol ics e_a 1 w (.slice _A_a a.length _C_a) (mkInt k 0 ++ a.drop 0) := by
    have hx := _h_a
    simpa [mkInt] using hx
  refine W_loop (σ := Nat × Int) (fun ⟨i, kk⟩ => [(0, (.slice _A_a a.length _C_a)), (1, (.int .i64 kk)), (4, (.int .i64 0)), (5, (.int .i64 ((i : Nat) : Int)))]) (fun ⟨i, kk⟩ wx => Ch (bl (.slice _A_a a.length _C_a)) w wx ∧ w.heap.size ≤ wx.heap.size ∧ (i ≤ a.length) ∧ (kk = k + i) ∧ Ol ics e_a 1 wx (.slice _A_a a.length _C_a) (mkInt k i ++ a.drop i)) (fun ⟨i, kk⟩ => a.length - i) (0, k) (Sub.cons rfl (Sub.cons rfl (Sub.cons rfl (Sub.cons rfl (Sub.nil _))))) ⟨E, (Nat.le_refl _), (by omega), (by omega), _oi_4⟩ ?_
  rintro ⟨i, kk⟩ _wr_5 ⟨E, _zz0, hi, hq, _o0_0⟩
  have _E0h := E
  have _E0hz := _E0h.size
  refine W_seq fun _K_6 _hK_6 => ?_
  refine W_seq fun _K_7 _hK_7 => ?_
  refine W_region ?_
  refine WL_step rfl rfl (r_move rfl) ?_
  refine WL_step rfl rfl (r_move rfl) ?_
  refine WL_step rfl rfl (r_len (by rw [el43]; rfl) rfl) ?_
  refine WL_step rfl rfl (r_lss rfl rfl) ?_
  refine WL_nil ?_
  refine thn_nrm (_hK_7 _ _ ?_)
  clear _hK_7
  refine W_cond rfl (fun _h9 => ?_) (fun _h9 => ?_)
  · have _kb_8 := _h9
    have _h9 := bt_d _h9
    refine W_skip ?_
    refine thn_nrm (_hK_6 _ _ ?_)
    clear _hK_6
    refine W_seq fun _K_9 _hK_9 => ?_
    refine W_block ?_
    refine W_seq fun _K_10 _hK_10 => ?_
    refine W_region ?_
    refine WL_step rfl rfl (r_move rfl) ?_
    refine WL_step rfl rfl (r_move rfl) ?_
    refine WL_step rfl rfl (r_move rfl) ?_
    refine WL_s rfl rfl ?_
    refine s_indexO (j := i) _o0_0 el43 sz3 rfl rfl rfl (by first | omega | (simp [mkInt] <;> omega)) fun _g15 _o15 _cp15 _q15 => ?_
    refine WL_s rfl rfl ?_
    refine s_storeO (j := i) kk _o0_0 _q15 ics_len sz3 rfl rfl rfl rfl (by first | omega | (simp [mkInt] <;> omega)) fun _w_11 _o_12 _cw_11 => ?_
    have _cw_11z := _cw_11.size
    have E := E.trans _cw_11
    refine WL_nil ?_
    refine thn_nrm (_hK_10 _ _ ?_)
    clear _hK_10
    refine W_region ?_
    refine WL_step rfl rfl (r_move rfl) ?_
    refine WL_step rfl rfl (r_add (by omega) rfl rfl) ?_
    refine WL_step rfl rfl (r_assign rfl) ?_
    refine WL_nil ?_
    refine inB_nrm ?_
    refine thn_nrm (_hK_9 _ _ ?_)
    clear _hK_9
    refine W_region ?_
    refine WL_step rfl rfl (r_move rfl) ?_
    refine WL_step rfl rfl (r_add (by omega) rfl rfl) ?_
    refine WL_step rfl rfl (r_assign rfl) ?_
    refine WL_nil ?_
    have _on_13 : Ol ics e_a 1 _w_11 (.slice _A_a a.length _C_a) (mkInt k (i + 1) ++ a.drop (i + 1)) := by
      have hx := _o_12
      rwa [mkInt_step a (by omega) hq] at hx
    exact thn_nrm (Exists.intro ((i + 1), (kk + 1)) ⟨⟨E, (by omega), (by omega), (by omega), _on_13⟩, Sub.cons rfl (Sub.cons rfl (Sub.cons rfl (Sub.cons rfl (Sub.nil _)))), (by first | omega | (dsimp only; omega))⟩)
  · have _kb_8 := _h9
    have _h9 := bf_d _h9
    refine W_exit (thn_exit (thn_exit (inB_hit ?_)))
    refine thn_nrm (_hK_2 _ _ ?_)
    clear _hK_2
    refine W_seq fun _K_14 _hK_14 => ?_
    refine W_region ?_
    refine WL_step rfl rfl (r_move rfl) ?_
    refine WL_step rfl rfl (r_assign rfl) ?_
    refine WL_nil ?_
    refine thn_nrm (_hK_14 _ _ ?_)
    clear _hK_14
    refine W_ret ?_
    clear _hK_6
    have _o_15 : Ol ics e_a 1 _wr_5 (.slice _A_a a.length _C_a) (mkInt k a.length) := by
      have hx := _o0_0
      have _e1 : i = a.length := (by omega); subst _e1; simpa using hx
    exact ret_intro [_] ⟨rfl, trivial⟩ ⟨congrArg (Value.int .i64) (by omega), _o_15, E⟩

/-- laws.markGraphS -/
theorem c_laws_markGraphS {w : World} {e_sa ea_a eb_a lo9_a hi9_a : Nat} {_v_sa : Value} {sa : List Gv} {a : List GD} (_h_sa : Ol Gv.cs e_sa 2 w _v_sa sa) (_od_a : OdG ea_a eb_a w lo9_a hi9_a sa a) (_ro_a : ∀ g ∈ bl _v_sa, lo9_a ≤ g ∧ g < hi9_a) (_sp_a : SepH _v_sa sa) (_hh_a : hi9_a ≤ w.heap.size) (k : Int) (_hk0 : 0 ≤ k) (hkk : k + 4 * gsize a ≤ 4611686018427387904) :
    Ctr Try.prog 62 #[_v_sa, (.int .i64 k)] w (fun v w' => v = .int .i64 (k + gmark a) ∧ OdG ea_a eb_a w' lo9_a hi9_a sa (mkGS k a) ∧ Ol Gv.cs e_sa 2 w' _v_sa sa ∧ Ch (Rg lo9_a hi9_a) w w') := by
  obtain ⟨_A_sa, _C_sa, _e1_sa⟩ := _h_sa.val
  subst _e1_sa
  have _l_sa := _h_sa.len
  have _lo_sa : Lo lo9_a (.slice _A_sa sa.length _C_sa) := fun g hg => (_ro_a g hg).1
  have hi_sa : ∀ g ∈ bl (.slice _A_sa sa.length _C_sa), g < hi9_a := fun g hg => (_ro_a g hg).2
  have _rl_a := _od_a.1
  have E := Ch.refl (Rg lo9_a hi9_a) w
  refine Ctr_of_W (N := 27) (vs0 := [(.slice _A_sa sa.length _C_sa), (.int .i64 k)]) Try.func62 rfl rfl rfl ?_
  refine W_seq fun _K_1 _hK_1 => ?_
  refine W_region ?_
  refine WL_step rfl rfl (r_assign rfl) ?_
  refine WL_nil ?_
  refine thn_nrm (_hK_1 _ _ ?_)
  clear _hK_1
  refine W_seq fun _K_2 _hK_2 => ?_
  refine W_seq fun _K_3 _hK_3 => ?_
  refine W_region ?_
  refine WL_step rfl rfl (r_assign rfl) ?_
  refine WL_nil ?_
  refine thn_nrm (_hK_3 _ _ ?_)
  clear _hK_3
  refine W_block ?_
  refine W_loop (σ := Nat × Int × List GD) (fun ⟨i, kk, zs⟩ => [(0, (.slice _A_sa sa.length _C_sa)), (1, (.int .i64 kk)), (4, (.int .i64 0)), (5, (.int .i64 ((i : Nat) : Int)))]) (fun ⟨i, kk, zs⟩ wx => Ch (Rg lo9_a hi9_a) w wx ∧ w.heap.size ≤ wx.heap.size ∧ (i ≤ a.length) ∧ (kk = k + gmark (a.take i)) ∧ (zs = mkGS k (a.take i) ++ a.drop i) ∧ Ol Gv.cs e_sa 2 wx (.slice _A_sa sa.length _C_sa) sa ∧ OdG ea_a eb_a wx lo9_a hi9_a sa zs) (fun ⟨i, kk, zs⟩ => a.length - i) (0, k, a) (Sub.cons rfl (Sub.cons rfl (Sub.cons rfl (Sub.cons rfl (Sub.nil _))))) ⟨E, (Nat.le_refl _), (by omega), (by simp [gmark]), (by simp [mkGS]), _h_sa, _od_a⟩ ?_
  rintro ⟨i, kk, zs⟩ _wr_4 ⟨E, _zz0, hi, hq, hz, _F0_0, od⟩
  have _E0h := E
  have _E0hz := _E0h.size
  refine W_seq fun _K_5 _hK_5 => ?_
  refine W_seq fun _K_6 _hK_6 => ?_
  refine W_region ?_
  refine WL_step rfl rfl (r_move rfl) ?_
  refine WL_step rfl rfl (r_move rfl) ?_
  refine WL_step rfl rfl (r_len (by rw [el26]; rfl) rfl) ?_
  refine WL_step rfl rfl (r_lss rfl rfl) ?_
  refine WL_nil ?_
  refine thn_nrm (_hK_6 _ _ ?_)
  clear _hK_6
  refine W_cond rfl (fun _h9 => ?_) (fun _h9 => ?_)
  · have _kb_7 := _h9
    have _h9 := bt_d _h9
    refine W_skip ?_
    refine thn_nrm (_hK_5 _ _ ?_)
    clear _hK_5
    refine W_seq fun _K_8 _hK_8 => ?_
    refine W_block ?_
    refine W_seq fun _K_9 _hK_9 => ?_
    refine W_region ?_
    refine WL_step rfl rfl (r_move rfl) ?_
    refine WL_step rfl rfl (r_move rfl) ?_
    refine WL_s rfl rfl ?_
    refine (s_index _F0_0.ls Gv.len el26 sz57 rfl rfl rfl (by omega) fun _p14 _y14 _hy14 _a14 => ?_)
    have _sm14 := _sp_a _ (mem_of_get _hy14)
    have _hyo14 := _hy14
    obtain ⟨_ys14, _hys14, _fs14, fe14, _rs14, re14, dd14⟩ := od.get _hy14
    obtain ⟨⟨_A14, _n14, _C14⟩, ⟨Ae14, ne14, Ce14⟩⟩ := _y14
    obtain rfl := _fs14.ls.eqn
    obtain rfl := fe14.ls.eqn
    have _l14 := _fs14.len
    have le14 := fe14.len
    have _lo14 : Lo lo9_a (.slice _A14 _ys14.V.length _C14) := fun g hg => (_rs14 g hg).1
    have hi14 : ∀ g ∈ bl (.slice _A14 _ys14.V.length _C14), g < hi9_a := fun g hg => (_rs14 g hg).2
    replace _fs14 : Ol ics ea_a 1 _wr_4 (.slice _A14 _ys14.V.length _C14) _ys14.V := _fs14
    have _lo214 : Lo lo9_a (.slice Ae14 _ys14.E.length Ce14) := fun g hg => (re14 g hg).1
    have hi214 : ∀ g ∈ bl (.slice Ae14 _ys14.E.length Ce14), g < hi9_a := fun g hg => (re14 g hg).2
    replace fe14 : Ol GEdge.cs eb_a 4 _wr_4 (.slice Ae14 _ys14.E.length Ce14) _ys14.E := fe14
    have hz9 := mkGS_at hz hi (Nat.le_refl _) _hys14
    have fl9 := gmark_take hz9
    have gl9 := gmark_le hz9
    refine WL_step rfl rfl (r_fieldAddr fa57_0 rfl) ?_
    refine WL_step rfl rfl (r_loadAt _a14 agg43 rfl rfl) ?_
    refine WL_step rfl rfl (r_move rfl) ?_
    refine WL_s rfl rfl ?_
    refine Step.call (r_call (xs := [.tmp 16, .tmp 17]) fk91 rfl) (c_laws_markIntS _fs14 _ (by omega) (by first | omega | (simp <;> omega))) fun _v18 _w_10 _q18 => ?_
    obtain ⟨rfl, _q18, _cw_10⟩ := _q18
    have _cw_10z := _cw_10.size
    have E := E.step _cw_10 (fun i hm => by have _h1 := _lo14 _ hm; have _h2 := hi14 _ hm; first | (left; omega) | (right; exact rg_mem (by omega)))
    have ov9 := OdG.setV od _hyo14 _hys14 _cw_10 _q18
    refine WL_step rfl rfl (r_assign rfl) ?_
    refine WL_nil ?_
    refine thn_nrm (_hK_9 _ _ ?_)
    clear _hK_9
    refine W_region ?_
    refine WL_step rfl rfl (r_move rfl) ?_
    refine WL_step rfl rfl (r_move rfl) ?_
    refine WL_s rfl rfl ?_
    have _f_11 := (_F0_0.ch _cw_10 (fun g hg hm => by exact _sm14.1 _ hm hg))
    refine (s_index _f_11.ls Gv.len el26 sz57 rfl rfl rfl (by omega) fun _p21 _y21 _hy21 _a21 => ?_)
    have _sm21 := _sp_a _ (mem_of_get _hy21)
    have _hyo21 := _hy21
    obtain ⟨_ys21, _hys21, _fs21, fe21, _rs21, re21, dd21⟩ := ov9.get _hy21
    obtain ⟨⟨_A21, _n21, _C21⟩, ⟨Ae21, ne21, Ce21⟩⟩ := _y21
    obtain rfl := _fs21.ls.eqn
    obtain rfl := fe21.ls.eqn
    have _l21 := _fs21.len
    have le21 := fe21.len
    have _lo21 : Lo lo9_a (.slice _A21 _ys21.V.length _C21) := fun g hg => (_rs21 g hg).1
    have hi21 : ∀ g ∈ bl (.slice _A21 _ys21.V.length _C21), g < hi9_a := fun g hg => (_rs21 g hg).2
    replace _fs21 : Ol ics ea_a 1 _w_10 (.slice _A21 _ys21.V.length _C21) _ys21.V := _fs21
    have _lo221 : Lo lo9_a (.slice Ae21 _ys21.E.length Ce21) := fun g hg => (re21 g hg).1
    have hi221 : ∀ g ∈ bl (.slice Ae21 _ys21.E.length Ce21), g < hi9_a := fun g hg => (re21 g hg).2
    replace fe21 : Ol GEdge.cs eb_a 4 _w_10 (.slice Ae21 _ys21.E.length Ce21) _ys21.E := fe21
    have _e21 := set_el _hys14 _hys21
    have _e22 := congrArg (fun z => z.E.length) _e21
    dsimp only at _e22
    refine WL_step rfl rfl (r_fieldAddr fa57_1 rfl) ?_
    refine WL_step rfl rfl (r_loadAt _a21 agg55 rfl rfl) ?_
    refine WL_step rfl rfl (r_move rfl) ?_
    refine WL_s rfl rfl ?_
    refine Step.call (r_call (xs := [.tmp 23, .tmp 24]) fk92 rfl) (c_laws_markEdgeS fe21 _ (by omega) (by first | omega | (simp <;> omega))) fun _v25 _w_12 _q25 => ?_
    obtain ⟨rfl, _q25, _cw_12⟩ := _q25
    have _cw_12z := _cw_12.size
    have E := E.step _cw_12 (fun i hm => by have _h1 := _lo221 _ hm; have _h2 := hi221 _ hm; first | (left; omega) | (right; exact rg_mem (by omega)))
    refine WL_step rfl rfl (r_assign rfl) ?_
    refine WL_nil ?_
    refine inB_nrm ?_
    refine thn_nrm (_hK_8 _ _ ?_)
    clear _hK_8
    refine W_region ?_
    refine WL_step rfl rfl (r_move rfl) ?_
    refine WL_step rfl rfl (r_add (by omega) rfl rfl) ?_
    refine WL_step rfl rfl (r_assign rfl) ?_
    refine WL_nil ?_
    have _f_13 := (_f_11.ch _cw_12 (fun g hg hm => by exact _sm21.2 _ hm hg))
    exact thn_nrm (Exists.intro ((i + 1), ((kk + _ys14.V.length) + 4 * _ys21.E.length), (((zs.set i ⟨mkInt kk _ys14.V.length, _ys14.E⟩)).set i ⟨_ys21.V, mkGEdge (kk + _ys14.V.length) _ys21.E.length⟩)) ⟨⟨E, (by omega), (by omega), (by omega), (by rw [List.set_set, _e21]; exact mkGS_set hz hz9 hq), _f_13, (OdG.setE ov9 _hyo21 _hys21 _cw_12 _q25)⟩, Sub.cons rfl (Sub.cons rfl (Sub.cons rfl (Sub.cons rfl (Sub.nil _)))), (by first | omega | (dsimp only; omega))⟩)
  · have _kb_7 := _h9
    have _h9 := bf_d _h9
    refine W_exit (thn_exit (thn_exit (inB_hit ?_)))
    refine thn_nrm (_hK_2 _ _ ?_)
    clear _hK_2
    refine W_seq fun _K_14 _hK_14 => ?_
    refine W_region ?_
    refine WL_step rfl rfl (r_move rfl) ?_
    refine WL_step rfl rfl (r_assign rfl) ?_
    refine WL_nil ?_
    refine thn_nrm (_hK_14 _ _ ?_)
    clear _hK_14
    refine W_ret ?_
    clear _hK_5
    exact ret_intro [_] ⟨rfl, trivial⟩ ⟨congrArg (Value.int .i64) (by have _h9 := gmark_all (show a.length ≤ i by omega); omega), (by rw [← mkGS_end hz (by omega)]; exact od), _F0_0, E⟩

/-- laws.markHistory -/
theorem c_laws_markHistory {w : World} (aF : Int) {e_saG ea_aG eb_aG lo9_aG hi9_aG : Nat} {_v_saG : Value} {saG : List Gv} {aG : List GD} (_h_saG : Ol Gv.cs e_saG 2 w _v_saG saG) (_od_aG : OdG ea_aG eb_aG w lo9_aG hi9_aG saG aG) (_ro_aG : ∀ g ∈ bl _v_saG, lo9_aG ≤ g ∧ g < hi9_aG) (_sp_aG : SepH _v_saG saG) (_hh_aG : hi9_aG ≤ w.heap.size) (k : Int) (_hk0 : 0 ≤ k) (hkk : k + 4 * gsize aG ≤ 4611686018427387904) :
    Ctr Try.prog 14 #[(.agg #[(.int .i64 aF), _v_saG]), (.int .i64 k)] w (fun v w' => v = .int .i64 (k + gmark aG) ∧ OdG ea_aG eb_aG w' lo9_aG hi9_aG saG (mkGS k aG) ∧ Ol Gv.cs e_saG 2 w' _v_saG saG ∧ Ch (Rg lo9_aG hi9_aG) w w') := by
  obtain ⟨_A_saG, _C_saG, _e1_saG⟩ := _h_saG.val
  subst _e1_saG
  have _l_saG := _h_saG.len
  have _lo_saG : Lo lo9_aG (.slice _A_saG saG.length _C_saG) := fun g hg => (_ro_aG g hg).1
  have hi_saG : ∀ g ∈ bl (.slice _A_saG saG.length _C_saG), g < hi9_aG := fun g hg => (_ro_aG g hg).2
  have _rl_aG := _od_aG.1
  have E := Ch.refl (Rg lo9_aG hi9_aG) w
  refine Ctr_of_W (N := 10) (vs0 := [(.agg #[(.int .i64 aF), (.slice _A_saG saG.length _C_saG)]), (.int .i64 k)]) Try.func14 rfl rfl rfl ?_
  refine W_seq fun _K_1 _hK_1 => ?_
  refine W_region ?_
  refine WL_s rfl rfl ?_
  refine s_box rfl fun _b2 _w_2 _m2 _cw_2 _e2 => ?_
  have _cw_2z := _cw_2.size
  have E := E.trans _cw_2.of_nil
  have _z2 := _m2.lt
  replace _m2 : Blk _w_2 _b2 28 [(.int .i64 aF), (.slice _A_saG saG.length _C_saG)] := _m2
  refine WL_step rfl rfl (r_assign rfl) ?_
  refine WL_nil ?_
  refine thn_nrm (_hK_1 _ _ ?_)
  clear _hK_1
  refine W_seq fun _K_3 _hK_3 => ?_
  refine W_region ?_
  refine WL_step rfl rfl (r_fieldAddr fa28_1 rfl) ?_
  refine WL_step rfl rfl (r_loadAt _m2.at_ agg26 rfl rfl) ?_
  refine WL_step rfl rfl (r_move rfl) ?_
  refine WL_s rfl rfl ?_
  have _f_4 := (_h_saG.ch0 _cw_2)
  have _f_5 := (_od_aG.ch0 _cw_2)
  refine Step.call (r_call (xs := [.tmp 6, .tmp 7]) fk62 rfl) (c_laws_markGraphS _f_4 (_f_5.up (lo' := lo9_aG) (hi' := hi9_aG) (by omega) (by omega)) (fun g hm => by have _h1 := _lo_saG _ hm; have _h2 := hi_saG _ hm; omega) _sp_aG (by omega) _ (by omega) (by first | omega | (simp <;> omega))) fun _v8 _w_6 _q8 => ?_
  obtain ⟨rfl, _q8, rq8, _cw_6⟩ := _q8
  have _cw_6z := _cw_6.size
  have E := E.step _cw_6 (fun i hm => by have _h1 := mem_rg hm; first | (left; omega) | (right; exact rg_mem (by omega)))
  refine WL_step rfl rfl (r_assign rfl) ?_
  refine WL_nil ?_
  refine thn_nrm (_hK_3 _ _ ?_)
  clear _hK_3
  refine W_seq fun _K_7 _hK_7 => ?_
  refine W_region ?_
  refine WL_step rfl rfl (r_move rfl) ?_
  refine WL_step rfl rfl (r_assign rfl) ?_
  refine WL_nil ?_
  refine thn_nrm (_hK_7 _ _ ?_)
  clear _hK_7
  refine W_ret ?_
  exact ret_intro [_] ⟨rfl, trivial⟩ ⟨congrArg (Value.int .i64) rfl, _q8, rq8, E⟩

/-- laws.szEdgeS -/
theorem c_laws_szEdgeS {w : World} {LL_a _B_a : Nat} {_v_a : Value} {a : List GEdge} (_h_a : Ls GEdge.cs 4 w LL_a _B_a _v_a a) (left : Int) (hl : left ≤ 1048576) (_h0 : 0 ≤ left) :
    Ctr Try.prog 73 #[_v_a, (.int .i64 left)] w (fun v w' => v = .int .i64 (if left < a.length then -1 else left - a.length) ∧ Ch [] w w') := by
  obtain ⟨_A_a, _C_a, _e1_a⟩ := _h_a.val
  subst _e1_a
  have _l_a := _h_a.len
  have _h_a := _h_a.here (by decide)
  have E := Ch.refl [] w
  refine Ctr_of_W (N := 12) (vs0 := [(.slice _A_a a.length _C_a), (.int .i64 left)]) Try.func73 rfl rfl rfl ?_
  refine W_seq fun _K_1 _hK_1 => ?_
  refine W_region ?_
  refine WL_step rfl rfl (r_assign rfl) ?_
  refine WL_nil ?_
  refine thn_nrm (_hK_1 _ _ ?_)
  clear _hK_1
  refine W_seq fun _K_2 _hK_2 => ?_
  refine W_region ?_
  refine WL_step rfl rfl (r_move rfl) ?_
  refine WL_step rfl rfl (r_move rfl) ?_
  refine WL_step rfl rfl (r_len (by rw [el44]; rfl) rfl) ?_
  refine WL_step rfl rfl (r_sub (by omega) rfl rfl) ?_
  refine WL_step rfl rfl (r_assign rfl) ?_
  refine WL_nil ?_
  refine thn_nrm (_hK_2 _ _ ?_)
  clear _hK_2
  refine W_seq fun _K_3 _hK_3 => ?_
  refine W_seq fun _K_4 _hK_4 => ?_
  refine W_region ?_
  refine WL_step rfl rfl (r_move rfl) ?_
  refine WL_step rfl rfl (r_lss rfl rfl) ?_
  refine WL_nil ?_
  refine thn_nrm (_hK_4 _ _ ?_)
  clear _hK_4
  refine W_cond rfl (fun _h10 => ?_) (fun _h10 => ?_)
  · have _kb_5 := _h10
    have _h10 := bt_d _h10
    refine W_seq fun _K_6 _hK_6 => ?_
    refine W_region ?_
    refine WL_step rfl rfl (r_assign rfl) ?_
    refine WL_nil ?_
    refine thn_nrm (_hK_6 _ _ ?_)
    clear _hK_6
    refine W_ret (thn_ret ?_)
    clear _hK_3
    exact ret_intro [_] ⟨rfl, trivial⟩ ⟨congrArg (Value.int .i64) (if_pos (by omega)).symm, E⟩
  · have _kb_5 := _h10
    have _h10 := bf_d _h10
    refine W_skip ?_
    refine thn_nrm (_hK_3 _ _ ?_)
    clear _hK_3
    refine W_seq fun _K_7 _hK_7 => ?_
    refine W_region ?_
    refine WL_step rfl rfl (r_move rfl) ?_
    refine WL_step rfl rfl (r_assign rfl) ?_
    refine WL_nil ?_
    refine thn_nrm (_hK_7 _ _ ?_)
    clear _hK_7
    refine W_ret ?_
    exact ret_intro [_] ⟨rfl, trivial⟩ ⟨congrArg (Value.int .i64) (if_neg (by omega)).symm, E⟩

/-- laws.szIntS -/
theorem c_laws_szIntS {w : World} {LL_a _B_a : Nat} {_v_a : Value} {a : List Int} (_h_a : Ls ics 1 w LL_a _B_a _v_a a) (left : Int) (hl : left ≤ 1048576) (_h0 : 0 ≤ left) :
    Ctr Try.prog 72 #[_v_a, (.int .i64 left)] w (fun v w' => v = .int .i64 (if left < a.length then -1 else left - a.length) ∧ Ch [] w w') := by
  obtain ⟨_A_a, _C_a, _e1_a⟩ := _h_a.val
  subst _e1_a
  have _l_a := _h_a.len
  have _h_a := _h_a.here (by decide)
  have E := Ch.refl [] w
  refine Ctr_of_W (N := 12) (vs0 := [(.slice _A_a a.length _C_a), (.int .i64 left)]) Try.func72 rfl rfl rfl ?_
  refine W_seq fun _K_1 _hK_1 => ?_
  refine W_region ?_
  refine WL_step rfl rfl (r_assign rfl) ?_
  refine WL_nil ?_
  refine thn_nrm (_hK_1 _ _ ?_)
  clear _hK_1
  refine W_seq fun _K_2 _hK_2 => ?_
  refine W_region ?_
  refine WL_step rfl rfl (r_move rfl) ?_
  refine WL_step rfl rfl (r_move rfl) ?_
  refine WL_step rfl rfl (r_len (by rw [el43]; rfl) rfl) ?_
  refine WL_step rfl rfl (r_sub (by omega) rfl rfl) ?_
  refine WL_step rfl rfl (r_assign rfl) ?_
  refine WL_nil ?_
  refine thn_nrm (_hK_2 _ _ ?_)
  clear _hK_2
  refine W_seq fun _K_3 _hK_3 => ?_
  refine W_seq fun _K_4 _hK_4 => ?_
  refine W_region ?_
  refine WL_step rfl rfl (r_move rfl) ?_
  refine WL_step rfl rfl (r_lss rfl rfl) ?_
  refine WL_nil ?_
  refine thn_nrm (_hK_4 _ _ ?_)
  clear _hK_4
  refine W_cond rfl (fun _h10 => ?_) (fun _h10 => ?_)
  · have _kb_5 := _h10
    have _h10 := bt_d _h10
    refine W_seq fun _K_6 _hK_6 => ?_
    refine W_region ?_
    refine WL_step rfl rfl (r_assign rfl) ?_
    refine WL_nil ?_
    refine thn_nrm (_hK_6 _ _ ?_)
    clear _hK_6
    refine W_ret (thn_ret ?_)
    clear _hK_3
    exact ret_intro [_] ⟨rfl, trivial⟩ ⟨congrArg (Value.int .i64) (if_pos (by omega)).symm, E⟩
  · have _kb_5 := _h10
    have _h10 := bf_d _h10
    refine W_skip ?_
    refine thn_nrm (_hK_3 _ _ ?_)
    clear _hK_3
    refine W_seq fun _K_7 _hK_7 => ?_
    refine W_region ?_
    refine WL_step rfl rfl (r_move rfl) ?_
    refine WL_step rfl rfl (r_assign rfl) ?_
    refine WL_nil ?_
    refine thn_nrm (_hK_7 _ _ ?_)
    clear _hK_7
    refine W_ret ?_
    exact ret_intro [_] ⟨rfl, trivial⟩ ⟨congrArg (Value.int .i64) (if_neg (by omega)).symm, E⟩

/-- laws.szGraph -/
theorem c_laws_szGraph {w : World} {LL_aV _B_aV : Nat} {_v_aV : Value} {aV : List Int} (_h_aV : Ls ics 1 w LL_aV _B_aV _v_aV aV) {LL_aE _B_aE : Nat} {_v_aE : Value} {aE : List GEdge} (_h_aE : Ls GEdge.cs 4 w LL_aE _B_aE _v_aE aE) (left : Int) (hl : left ≤ 1048576) (_h0 : 0 ≤ left) :
    Ctr Try.prog 25 #[(.agg #[_v_aV, _v_aE]), (.int .i64 left)] w (fun v w' => v = .int .i64 (if left < aV.length + aE.length then -1 else left - aV.length - aE.length) ∧ Ch [] w w') := by
  obtain ⟨_A_aV, _C_aV, _e1_aV⟩ := _h_aV.val
  subst _e1_aV
  have _l_aV := _h_aV.len
  have _h_aV := _h_aV.here (by decide)
  obtain ⟨_A_aE, _C_aE, _e1_aE⟩ := _h_aE.val
  subst _e1_aE
  have _l_aE := _h_aE.len
  have _h_aE := _h_aE.here (by decide)
  have E := Ch.refl [] w
  refine Ctr_of_W (N := 18) (vs0 := [(.agg #[(.slice _A_aV aV.length _C_aV), (.slice _A_aE aE.length _C_aE)]), (.int .i64 left)]) Try.func25 rfl rfl rfl ?_
  refine W_seq fun _K_1 _hK_1 => ?_
  refine W_region ?_
  refine WL_s rfl rfl ?_
  refine s_box rfl fun _b2 _w_2 _m2 _cw_2 _e2 => ?_
  have _cw_2z := _cw_2.size
  have E := E.trans _cw_2
  have _z2 := _m2.lt
  replace _m2 : Blk _w_2 _b2 46 [(.slice _A_aV aV.length _C_aV), (.slice _A_aE aE.length _C_aE)] := _m2
  refine WL_step rfl rfl (r_assign rfl) ?_
  refine WL_nil ?_
  refine thn_nrm (_hK_1 _ _ ?_)
  clear _hK_1
  refine W_seq fun _K_3 _hK_3 => ?_
  refine W_region ?_
  refine WL_step rfl rfl (r_fieldAddr fa46_0 rfl) ?_
  refine WL_step rfl rfl (r_loadAt _m2.at_ agg43 rfl rfl) ?_
  refine WL_step rfl rfl (r_move rfl) ?_
  refine WL_s rfl rfl ?_
  have _f_4 := (_h_aV.ch0 _cw_2)
  refine Step.call (r_call (xs := [.tmp 6, .tmp 7]) fk72 rfl) (c_laws_szIntS _f_4 _ (by omega) (by omega)) fun _v8 _w_5 _q8 => ?_
  obtain ⟨rfl, _cw_5⟩ := _q8
  have _cw_5z := _cw_5.size
  have E := E.trans _cw_5
  refine WL_step rfl rfl (r_assign rfl) ?_
  refine WL_nil ?_
  refine thn_nrm (_hK_3 _ _ ?_)
  clear _hK_3
  refine W_seq fun _K_6 _hK_6 => ?_
  refine W_seq fun _K_7 _hK_7 => ?_
  refine W_region ?_
  refine WL_step rfl rfl (r_move rfl) ?_
  refine WL_step rfl rfl (r_lss rfl rfl) ?_
  refine WL_nil ?_
  refine thn_nrm (_hK_7 _ _ ?_)
  clear _hK_7
  refine W_cond rfl (fun _h10 => ?_) (fun _h10 => ?_)
  · have _kb_8 := _h10
    have _h10 := bt_d _h10
    refine W_seq fun _K_9 _hK_9 => ?_
    refine W_region ?_
    refine WL_step rfl rfl (r_assign rfl) ?_
    refine WL_nil ?_
    refine thn_nrm (_hK_9 _ _ ?_)
    clear _hK_9
    refine W_ret (thn_ret ?_)
    clear _hK_6
    exact ret_intro [_] ⟨rfl, trivial⟩ ⟨congrArg (Value.int .i64) (by repeat (first | omega | split)), E⟩
  · have _kb_8 := _h10
    have _h10 := bf_d _h10
    refine W_skip ?_
    refine thn_nrm (_hK_6 _ _ ?_)
    clear _hK_6
    refine W_seq fun _K_10 _hK_10 => ?_
    refine W_region ?_
    refine WL_step rfl rfl (r_fieldAddr fa46_1 rfl) ?_
    have _f_11 := (_m2.ch0 _cw_5)
    refine WL_step rfl rfl (r_loadAt _f_11.at_ agg44 rfl rfl) ?_
    refine WL_step rfl rfl (r_move rfl) ?_
    refine WL_s rfl rfl ?_
    have _f_12 := ((_h_aE.ch0 _cw_2).ch0 _cw_5)
    refine Step.call (r_call (xs := [.tmp 12, .tmp 13]) fk73 rfl) (c_laws_szEdgeS _f_12 _ (by omega) (by omega)) fun _v14 _w_13 _q14 => ?_
    obtain ⟨rfl, _cw_13⟩ := _q14
    have _cw_13z := _cw_13.size
    have E := E.trans _cw_13
    refine WL_step rfl rfl (r_assign rfl) ?_
    refine WL_nil ?_
    refine thn_nrm (_hK_10 _ _ ?_)
    clear _hK_10
    refine W_seq fun _K_14 _hK_14 => ?_
    refine W_seq fun _K_15 _hK_15 => ?_
    refine W_region ?_
    refine WL_step rfl rfl (r_move rfl) ?_
    refine WL_step rfl rfl (r_lss rfl rfl) ?_
    refine WL_nil ?_
    refine thn_nrm (_hK_15 _ _ ?_)
    clear _hK_15
    refine W_cond rfl (fun _h16 => ?_) (fun _h16 => ?_)
    · have _kb_16 := _h16
      have _h16 := bt_d _h16
      refine W_seq fun _K_17 _hK_17 => ?_
      refine W_region ?_
      refine WL_step rfl rfl (r_assign rfl) ?_
      refine WL_nil ?_
      refine thn_nrm (_hK_17 _ _ ?_)
      clear _hK_17
      refine W_ret (thn_ret ?_)
      clear _hK_14
      exact ret_intro [_] ⟨rfl, trivial⟩ ⟨congrArg (Value.int .i64) (by repeat (first | omega | split)), E⟩
    · have _kb_16 := _h16
      have _h16 := bf_d _h16
      refine W_skip ?_
      refine thn_nrm (_hK_14 _ _ ?_)
      clear _hK_14
      refine W_seq fun _K_18 _hK_18 => ?_
      refine W_region ?_
      refine WL_step rfl rfl (r_move rfl) ?_
      refine WL_step rfl rfl (r_assign rfl) ?_
      refine WL_nil ?_
      refine thn_nrm (_hK_18 _ _ ?_)
      clear _hK_18
      refine W_ret ?_
      exact ret_intro [_] ⟨rfl, trivial⟩ ⟨congrArg (Value.int .i64) (by repeat (first | omega | split)), E⟩

end Go.Proofs.Ytnboedkdnnlgnaa
