/- Walks of functions that FnExactCompactHistory reaches: what each returns, and that it leaves the memory that was there alone. -/
import Derived.Test.YtnboedkdnnlgnaaKF
import Derived.Test.YtnboedkdnnlgnaaKG
import Derived.Test.YtnboedkdnnlgnaaKH
import Derived.Test.YtnboedkdnnlgnaaKI
import Derived.Test.YtnboedkdnnlgnaaKJ
import Derived.Test.YtnboedkdnnlgnaaKM
import Derived.Test.YtnboedkdnnlgnaaKN
import Derived.Test.YtnboedkdnnlgnaaKO
import Derived.Test.YtnboedkdnnlgnaaKP
import Derived.Test.YtnboedkdnnlgnaaKQ
import Derived.Test.YtnboedkdnnlgnaaKR
import Derived.Test.YtnboedkdnnlgnaaKS
import Derived.Test.YtnboedkdnnlgnaaKT
import Derived.Test.YtnboedkdnnlgnaaKU
import Derived.Test.YtnboedkdnnlgnaaKV
import Derived.Test.YtnboedkdnnlgnaaKX
import Derived.Test.YtnboedkdnnlgnaaKY
import Derived.Test.YtnboedkdnnlgnaaKZ
import Derived.Test.YtnboedkdnnlgnaaJA
import Derived.Test.YtnboedkdnnlgnaaJB
import Derived.Test.YtnboedkdnnlgnaaJC
import Derived.Test.YtnboedkdnnlgnaaJD
import Derived.Test.YtnboedkdnnlgnaaJE
import Derived.Test.YtnboedkdnnlgnaaJF
import Derived.Test.YtnboedkdnnlgnaaJG
import Derived.Test.YtnboedkdnnlgnaaJH
import Derived.Test.YtnboedkdnnlgnaaJI
import Derived.Test.YtnboedkdnnlgnaaJK
import Derived.Test.YtnboedkdnnlgnaaJM
import Derived.Test.YtnboedkdnnlgnaaJN
import Derived.Test.YtnboedkdnnlgnaaJO
import Derived.Test.YtnboedkdnnlgnaaJP
import Derived.Test.YtnboedkdnnlgnaaJQ
import Derived.Test.YtnboedkdnnlgnaaJR
import Derived.Test.YtnboedkdnnlgnaaWExactCompactHistory
import Derived.Test.YtnboedkdnnlgnaaProg
namespace Go.Proofs.Ytnboedkdnnlgnaa
open Go.KLib Go.Shelf
set_option maxRecDepth 20000
set_option linter.unusedVariables false
set_option linter.unusedSimpArgs false
namespace TExactCompactHistoryb
theorem agg168 : aggB Try.prog 168 = some true := by kernel_rfl
theorem agg171 : aggB Try.prog 171 = some true := by kernel_rfl
theorem agg22 : aggB Try.prog 22 = some false := by kernel_rfl
theorem agg24 : aggB Try.prog 24 = some true := by kernel_rfl
theorem agg26 : aggB Try.prog 26 = some false := by kernel_rfl
theorem agg28 : aggB Try.prog 28 = some true := by kernel_rfl
theorem agg3 : aggB Try.prog 3 = some false := by kernel_rfl
theorem agg43 : aggB Try.prog 43 = some false := by kernel_rfl
theorem agg44 : aggB Try.prog 44 = some false := by kernel_rfl
theorem agg46 : aggB Try.prog 46 = some true := by kernel_rfl
theorem agg55 : aggB Try.prog 55 = some false := by kernel_rfl
theorem agg57 : aggB Try.prog 57 = some true := by kernel_rfl
theorem by168 : bytesB Try.prog 168 = some 32 := by kernel_rfl
theorem by3 : bytesB Try.prog 3 = some 8 := by kernel_rfl
theorem by57 : bytesB Try.prog 57 = some 48 := by kernel_rfl
theorem el22 : elB Try.prog 22 = some 46 := by kernel_rfl
theorem el26 : elB Try.prog 26 = some 57 := by kernel_rfl
theorem el43 : elB Try.prog 43 = some 3 := by kernel_rfl
theorem el44 : elB Try.prog 44 = some 171 := by kernel_rfl
theorem el55 : elB Try.prog 55 = some 168 := by kernel_rfl
theorem fa168_0 : faB Try.prog 168 0 = some 0 := by kernel_rfl
theorem fa168_1 : faB Try.prog 168 1 = some 1 := by kernel_rfl
theorem fa168_2 : faB Try.prog 168 2 = some 2 := by kernel_rfl
theorem fa168_3 : faB Try.prog 168 3 = some 3 := by kernel_rfl
theorem fa171_0 : faB Try.prog 171 0 = some 0 := by kernel_rfl
theorem fa171_1 : faB Try.prog 171 1 = some 1 := by kernel_rfl
theorem fa171_2 : faB Try.prog 171 2 = some 2 := by kernel_rfl
theorem fa171_3 : faB Try.prog 171 3 = some 3 := by kernel_rfl
theorem fa24_0 : faB Try.prog 24 0 = some 0 := by kernel_rfl
theorem fa24_1 : faB Try.prog 24 1 = some 1 := by kernel_rfl
theorem fa28_0 : faB Try.prog 28 0 = some 0 := by kernel_rfl
theorem fa28_1 : faB Try.prog 28 1 = some 1 := by kernel_rfl
theorem fa46_0 : faB Try.prog 46 0 = some 0 := by kernel_rfl
theorem fa46_1 : faB Try.prog 46 1 = some 1 := by kernel_rfl
theorem fa57_0 : faB Try.prog 57 0 = some 0 := by kernel_rfl
theorem fa57_1 : faB Try.prog 57 1 = some 1 := by kernel_rfl
theorem fk10 : fnB Try.prog 10 = true := by kernel_rfl
theorem fk11 : fnB Try.prog 11 = true := by kernel_rfl
theorem fk114 : fnB Try.prog 114 = true := by kernel_rfl
theorem fk115 : fnB Try.prog 115 = true := by kernel_rfl
theorem fk116 : fnB Try.prog 116 = true := by kernel_rfl
theorem fk12 : fnB Try.prog 12 = true := by kernel_rfl
theorem fk13 : fnB Try.prog 13 = true := by kernel_rfl
theorem fk132 : fnB Try.prog 132 = true := by kernel_rfl
theorem fk14 : fnB Try.prog 14 = true := by kernel_rfl
theorem fk15 : fnB Try.prog 15 = true := by kernel_rfl
theorem fk159 : fnB Try.prog 159 = true := by kernel_rfl
theorem fk25 : fnB Try.prog 25 = true := by kernel_rfl
theorem fk28 : fnB Try.prog 28 = true := by kernel_rfl
theorem fk53 : fnB Try.prog 53 = true := by kernel_rfl
theorem fk54 : fnB Try.prog 54 = true := by kernel_rfl
theorem fk55 : fnB Try.prog 55 = true := by kernel_rfl
theorem fk56 : fnB Try.prog 56 = true := by kernel_rfl
theorem fk57 : fnB Try.prog 57 = true := by kernel_rfl
theorem fk58 : fnB Try.prog 58 = true := by kernel_rfl
theorem fk78 : fnB Try.prog 78 = true := by kernel_rfl
theorem fk79 : fnB Try.prog 79 = true := by kernel_rfl
theorem fk9 : fnB Try.prog 9 = true := by kernel_rfl
theorem mixed : Try.prog.follows .mixedOrders = true := by kernel_rfl
theorem pl28 : placesB Try.prog 28 = some [(0, 1), (1, 1)] := by kernel_rfl
theorem pl57 : placesB Try.prog 57 = some [(0, 1), (1, 1)] := by kernel_rfl
theorem sz168 : sizeB Try.prog 168 = some 4 := by kernel_rfl
theorem sz171 : sizeB Try.prog 171 = some 4 := by kernel_rfl
theorem sz24 : sizeB Try.prog 24 = some 2 := by kernel_rfl
theorem sz26 : sizeB Try.prog 26 = some 1 := by kernel_rfl
theorem sz28 : sizeB Try.prog 28 = some 2 := by kernel_rfl
theorem sz3 : sizeB Try.prog 3 = some 1 := by kernel_rfl
theorem sz43 : sizeB Try.prog 43 = some 1 := by kernel_rfl
theorem sz46 : sizeB Try.prog 46 = some 2 := by kernel_rfl
theorem sz55 : sizeB Try.prog 55 = some 1 := by kernel_rfl
theorem sz57 : sizeB Try.prog 57 = some 2 := by kernel_rfl
theorem un4 : Try.prog.underlying 4 = some (.bool) := by kernel_rfl
theorem zr168 : zeroB Try.prog 168 = some (.agg #[.int .i64 0, .int .i64 0, .int .i64 0, .int .i64 0]) := by kernel_rfl
theorem zr28 : zeroB Try.prog 28 = some (.agg #[.int .i64 0, .slice none 0 0]) := by kernel_rfl
theorem zr3 : zeroB Try.prog 3 = some (.int .i64 0) := by kernel_rfl
theorem zr57 : zeroB Try.prog 57 = some (.agg #[.slice none 0 0, .slice none 0 0]) := by kernel_rfl
end TExactCompactHistoryb
open TExactCompactHistoryb

/-- laws.szGraphS -/
theorem c_laws_szGraphS {w : World} {LL_sa _B_sa : Nat} {_v_sa : Value} {sa : List Gv} (_h_sa : Ls Gv.cs 2 w LL_sa _B_sa _v_sa sa) {LR_a BB_a : Nat} {a : List GD} (_rd_a : RdG w LR_a BB_a sa a) (left : Int) (hl : left ≤ 1048576) (_h0 : 0 ≤ left) :
    Ctr Try.prog 53 #[_v_sa, (.int .i64 left)] w (fun v w' => v = .int .i64 (if left < a.length + gsize a then -1 else left - a.length - gsize a) ∧ Ch [] w w') := by
  obtain ⟨_A_sa, _C_sa, _e1_sa⟩ := _h_sa.val
  subst _e1_sa
  have _l_sa := _h_sa.len
  have _h_sa := _h_sa.here (by decide)
  have _rd_a := _rd_a.here
  have _rl_a := _rd_a.1
  have E := Ch.refl [] w
  refine Ctr_of_W (N := 27) (vs0 := [(.slice _A_sa sa.length _C_sa), (.int .i64 left)]) Try.func53 rfl rfl rfl ?_
  refine W_seq fun _K_1 _hK_1 => ?_
  refine W_region ?_
  refine WL_step rfl rfl (r_assign rfl) ?_
  refine WL_nil ?_
  refine thn_nrm (_hK_1 _ _ ?_)
  clear _hK_1
  refine W_seq fun _K_2 _hK_2 => ?_
  refine W_region ?_
  refine WL_step rfl rfl (r_move rfl) ?_
  refine WL_step rfl rfl (r_move rfl) ?_
  refine WL_step rfl rfl (r_len (by rw [el22]; rfl) rfl) ?_
  refine WL_step rfl rfl (r_sub (by omega) rfl rfl) ?_
  refine WL_step rfl rfl (r_assign rfl) ?_
  refine WL_nil ?_
  refine thn_nrm (_hK_2 _ _ ?_)
  clear _hK_2
  refine W_seq fun _K_3 _hK_3 => ?_
  refine W_seq fun _K_4 _hK_4 => ?_
  refine W_region ?_
  refine WL_step rfl rfl (r_move rfl) ?_
  refine WL_step rfl rfl (r_lss rfl rfl) ?_
  refine WL_nil ?_
  refine thn_nrm (_hK_4 _ _ ?_)
  clear _hK_4
  refine W_cond rfl (fun _h11 => ?_) (fun _h11 => ?_)
  · have _kb_5 := _h11
    have _h11 := bt_d _h11
    refine W_seq fun _K_6 _hK_6 => ?_
    refine W_region ?_
    refine WL_step rfl rfl (r_assign rfl) ?_
    refine WL_nil ?_
    refine thn_nrm (_hK_6 _ _ ?_)
    clear _hK_6
    refine W_ret (thn_ret ?_)
    clear _hK_3
    exact ret_intro [_] ⟨rfl, trivial⟩ ⟨congrArg (Value.int .i64) (if_pos (by omega)).symm, E⟩
  · have _kb_5 := _h11
    have _h11 := bf_d _h11
    refine W_skip ?_
    refine thn_nrm (_hK_3 _ _ ?_)
    clear _hK_3
    refine W_seq fun _K_7 _hK_7 => ?_
    refine W_seq fun _K_8 _hK_8 => ?_
    refine W_region ?_
    refine WL_step rfl rfl (r_assign rfl) ?_
    refine WL_nil ?_
    refine thn_nrm (_hK_8 _ _ ?_)
    clear _hK_8
    refine W_block ?_
    refine W_loop (σ := Nat × Int) (fun ⟨k, m⟩ => [(0, (.slice _A_sa sa.length _C_sa)), (1, (.int .i64 m)), (5, (.int .i64 ((k : Nat) : Int)))]) (fun ⟨k, m⟩ wx => Ch [] w wx ∧ w.heap.size ≤ wx.heap.size ∧ (k ≤ a.length) ∧ (m = left - a.length - gsize (a.take k)) ∧ (0 ≤ m)) (fun ⟨k, m⟩ => a.length - k) (0, (left - ((sa.length : Nat) : Int))) (Sub.cons rfl (Sub.cons rfl (Sub.cons rfl (Sub.nil _)))) ⟨E, (Nat.le_refl _), (by omega), (by simp [gsize]; omega), (by omega)⟩ ?_
    rintro ⟨k, m⟩ _wr_9 ⟨E, _zz0, _hk, hm, hn⟩
    have _E0h := E
    have _E0hz := _E0h.size
    refine W_seq fun _K_10 _hK_10 => ?_
    refine W_seq fun _K_11 _hK_11 => ?_
    refine W_region ?_
    refine WL_step rfl rfl (r_move rfl) ?_
    refine WL_step rfl rfl (r_move rfl) ?_
    refine WL_step rfl rfl (r_len (by rw [el22]; rfl) rfl) ?_
    refine WL_step rfl rfl (r_lss rfl rfl) ?_
    refine WL_nil ?_
    refine thn_nrm (_hK_11 _ _ ?_)
    clear _hK_11
    refine W_cond rfl (fun _h15 => ?_) (fun _h15 => ?_)
    · have _kb_12 := _h15
      have _h15 := bt_d _h15
      refine W_skip ?_
      refine thn_nrm (_hK_10 _ _ ?_)
      clear _hK_10
      refine W_seq fun _K_13 _hK_13 => ?_
      refine W_block ?_
      refine W_seq fun _K_14 _hK_14 => ?_
      refine W_region ?_
      refine WL_step rfl rfl (r_move rfl) ?_
      refine WL_step rfl rfl (r_move rfl) ?_
      refine WL_s rfl rfl ?_
      have _f_15 := (_h_sa.ch0 _E0h)
      refine (s_index _f_15 Gv.len el22 sz46 rfl rfl rfl (by omega) fun _p20 _y20 _hy20 _a20 => ?_)
      have _f_16 := (_rd_a.ch0 _E0h)
      obtain ⟨_ys20, _hys20, _fs20, fe20⟩ := _f_16.get _hy20
      obtain ⟨⟨_A20, _n20, _C20⟩, ⟨Ae20, ne20, Ce20⟩⟩ := _y20
      obtain rfl := _fs20.eqn
      obtain rfl := fe20.eqn
      have _l20 := _fs20.len
      have le20 := fe20.len
      replace _fs20 : Ls ics 1 _wr_9 LR_a w.heap.size (.slice _A20 _ys20.V.length _C20) _ys20.V := _fs20
      replace fe20 : Ls GEdge.cs 4 _wr_9 LR_a w.heap.size (.slice Ae20 _ys20.E.length Ce20) _ys20.E := fe20
      refine WL_step rfl rfl (r_loadAtA0 _a20 agg46 sz46 rfl) ?_
      refine WL_step rfl rfl (r_move rfl) ?_
      refine WL_s rfl rfl ?_
      refine Step.call (r_call (xs := [.tmp 21, .tmp 22]) fk25 rfl) (c_laws_szGraph _fs20 fe20 _ (by omega) (by omega)) fun _v23 _w_17 _q23 => ?_
      obtain ⟨rfl, _cw_17⟩ := _q23
      have _cw_17z := _cw_17.size
      have E := E.trans _cw_17
      refine WL_step rfl rfl (r_assign rfl) ?_
      refine WL_nil ?_
      refine thn_nrm (_hK_14 _ _ ?_)
      clear _hK_14
      refine W_seq fun _K_18 _hK_18 => ?_
      refine W_region ?_
      refine WL_step rfl rfl (r_move rfl) ?_
      refine WL_step rfl rfl (r_lss rfl rfl) ?_
      refine WL_nil ?_
      refine thn_nrm (_hK_18 _ _ ?_)
      clear _hK_18
      refine W_cond rfl (fun _h25 => ?_) (fun _h25 => ?_)
      · have _kb_19 := _h25
        have _h25 := bt_d _h25
        refine W_seq fun _K_20 _hK_20 => ?_
        refine W_region ?_
        refine WL_step rfl rfl (r_assign rfl) ?_
        refine WL_nil ?_
        refine thn_nrm (_hK_20 _ _ ?_)
        clear _hK_20
        refine W_ret (inB_ret (thn_ret (thn_ret (inB_ret (thn_ret ?_)))))
        clear _hK_7 _hK_13
        exact ret_intro [_] ⟨rfl, trivial⟩ ⟨congrArg (Value.int .i64) (if_pos (by have _h9 := gsize_le _hys20; omega)).symm, E⟩
      · have _kb_19 := _h25
        have _h25 := bf_d _h25
        refine W_skip ?_
        refine inB_nrm ?_
        refine thn_nrm (_hK_13 _ _ ?_)
        clear _hK_13
        refine W_region ?_
        refine WL_step rfl rfl (r_move rfl) ?_
        refine WL_step rfl rfl (r_add (by omega) rfl rfl) ?_
        refine WL_step rfl rfl (r_assign rfl) ?_
        refine WL_nil ?_
        exact thn_nrm (Exists.intro ((k + 1), if m < _ys20.V.length + _ys20.E.length then -1 else m - _ys20.V.length - _ys20.E.length) ⟨⟨E, (by omega), (by omega), (by have _h9 := gsize_take _hys20; omega), (by omega)⟩, Sub.cons rfl (Sub.cons rfl (Sub.cons rfl (Sub.nil _))), (by first | omega | (dsimp only; omega))⟩)
    · have _kb_12 := _h15
      have _h15 := bf_d _h15
      refine W_exit (thn_exit (thn_exit (inB_hit ?_)))
      refine thn_nrm (_hK_7 _ _ ?_)
      clear _hK_7
      refine W_seq fun _K_21 _hK_21 => ?_
      refine W_region ?_
      refine WL_step rfl rfl (r_move rfl) ?_
      refine WL_step rfl rfl (r_assign rfl) ?_
      refine WL_nil ?_
      refine thn_nrm (_hK_21 _ _ ?_)
      clear _hK_21
      refine W_ret ?_
      clear _hK_10
      exact ret_intro [_] ⟨rfl, trivial⟩ ⟨congrArg (Value.int .i64) (by have _h9 := gsize_all (show a.length ≤ k by omega); omega), E⟩

/-- laws.szHistory -/
theorem c_laws_szHistory {w : World} (aF : Int) {LL_saG _B_saG : Nat} {_v_saG : Value} {saG : List Gv} (_h_saG : Ls Gv.cs 2 w LL_saG _B_saG _v_saG saG) {LR_aG BB_aG : Nat} {aG : List GD} (_rd_aG : RdG w LR_aG BB_aG saG aG) (left : Int) (hl : left ≤ 1048576) (_h0 : 0 ≤ left) :
    Ctr Try.prog 9 #[(.agg #[(.int .i64 aF), _v_saG]), (.int .i64 left)] w (fun v w' => v = .int .i64 (if left < aG.length + gsize aG then -1 else left - aG.length - gsize aG) ∧ Ch [] w w') := by
  obtain ⟨_A_saG, _C_saG, _e1_saG⟩ := _h_saG.val
  subst _e1_saG
  have _l_saG := _h_saG.len
  have _h_saG := _h_saG.here (by decide)
  have _rd_aG := _rd_aG.here
  have _rl_aG := _rd_aG.1
  have E := Ch.refl [] w
  refine Ctr_of_W (N := 12) (vs0 := [(.agg #[(.int .i64 aF), (.slice _A_saG saG.length _C_saG)]), (.int .i64 left)]) Try.func9 rfl rfl rfl ?_
  refine W_seq fun _K_1 _hK_1 => ?_
  refine W_region ?_
  refine WL_s rfl rfl ?_
  refine s_box rfl fun _b2 _w_2 _m2 _cw_2 _e2 => ?_
  have _cw_2z := _cw_2.size
  have E := E.trans _cw_2
  have _z2 := _m2.lt
  replace _m2 : Blk _w_2 _b2 24 [(.int .i64 aF), (.slice _A_saG saG.length _C_saG)] := _m2
  refine WL_step rfl rfl (r_assign rfl) ?_
  refine WL_nil ?_
  refine thn_nrm (_hK_1 _ _ ?_)
  clear _hK_1
  refine W_seq fun _K_3 _hK_3 => ?_
  refine W_region ?_
  refine WL_step rfl rfl (r_fieldAddr fa24_1 rfl) ?_
  refine WL_step rfl rfl (r_loadAt _m2.at_ agg22 rfl rfl) ?_
  refine WL_step rfl rfl (r_move rfl) ?_
  refine WL_s rfl rfl ?_
  have _f_4 := (_h_saG.ch0 _cw_2)
  have _f_5 := (_rd_aG.ch0 _cw_2)
  refine Step.call (r_call (xs := [.tmp 6, .tmp 7]) fk53 rfl) (c_laws_szGraphS _f_4 _f_5 _ (by omega) (by omega)) fun _v8 _w_6 _q8 => ?_
  obtain ⟨rfl, _cw_6⟩ := _q8
  have _cw_6z := _cw_6.size
  have E := E.trans _cw_6
  refine WL_step rfl rfl (r_assign rfl) ?_
  refine WL_nil ?_
  refine thn_nrm (_hK_3 _ _ ?_)
  clear _hK_3
  refine W_seq fun _K_7 _hK_7 => ?_
  refine W_seq fun _K_8 _hK_8 => ?_
  refine W_region ?_
  refine WL_step rfl rfl (r_move rfl) ?_
  refine WL_step rfl rfl (r_lss rfl rfl) ?_
  refine WL_nil ?_
  refine thn_nrm (_hK_8 _ _ ?_)
  clear _hK_8
  refine W_cond rfl (fun _h10 => ?_) (fun _h10 => ?_)
  · have _kb_9 := _h10
    have _h10 := bt_d _h10
    refine W_seq fun _K_10 _hK_10 => ?_
    refine W_region ?_
    refine WL_step rfl rfl (r_assign rfl) ?_
    refine WL_nil ?_
    refine thn_nrm (_hK_10 _ _ ?_)
    clear _hK_10
    refine W_ret (thn_ret ?_)
    clear _hK_7
    exact ret_intro [_] ⟨rfl, trivial⟩ ⟨congrArg (Value.int .i64) (by omega), E⟩
  · have _kb_9 := _h10
    have _h10 := bf_d _h10
    refine W_skip ?_
    refine thn_nrm (_hK_7 _ _ ?_)
    clear _hK_7
    refine W_seq fun _K_11 _hK_11 => ?_
    refine W_region ?_
    refine WL_step rfl rfl (r_move rfl) ?_
    refine WL_step rfl rfl (r_assign rfl) ?_
    refine WL_nil ?_
    refine thn_nrm (_hK_11 _ _ ?_)
    clear _hK_11
    refine W_ret ?_
    exact ret_intro [_] ⟨rfl, trivial⟩ ⟨congrArg (Value.int .i64) (by omega), E⟩

/-- laws.toEdge -/
theorem c_laws_toEdge {w : World} (a : GEdge) :
    Ctr Try.prog 132 #[(.agg #[(.int .i64 a.id), (.int .i64 a.f), (.int .i64 a.t), (.int .i64 a.label)])] w (fun v w' => v = .agg (GEdge.cs (a)).toArray ∧ Ch [] w w') := by
  have E := Ch.refl [] w
  refine Ctr_of_W (N := 17) (vs0 := [(.agg #[(.int .i64 a.id), (.int .i64 a.f), (.int .i64 a.t), (.int .i64 a.label)])]) Try.func132 rfl rfl rfl ?_
  refine W_seq fun _K_1 _hK_1 => ?_
  refine W_region ?_
  refine WL_s rfl rfl ?_
  refine s_box rfl fun _b1 _w_2 _m1 _cw_2 _e1 => ?_
  have _cw_2z := _cw_2.size
  have E := E.trans _cw_2
  have _z1 := _m1.lt
  replace _m1 : Blk _w_2 _b1 171 [(.int .i64 a.id), (.int .i64 a.f), (.int .i64 a.t), (.int .i64 a.label)] := _m1
  refine WL_s rfl rfl ?_
  refine s_alloc zr168 fun _b2 _w_3 _m2 _cw_3 _e2 => ?_
  have _cw_3z := _cw_3.size
  have E := E.trans _cw_3
  have _z2 := _m2.lt
  replace _m2 : Blk _w_3 _b2 168 [(.int .i64 0), (.int .i64 0), (.int .i64 0), (.int .i64 0)] := _m2
  refine WL_nil ?_
  refine thn_nrm (_hK_1 _ _ ?_)
  clear _hK_1
  refine W_seq fun _K_4 _hK_4 => ?_
  refine W_region ?_
  refine WL_s rfl rfl ?_
  refine s_alloc zr168 fun _b3 _w_5 _m3 _cw_5 _e3 => ?_
  have _cw_5z := _cw_5.size
  have E := E.trans _cw_5
  have _z3 := _m3.lt
  replace _m3 : Blk _w_5 _b3 168 [(.int .i64 0), (.int .i64 0), (.int .i64 0), (.int .i64 0)] := _m3
  refine WL_nil ?_
  refine thn_nrm (_hK_4 _ _ ?_)
  clear _hK_4
  refine W_seq fun _K_6 _hK_6 => ?_
  refine W_region ?_
  refine WL_step rfl rfl (r_fieldAddr fa171_0 rfl) ?_
  have _f_7 := ((_m1.ch0 _cw_3).ch0 _cw_5)
  refine WL_step rfl rfl (r_loadAt _f_7.at_ agg3 rfl rfl) ?_
  refine WL_step rfl rfl (r_fieldAddr fa168_0 rfl) ?_
  refine WL_s rfl rfl ?_
  refine s_store1 (off := 0) _m3 sz3 rfl rfl rfl rfl fun _w_8 _m_9 _cw_8 => ?_
  have _cw_8z := _cw_8.size
  have E := E.step _cw_8 (fun i hi => .inl (by have _h1 := List.mem_singleton.1 hi; omega))
  replace _m_9 : Blk _w_8 _b3 168 [(.int .i64 a.id), (.int .i64 0), (.int .i64 0), (.int .i64 0)] := _m_9
  refine WL_nil ?_
  refine thn_nrm (_hK_6 _ _ ?_)
  clear _hK_6
  refine W_seq fun _K_10 _hK_10 => ?_
  refine W_region ?_
  refine WL_step rfl rfl (r_fieldAddr fa171_1 rfl) ?_
  have _f_11 := (_f_7.ch _cw_8 (fun hm => by have _h1 := List.mem_singleton.1 hm; omega))
  refine WL_step rfl rfl (r_loadAt _f_11.at_ agg3 rfl rfl) ?_
  refine WL_step rfl rfl (r_fieldAddr fa168_1 rfl) ?_
  refine WL_s rfl rfl ?_
  refine s_store1 (off := 1) _m_9 sz3 rfl rfl rfl rfl fun _w_12 _m_13 _cw_12 => ?_
  have _cw_12z := _cw_12.size
  have E := E.step _cw_12 (fun i hi => .inl (by have _h1 := List.mem_singleton.1 hi; omega))
  replace _m_13 : Blk _w_12 _b3 168 [(.int .i64 a.id), (.int .i64 a.f), (.int .i64 0), (.int .i64 0)] := _m_13
  refine WL_nil ?_
  refine thn_nrm (_hK_10 _ _ ?_)
  clear _hK_10
  refine W_seq fun _K_14 _hK_14 => ?_
  refine W_region ?_
  refine WL_step rfl rfl (r_fieldAddr fa171_2 rfl) ?_
  have _f_15 := (_f_11.ch _cw_12 (fun hm => by have _h1 := List.mem_singleton.1 hm; omega))
  refine WL_step rfl rfl (r_loadAt _f_15.at_ agg3 rfl rfl) ?_
  refine WL_step rfl rfl (r_fieldAddr fa168_2 rfl) ?_
  refine WL_s rfl rfl ?_
  refine s_store1 (off := 2) _m_13 sz3 rfl rfl rfl rfl fun _w_16 _m_17 _cw_16 => ?_
  have _cw_16z := _cw_16.size
  have E := E.step _cw_16 (fun i hi => .inl (by have _h1 := List.mem_singleton.1 hi; omega))
  replace _m_17 : Blk _w_16 _b3 168 [(.int .i64 a.id), (.int .i64 a.f), (.int .i64 a.t), (.int .i64 0)] := _m_17
  refine WL_nil ?_
  refine thn_nrm (_hK_14 _ _ ?_)
  clear _hK_14
  refine W_seq fun _K_18 _hK_18 => ?_
  refine W_region ?_
  refine WL_step rfl rfl (r_fieldAddr fa171_3 rfl) ?_
  have _f_19 := (_f_15.ch _cw_16 (fun hm => by have _h1 := List.mem_singleton.1 hm; omega))
  refine WL_step rfl rfl (r_loadAt _f_19.at_ agg3 rfl rfl) ?_
  refine WL_step rfl rfl (r_fieldAddr fa168_3 rfl) ?_
  refine WL_s rfl rfl ?_
  refine s_store1 (off := 3) _m_17 sz3 rfl rfl rfl rfl fun _w_20 _m_21 _cw_20 => ?_
  have _cw_20z := _cw_20.size
  have E := E.step _cw_20 (fun i hi => .inl (by have _h1 := List.mem_singleton.1 hi; omega))
  replace _m_21 : Blk _w_20 _b3 168 [(.int .i64 a.id), (.int .i64 a.f), (.int .i64 a.t), (.int .i64 a.label)] := _m_21
  refine WL_nil ?_
  refine thn_nrm (_hK_18 _ _ ?_)
  clear _hK_18
  refine W_seq fun _K_22 _hK_22 => ?_
  refine W_region ?_
  refine WL_step rfl rfl (r_loadAtA0 _m_21.at_ agg168 sz168 rfl) ?_
  refine WL_s rfl rfl ?_
  have _f_23 := (((((_m2.ch0 _cw_5).ch _cw_8 (fun hm => by have _h1 := List.mem_singleton.1 hm; omega)).ch _cw_12 (fun hm => by have _h1 := List.mem_singleton.1 hm; omega)).ch _cw_16 (fun hm => by have _h1 := List.mem_singleton.1 hm; omega)).ch _cw_20 (fun hm => by have _h1 := List.mem_singleton.1 hm; omega))
  refine s_storeA (off := 0) 4 _f_23 sz168 rfl (us := [(.int .i64 a.id), (.int .i64 a.f), (.int .i64 a.t), (.int .i64 a.label)]) rfl rfl rfl rfl fun _w_24 _m_25 _cw_24 => ?_
  have _cw_24z := _cw_24.size
  have E := E.step _cw_24 (fun i hi => .inl (by have _h1 := List.mem_singleton.1 hi; omega))
  replace _m_25 : Blk _w_24 _b2 168 [(.int .i64 a.id), (.int .i64 a.f), (.int .i64 a.t), (.int .i64 a.label)] := _m_25
  refine WL_nil ?_
  refine thn_nrm (_hK_22 _ _ ?_)
  clear _hK_22
  refine W_ret ?_
  exact ret_intro [_] (resOf_loadA _m_25 rfl agg168 sz168 trivial) ⟨by simp [packed, GEdge.cs], E⟩

/-- laws.toEdgeS -/
theorem c_laws_toEdgeS {w : World} {LL_a _B_a : Nat} {_v_a : Value} {a : List GEdge} (_h_a : Ls GEdge.cs 4 w LL_a _B_a _v_a a) (hb : a.length ≤ 1048576) :
    Ctr Try.prog 79 #[_v_a] w (fun v w' => Ol GEdge.cs 168 4 w' v (a) ∧ Lo w.heap.size v ∧ Ch [] w w') := by
  obtain ⟨_A_a, _C_a, _e1_a⟩ := _h_a.val
  subst _e1_a
  have _l_a := _h_a.len
  have _h_a := _h_a.here (by decide)
  have E := Ch.refl [] w
  refine Ctr_of_W (N := 23) (vs0 := [(.slice _A_a a.length _C_a)]) Try.func79 rfl rfl rfl ?_
  refine W_seq fun _K_1 _hK_1 => ?_
  refine W_region ?_
  refine WL_step rfl rfl (r_assign rfl) ?_
  refine WL_nil ?_
  refine thn_nrm (_hK_1 _ _ ?_)
  clear _hK_1
  refine W_seq fun _K_2 _hK_2 => ?_
  refine W_region ?_
  refine WL_step rfl rfl (r_move rfl) ?_
  refine WL_step rfl rfl (r_len (by rw [el44]; rfl) rfl) ?_
  refine WL_s rfl rfl ?_
  refine s_make (cs := GEdge.cs) (⟨0, 0, 0, 0⟩ : GEdge) el55 sz168 by168 zr168 GEdge.len (by decide) rfl rfl (by omega) (by omega) fun _v7 _w_3 _q7 _lo7 _cw_3 => ?_
  have _cw_3z := _cw_3.size
  have E := E.trans _cw_3
  obtain ⟨_Av7, _Cv7, _ev7⟩ := _q7.val
  subst _ev7
  have _lv7 := _q7.len
  have _hiv7 := _q7.lt
  refine WL_step rfl rfl (r_assign rfl) ?_
  refine WL_nil ?_
  refine thn_nrm (_hK_2 _ _ ?_)
  clear _hK_2
  refine W_seq fun _K_4 _hK_4 => ?_
  refine W_seq fun _K_5 _hK_5 => ?_
  refine W_region ?_
  refine WL_step rfl rfl (r_assign rfl) ?_
  refine WL_nil ?_
  refine thn_nrm (_hK_5 _ _ ?_)
  clear _hK_5
  refine W_block ?_
  have _oi_6 : Ol GEdge.cs 168 4 _w_3 (.slice _Av7 ((List.replicate a.length (⟨0, 0, 0, 0⟩ : GEdge))).length _Cv7) (a.take 0 ++ List.replicate (a.length - 0) (⟨0, 0, 0, 0⟩ : GEdge)) := by
    have hx := _q7
    simpa using hx
  refine W_loop (σ := Nat) (fun (k : Nat) => [(0, (.slice _A_a a.length _C_a)), (2, (.slice none 0 0)), (3, (.slice _Av7 ((List.replicate a.length (⟨0, 0, 0, 0⟩ : GEdge))).length _Cv7)), (4, (.int .i64 ((k : Nat) : Int)))]) (fun (k : Nat) wx => Ch [] w wx ∧ _w_3.heap.size ≤ wx.heap.size ∧ (k ≤ a.length) ∧ Ol GEdge.cs 168 4 wx (.slice _Av7 ((List.replicate a.length (⟨0, 0, 0, 0⟩ : GEdge))).length _Cv7) (a.take k ++ List.replicate (a.length - k) (⟨0, 0, 0, 0⟩ : GEdge))) (fun (k : Nat) => a.length - k) 0 (Sub.cons rfl (Sub.cons rfl (Sub.cons rfl (Sub.cons rfl (Sub.nil _))))) ⟨E, (Nat.le_refl _), (by omega), _oi_6⟩ ?_
  rintro k _wr_7 ⟨E, _zz0, _hk, _o0_3⟩
  have _E0h := E
  have _E0hz := _E0h.size
  refine W_seq fun _K_8 _hK_8 => ?_
  refine W_seq fun _K_9 _hK_9 => ?_
  refine W_region ?_
  refine WL_step rfl rfl (r_move rfl) ?_
  refine WL_step rfl rfl (r_move rfl) ?_
  refine WL_step rfl rfl (r_len (by rw [el44]; rfl) rfl) ?_
  refine WL_step rfl rfl (r_lss rfl rfl) ?_
  refine WL_nil ?_
  refine thn_nrm (_hK_9 _ _ ?_)
  clear _hK_9
  refine W_cond rfl (fun _h11 => ?_) (fun _h11 => ?_)
  · have _kb_10 := _h11
    have _h11 := bt_d _h11
    refine W_skip ?_
    refine thn_nrm (_hK_8 _ _ ?_)
    clear _hK_8
    refine W_seq fun _K_11 _hK_11 => ?_
    refine W_block ?_
    refine W_region ?_
    refine WL_step rfl rfl (r_move rfl) ?_
    refine WL_step rfl rfl (r_move rfl) ?_
    refine WL_step rfl rfl (r_move rfl) ?_
    refine WL_step rfl rfl (r_move rfl) ?_
    refine WL_s rfl rfl ?_
    have _f_12 := (_h_a.ch0 _E0h)
    refine (s_index _f_12 GEdge.len el44 sz171 rfl rfl rfl (by omega) fun _p18 _y18 _hy18 _a18 => ?_)
    refine WL_step rfl rfl (r_loadAtA0 _a18 agg171 sz171 rfl) ?_
    refine WL_s rfl rfl ?_
    refine Step.call (r_call (xs := [.tmp 19]) fk132 rfl) (c_laws_toEdge _y18 ) fun _v20 _w_13 _q20 => ?_
    obtain ⟨rfl, _cw_13⟩ := _q20
    have _cw_13z := _cw_13.size
    have E := E.trans _cw_13
    refine WL_s rfl rfl ?_
    have _f_14 := (_o0_3.ch0 _cw_13)
    refine s_indexO (j := k) _f_14 el55 sz168 rfl rfl rfl (by simp; omega) fun _g21 _o21 _cp21 _q21 => ?_
    refine WL_s rfl rfl ?_
    refine s_storeO (j := k) _y18 _f_14 _q21 GEdge.len sz168 rfl rfl rfl rfl (by simp; omega) fun _w_15 _o_16 _cw_15 => ?_
    have _cw_15z := _cw_15.size
    have E := E.step _cw_15 (fun i hi => .inl (by have _h1 := _lo7 _ hi; omega))
    refine WL_nil ?_
    refine inB_nrm ?_
    refine thn_nrm (_hK_11 _ _ ?_)
    clear _hK_11
    refine W_region ?_
    refine WL_step rfl rfl (r_move rfl) ?_
    refine WL_step rfl rfl (r_add (by omega) rfl rfl) ?_
    refine WL_step rfl rfl (r_assign rfl) ?_
    refine WL_nil ?_
    have _on_17 : Ol GEdge.cs 168 4 _w_15 (.slice _Av7 ((List.replicate a.length (⟨0, 0, 0, 0⟩ : GEdge))).length _Cv7) (a.take (k + 1) ++ List.replicate (a.length - (k + 1)) (⟨0, 0, 0, 0⟩ : GEdge)) := by
      have hx := _o_16
      rwa [fill_step a (⟨0, 0, 0, 0⟩ : GEdge) _hy18] at hx
    exact thn_nrm (Exists.intro (k + 1) ⟨⟨E, (by omega), (by omega), _on_17⟩, Sub.cons rfl (Sub.cons rfl (Sub.cons rfl (Sub.cons rfl (Sub.nil _)))), (by first | omega | (dsimp only; omega))⟩)
  · have _kb_10 := _h11
    have _h11 := bf_d _h11
    refine W_exit (thn_exit (thn_exit (inB_hit ?_)))
    refine thn_nrm (_hK_4 _ _ ?_)
    clear _hK_4
    refine W_seq fun _K_18 _hK_18 => ?_
    refine W_region ?_
    refine WL_step rfl rfl (r_move rfl) ?_
    refine WL_step rfl rfl (r_assign rfl) ?_
    refine WL_nil ?_
    refine thn_nrm (_hK_18 _ _ ?_)
    clear _hK_18
    refine W_ret ?_
    clear _hK_8
    have _o_19 : Ol GEdge.cs 168 4 _wr_7 (.slice _Av7 ((List.replicate a.length (⟨0, 0, 0, 0⟩ : GEdge))).length _Cv7) (a) := by
      have hx := _o0_3
      simpa [List.take_of_length_le (show a.length ≤ k by omega), show a.length - k = 0 by omega] using hx
    exact ret_intro [_] ⟨rfl, trivial⟩ ⟨_o_19, Lo.down _lo7 (by omega), E⟩

/-- laws.toIntS -/
theorem c_laws_toIntS {w : World} {LL_a _B_a : Nat} {_v_a : Value} {a : List Int} (_h_a : Ls ics 1 w LL_a _B_a _v_a a) (hb : a.length ≤ 1048576) :
    Ctr Try.prog 78 #[_v_a] w (fun v w' => Ol ics 3 1 w' v (a) ∧ Lo w.heap.size v ∧ Ch [] w w') := by
  obtain ⟨_A_a, _C_a, _e1_a⟩ := _h_a.val
  subst _e1_a
  have _l_a := _h_a.len
  have _h_a := _h_a.here (by decide)
  have E := Ch.refl [] w
  refine Ctr_of_W (N := 22) (vs0 := [(.slice _A_a a.length _C_a)]) Try.func78 rfl rfl rfl ?_
  refine W_seq fun _K_1 _hK_1 => ?_
  refine W_region ?_
  refine WL_step rfl rfl (r_assign rfl) ?_
  refine WL_nil ?_
  refine thn_nrm (_hK_1 _ _ ?_)
  clear _hK_1
  refine W_seq fun _K_2 _hK_2 => ?_
  refine W_region ?_
  refine WL_step rfl rfl (r_move rfl) ?_
  refine WL_step rfl rfl (r_len (by rw [el43]; rfl) rfl) ?_
  refine WL_s rfl rfl ?_
  refine s_make (cs := ics) (0 : Int) el43 sz3 by3 zr3 ics_len (by decide) rfl rfl (by omega) (by omega) fun _v7 _w_3 _q7 _lo7 _cw_3 => ?_
  have _cw_3z := _cw_3.size
  have E := E.trans _cw_3
  obtain ⟨_Av7, _Cv7, _ev7⟩ := _q7.val
  subst _ev7
  have _lv7 := _q7.len
  have _hiv7 := _q7.lt
  refine WL_step rfl rfl (r_assign rfl) ?_
  refine WL_nil ?_
  refine thn_nrm (_hK_2 _ _ ?_)
  clear _hK_2
  refine W_seq fun _K_4 _hK_4 => ?_
  refine W_seq fun _K_5 _hK_5 => ?_
  refine W_region ?_
  refine WL_step rfl rfl (r_assign rfl) ?_
  refine WL_nil ?_
  refine thn_nrm (_hK_5 _ _ ?_)
  clear _hK_5
  refine W_block ?_
  have _oi_6 : Ol ics 3 1 _w_3 (.slice _Av7 ((List.replicate a.length (0 : Int))).length _Cv7) (a.take 0 ++ List.replicate (a.length - 0) (0 : Int)) := by
    have hx := _q7
    simpa using hx
  refine W_loop (σ := Nat) (fun (k : Nat) => [(0, (.slice _A_a a.length _C_a)), (2, (.slice none 0 0)), (3, (.slice _Av7 ((List.replicate a.length (0 : Int))).length _Cv7)), (4, (.int .i64 ((k : Nat) : Int)))]) (fun (k : Nat) wx => Ch [] w wx ∧ _w_3.heap.size ≤ wx.heap.size ∧ (k ≤ a.length) ∧ Ol ics 3 1 wx (.slice _Av7 ((List.replicate a.length (0 : Int))).length _Cv7) (a.take k ++ List.replicate (a.length - k) (0 : Int))) (fun (k : Nat) => a.length - k) 0 (Sub.cons rfl (Sub.cons rfl (Sub.cons rfl (Sub.cons rfl (Sub.nil _))))) ⟨E, (Nat.le_refl _), (by omega), _oi_6⟩ ?_
  rintro k _wr_7 ⟨E, _zz0, _hk, _o0_3⟩
  have _E0h := E
  have _E0hz := _E0h.size
  refine W_seq fun _K_8 _hK_8 => ?_
  refine W_seq fun _K_9 _hK_9 => ?_
  refine W_region ?_
  refine WL_step rfl rfl (r_move rfl) ?_
  refine WL_step rfl rfl (r_move rfl) ?_
  refine WL_step rfl rfl (r_len (by rw [el43]; rfl) rfl) ?_
  refine WL_step rfl rfl (r_lss rfl rfl) ?_
  refine WL_nil ?_
  refine thn_nrm (_hK_9 _ _ ?_)
  clear _hK_9
  refine W_cond rfl (fun _h11 => ?_) (fun _h11 => ?_)
  · have _kb_10 := _h11
    have _h11 := bt_d _h11
    refine W_skip ?_
    refine thn_nrm (_hK_8 _ _ ?_)
    clear _hK_8
    refine W_seq fun _K_11 _hK_11 => ?_
    refine W_block ?_
    refine W_region ?_
    refine WL_step rfl rfl (r_move rfl) ?_
    refine WL_step rfl rfl (r_move rfl) ?_
    refine WL_step rfl rfl (r_move rfl) ?_
    refine WL_step rfl rfl (r_move rfl) ?_
    refine WL_s rfl rfl ?_
    have _f_12 := (_h_a.ch0 _E0h)
    refine (s_index _f_12 ics_len el43 sz3 rfl rfl rfl (by omega) fun _p18 _y18 _hy18 _a18 => ?_)
    refine WL_step rfl rfl (r_loadAt0 _a18 agg3 rfl rfl) ?_
    refine WL_s rfl rfl ?_
    refine s_indexO (j := k) _o0_3 el43 sz3 rfl rfl rfl (by simp; omega) fun _g20 _o20 _cp20 _q20 => ?_
    refine WL_s rfl rfl ?_
    refine s_storeO (j := k) _y18 _o0_3 _q20 ics_len sz3 rfl rfl rfl rfl (by simp; omega) fun _w_13 _o_14 _cw_13 => ?_
    have _cw_13z := _cw_13.size
    have E := E.step _cw_13 (fun i hi => .inl (by have _h1 := _lo7 _ hi; omega))
    refine WL_nil ?_
    refine inB_nrm ?_
    refine thn_nrm (_hK_11 _ _ ?_)
    clear _hK_11
    refine W_region ?_
    refine WL_step rfl rfl (r_move rfl) ?_
    refine WL_step rfl rfl (r_add (by omega) rfl rfl) ?_
    refine WL_step rfl rfl (r_assign rfl) ?_
    refine WL_nil ?_
    have _on_15 : Ol ics 3 1 _w_13 (.slice _Av7 ((List.replicate a.length (0 : Int))).length _Cv7) (a.take (k + 1) ++ List.replicate (a.length - (k + 1)) (0 : Int)) := by
      have hx := _o_14
      rwa [fill_step a (0 : Int) _hy18] at hx
    exact thn_nrm (Exists.intro (k + 1) ⟨⟨E, (by omega), (by omega), _on_15⟩, Sub.cons rfl (Sub.cons rfl (Sub.cons rfl (Sub.cons rfl (Sub.nil _)))), (by first | omega | (dsimp only; omega))⟩)
  · have _kb_10 := _h11
    have _h11 := bf_d _h11
    refine W_exit (thn_exit (thn_exit (inB_hit ?_)))
    refine thn_nrm (_hK_4 _ _ ?_)
    clear _hK_4
    refine W_seq fun _K_16 _hK_16 => ?_
    refine W_region ?_
    refine WL_step rfl rfl (r_move rfl) ?_
    refine WL_step rfl rfl (r_assign rfl) ?_
    refine WL_nil ?_
    refine thn_nrm (_hK_16 _ _ ?_)
    clear _hK_16
    refine W_ret ?_
    clear _hK_8
    have _o_17 : Ol ics 3 1 _wr_7 (.slice _Av7 ((List.replicate a.length (0 : Int))).length _Cv7) (a) := by
      have hx := _o0_3
      simpa [List.take_of_length_le (show a.length ≤ k by omega), show a.length - k = 0 by omega] using hx
    exact ret_intro [_] ⟨rfl, trivial⟩ ⟨_o_17, Lo.down _lo7 (by omega), E⟩

/-- laws.toGraph -/
theorem c_laws_toGraph {w : World} {LL_aV _B_aV : Nat} {_v_aV : Value} {aV : List Int} (_h_aV : Ls ics 1 w LL_aV _B_aV _v_aV aV) {LL_aE _B_aE : Nat} {_v_aE : Value} {aE : List GEdge} (_h_aE : Ls GEdge.cs 4 w LL_aE _B_aE _v_aE aE) (hb : aV.length + aE.length ≤ 1048576) :
    Ctr Try.prog 28 #[(.agg #[_v_aV, _v_aE])] w (fun v w' => ∃ (u0x0 : Value) (u0x1 : Value), v = .agg #[u0x0, u0x1] ∧ Ol ics 3 1 w' u0x0 (aV) ∧ Lo w.heap.size u0x0 ∧ Ol GEdge.cs 168 4 w' u0x1 (aE) ∧ Lo w.heap.size u0x1 ∧ (∀ g ∈ bl u0x0, g ∉ bl u0x1) ∧ Ch [] w w') := by
  obtain ⟨_A_aV, _C_aV, _e1_aV⟩ := _h_aV.val
  subst _e1_aV
  have _l_aV := _h_aV.len
  have _h_aV := _h_aV.here (by decide)
  obtain ⟨_A_aE, _C_aE, _e1_aE⟩ := _h_aE.val
  subst _e1_aE
  have _l_aE := _h_aE.len
  have _h_aE := _h_aE.here (by decide)
  have E := Ch.refl [] w
  refine Ctr_of_W (N := 13) (vs0 := [(.agg #[(.slice _A_aV aV.length _C_aV), (.slice _A_aE aE.length _C_aE)])]) Try.func28 rfl rfl rfl ?_
  refine W_seq fun _K_1 _hK_1 => ?_
  refine W_region ?_
  refine WL_s rfl rfl ?_
  refine s_box rfl fun _b1 _w_2 _m1 _cw_2 _e1 => ?_
  have _cw_2z := _cw_2.size
  have E := E.trans _cw_2
  have _z1 := _m1.lt
  replace _m1 : Blk _w_2 _b1 46 [(.slice _A_aV aV.length _C_aV), (.slice _A_aE aE.length _C_aE)] := _m1
  refine WL_s rfl rfl ?_
  refine s_alloc zr57 fun _b2 _w_3 _m2 _cw_3 _e2 => ?_
  have _cw_3z := _cw_3.size
  have E := E.trans _cw_3
  have _z2 := _m2.lt
  replace _m2 : Blk _w_3 _b2 57 [(.slice none 0 0), (.slice none 0 0)] := _m2
  refine WL_nil ?_
  refine thn_nrm (_hK_1 _ _ ?_)
  clear _hK_1
  refine W_seq fun _K_4 _hK_4 => ?_
  refine W_region ?_
  refine WL_s rfl rfl ?_
  refine s_alloc zr57 fun _b3 _w_5 _m3 _cw_5 _e3 => ?_
  have _cw_5z := _cw_5.size
  have E := E.trans _cw_5
  have _z3 := _m3.lt
  replace _m3 : Blk _w_5 _b3 57 [(.slice none 0 0), (.slice none 0 0)] := _m3
  refine WL_nil ?_
  refine thn_nrm (_hK_4 _ _ ?_)
  clear _hK_4
  refine W_seq fun _K_6 _hK_6 => ?_
  refine W_region ?_
  refine WL_step rfl rfl (r_fieldAddr fa46_0 rfl) ?_
  have _f_7 := ((_m1.ch0 _cw_3).ch0 _cw_5)
  refine WL_step rfl rfl (r_loadAt _f_7.at_ agg43 rfl rfl) ?_
  refine WL_s rfl rfl ?_
  have _f_8 := (((_h_aV.ch0 _cw_2).ch0 _cw_3).ch0 _cw_5)
  refine Step.call (r_call (xs := [.tmp 5]) fk78 rfl) (c_laws_toIntS _f_8 (by omega)) fun _v6 _w_9 _q6 => ?_
  obtain ⟨_q6, _lo6, _cw_9⟩ := _q6
  have _cw_9z := _cw_9.size
  have E := E.trans _cw_9
  obtain ⟨_Av6, _Cv6, _ev6⟩ := _q6.val
  subst _ev6
  have _lv6 := _q6.len
  have _hiv6 := _q6.lt
  refine WL_step rfl rfl (r_fieldAddr fa57_0 rfl) ?_
  refine WL_s rfl rfl ?_
  have _f_10 := (_m3.ch0 _cw_9)
  refine s_store1 (off := 0) _f_10 sz43 rfl rfl rfl rfl fun _w_11 _m_12 _cw_11 => ?_
  have _cw_11z := _cw_11.size
  have E := E.step _cw_11 (fun i hi => .inl (by have _h1 := List.mem_singleton.1 hi; omega))
  replace _m_12 : Blk _w_11 _b3 57 [(.slice _Av6 (aV).length _Cv6), (.slice none 0 0)] := _m_12
  refine WL_nil ?_
  refine thn_nrm (_hK_6 _ _ ?_)
  clear _hK_6
  refine W_seq fun _K_13 _hK_13 => ?_
  refine W_region ?_
  refine WL_step rfl rfl (r_fieldAddr fa46_1 rfl) ?_
  have _f_14 := ((_f_7.ch0 _cw_9).ch _cw_11 (fun hm => by have _h1 := List.mem_singleton.1 hm; omega))
  refine WL_step rfl rfl (r_loadAt _f_14.at_ agg44 rfl rfl) ?_
  refine WL_s rfl rfl ?_
  have _f_15 := (((((_h_aE.ch0 _cw_2).ch0 _cw_3).ch0 _cw_5).ch0 _cw_9).ch _cw_11 (fun i hi => by have _h1 := List.mem_singleton.1 hi; omega))
  refine Step.call (r_call (xs := [.tmp 9]) fk79 rfl) (c_laws_toEdgeS _f_15 (by omega)) fun _v10 _w_16 _q10 => ?_
  obtain ⟨_q10, _lo10, _cw_16⟩ := _q10
  have _cw_16z := _cw_16.size
  have E := E.trans _cw_16
  obtain ⟨_Av10, _Cv10, _ev10⟩ := _q10.val
  subst _ev10
  have _lv10 := _q10.len
  have _hiv10 := _q10.lt
  refine WL_step rfl rfl (r_fieldAddr fa57_1 rfl) ?_
  refine WL_s rfl rfl ?_
  have _f_17 := (_m_12.ch0 _cw_16)
  refine s_store1 (off := 1) _f_17 sz55 rfl rfl rfl rfl fun _w_18 _m_19 _cw_18 => ?_
  have _cw_18z := _cw_18.size
  have E := E.step _cw_18 (fun i hi => .inl (by have _h1 := List.mem_singleton.1 hi; omega))
  replace _m_19 : Blk _w_18 _b3 57 [(.slice _Av6 (aV).length _Cv6), (.slice _Av10 (aE).length _Cv10)] := _m_19
  refine WL_nil ?_
  refine thn_nrm (_hK_13 _ _ ?_)
  clear _hK_13
  refine W_seq fun _K_20 _hK_20 => ?_
  refine W_region ?_
  refine WL_step rfl rfl (r_loadAtA0 _m_19.at_ agg57 sz57 rfl) ?_
  refine WL_s rfl rfl ?_
  have _f_21 := (((((_m2.ch0 _cw_5).ch0 _cw_9).ch _cw_11 (fun hm => by have _h1 := List.mem_singleton.1 hm; omega)).ch0 _cw_16).ch _cw_18 (fun hm => by have _h1 := List.mem_singleton.1 hm; omega))
  refine s_storeA (off := 0) 2 _f_21 sz57 rfl (us := [(.slice _Av6 (aV).length _Cv6), (.slice _Av10 (aE).length _Cv10)]) rfl rfl rfl rfl fun _w_22 _m_23 _cw_22 => ?_
  have _cw_22z := _cw_22.size
  have E := E.step _cw_22 (fun i hi => .inl (by have _h1 := List.mem_singleton.1 hi; omega))
  replace _m_23 : Blk _w_22 _b2 57 [(.slice _Av6 (aV).length _Cv6), (.slice _Av10 (aE).length _Cv10)] := _m_23
  refine WL_nil ?_
  refine thn_nrm (_hK_20 _ _ ?_)
  clear _hK_20
  refine W_ret ?_
  have _f_24 := ((((_q6.ch _cw_11 (fun g hg hm => by have _h0 := List.mem_singleton.1 hm; have _h2 := _lo6 _ hg; have _h3 := _hiv6 _ hg; omega)).ch0 _cw_16).ch _cw_18 (fun g hg hm => by have _h0 := List.mem_singleton.1 hm; have _h2 := _lo6 _ hg; have _h3 := _hiv6 _ hg; omega)).ch _cw_22 (fun g hg hm => by have _h0 := List.mem_singleton.1 hm; have _h2 := _lo6 _ hg; have _h3 := _hiv6 _ hg; omega))
  have _o_25 : Ol ics 3 1 _w_22 (.slice _Av6 (aV).length _Cv6) (aV) := by
    have hx := _f_24
    first | exact hx | simpa using hx
  have _f_26 := ((_q10.ch _cw_18 (fun g hg hm => by have _h0 := List.mem_singleton.1 hm; have _h2 := _lo10 _ hg; have _h3 := _hiv10 _ hg; omega)).ch _cw_22 (fun g hg hm => by have _h0 := List.mem_singleton.1 hm; have _h2 := _lo10 _ hg; have _h3 := _hiv10 _ hg; omega))
  have _o_27 : Ol GEdge.cs 168 4 _w_22 (.slice _Av10 (aE).length _Cv10) (aE) := by
    have hx := _f_26
    first | exact hx | simpa using hx
  exact ret_intro [_] (resOf_loadA _m_23 rfl agg57 sz57 trivial) ⟨(.slice _Av6 (aV).length _Cv6), (.slice _Av10 (aE).length _Cv10), rfl, _o_25, (Lo.down _lo6 (by omega)), _o_27, (Lo.down _lo10 (by omega)), (fun g hm hg => by have _h1 := _lo6 _ hm; have _h2 := _hiv6 _ hm; have _h3 := _lo10 _ hg; have _h4 := _hiv10 _ hg; omega), E⟩

/-- laws.toGraphS -/
theorem c_laws_toGraphS {w : World} {LL_sa _B_sa : Nat} {_v_sa : Value} {sa : List Gv} (_h_sa : Ls Gv.cs 2 w LL_sa _B_sa _v_sa sa) {LR_a BB_a : Nat} {a : List GD} (_rd_a : RdG w LR_a BB_a sa a) (hb : a.length + gsize a ≤ 1048576) :
    Ctr Try.prog 58 #[_v_sa] w (fun v w' => ∃ (_u0 : Value) (vs0 : List Gv), v = _u0 ∧ Ol Gv.cs 57 2 w' _u0 vs0 ∧ Lo w.heap.size _u0 ∧ OdG 3 168 w' w.heap.size w'.heap.size vs0 (a) ∧ SepH _u0 vs0 ∧ Ch [] w w') := by
  obtain ⟨_A_sa, _C_sa, _e1_sa⟩ := _h_sa.val
  subst _e1_sa
  have _l_sa := _h_sa.len
  have _h_sa := _h_sa.here (by decide)
  have _rd_a := _rd_a.here
  have _rl_a := _rd_a.1
  have E := Ch.refl [] w
  refine Ctr_of_W (N := 23) (vs0 := [(.slice _A_sa sa.length _C_sa)]) Try.func58 rfl rfl rfl ?_
  refine W_seq fun _K_1 _hK_1 => ?_
  refine W_region ?_
  refine WL_step rfl rfl (r_assign rfl) ?_
  refine WL_nil ?_
  refine thn_nrm (_hK_1 _ _ ?_)
  clear _hK_1
  refine W_seq fun _K_2 _hK_2 => ?_
  refine W_region ?_
  refine WL_step rfl rfl (r_move rfl) ?_
  refine WL_step rfl rfl (r_len (by rw [el22]; rfl) rfl) ?_
  refine WL_s rfl rfl ?_
  refine s_make (cs := Gv.cs) (⟨⟨none, 0, 0⟩, ⟨none, 0, 0⟩⟩ : Gv) el26 sz57 by57 zr57 Gv.len (by decide) rfl rfl (by omega) (by omega) fun _v7 _w_3 _q7 _lo7 _cw_3 => ?_
  have _cw_3z := _cw_3.size
  have E := E.trans _cw_3
  obtain ⟨_Av7, _Cv7, _ev7⟩ := _q7.val
  subst _ev7
  have _lv7 := _q7.len
  have _hiv7 := _q7.lt
  refine WL_step rfl rfl (r_assign rfl) ?_
  refine WL_nil ?_
  refine thn_nrm (_hK_2 _ _ ?_)
  clear _hK_2
  refine W_seq fun _K_4 _hK_4 => ?_
  refine W_seq fun _K_5 _hK_5 => ?_
  refine W_region ?_
  refine WL_step rfl rfl (r_assign rfl) ?_
  refine WL_nil ?_
  refine thn_nrm (_hK_5 _ _ ?_)
  clear _hK_5
  refine W_block ?_
  have _oi_6 : Ol Gv.cs 57 2 _w_3 (.slice _Av7 ((List.replicate sa.length (⟨⟨none, 0, 0⟩, ⟨none, 0, 0⟩⟩ : Gv))).length _Cv7) (([] : List Gv) ++ List.replicate (a.length - 0) (⟨⟨none, 0, 0⟩, ⟨none, 0, 0⟩⟩ : Gv)) := by
    have hx := _q7
    simpa [_rl_a] using hx
  refine W_loop (σ := Nat × List Gv) (fun ⟨k, vs⟩ => [(0, (.slice _A_sa sa.length _C_sa)), (2, (.slice none 0 0)), (3, (.slice _Av7 ((List.replicate sa.length (⟨⟨none, 0, 0⟩, ⟨none, 0, 0⟩⟩ : Gv))).length _Cv7)), (4, (.int .i64 ((k : Nat) : Int)))]) (fun ⟨k, vs⟩ wx => Ch [] w wx ∧ _w_3.heap.size ≤ wx.heap.size ∧ (k ≤ a.length) ∧ (vs.length = k) ∧ Ol Gv.cs 57 2 wx (.slice _Av7 ((List.replicate sa.length (⟨⟨none, 0, 0⟩, ⟨none, 0, 0⟩⟩ : Gv))).length _Cv7) (vs ++ List.replicate (a.length - k) (⟨⟨none, 0, 0⟩, ⟨none, 0, 0⟩⟩ : Gv)) ∧ OdG 3 168 wx _w_3.heap.size wx.heap.size vs (a.take k)) (fun ⟨k, vs⟩ => a.length - k) (0, ([] : List Gv)) (Sub.cons rfl (Sub.cons rfl (Sub.cons rfl (Sub.cons rfl (Sub.nil _))))) ⟨E, (Nat.le_refl _), (by omega), rfl, _oi_6, OdG.nil⟩ ?_
  rintro ⟨k, vs⟩ _wr_7 ⟨E, _zz0, _hk, hv, _o0_3, od⟩
  have _E0h := E
  have _E0hz := _E0h.size
  refine W_seq fun _K_8 _hK_8 => ?_
  refine W_seq fun _K_9 _hK_9 => ?_
  refine W_region ?_
  refine WL_step rfl rfl (r_move rfl) ?_
  refine WL_step rfl rfl (r_move rfl) ?_
  refine WL_step rfl rfl (r_len (by rw [el22]; rfl) rfl) ?_
  refine WL_step rfl rfl (r_lss rfl rfl) ?_
  refine WL_nil ?_
  refine thn_nrm (_hK_9 _ _ ?_)
  clear _hK_9
  refine W_cond rfl (fun _h11 => ?_) (fun _h11 => ?_)
  · have _kb_10 := _h11
    have _h11 := bt_d _h11
    refine W_skip ?_
    refine thn_nrm (_hK_8 _ _ ?_)
    clear _hK_8
    refine W_seq fun _K_11 _hK_11 => ?_
    refine W_block ?_
    refine W_region ?_
    refine WL_step rfl rfl (r_move rfl) ?_
    refine WL_step rfl rfl (r_move rfl) ?_
    refine WL_step rfl rfl (r_move rfl) ?_
    refine WL_step rfl rfl (r_move rfl) ?_
    refine WL_s rfl rfl ?_
    have _f_12 := (_h_sa.ch0 _E0h)
    refine (s_index _f_12 Gv.len el22 sz46 rfl rfl rfl (by omega) fun _p18 _y18 _hy18 _a18 => ?_)
    have _f_13 := (_rd_a.ch0 _E0h)
    obtain ⟨_ys18, _hys18, _fs18, fe18⟩ := _f_13.get _hy18
    obtain ⟨⟨_A18, _n18, _C18⟩, ⟨Ae18, ne18, Ce18⟩⟩ := _y18
    obtain rfl := _fs18.eqn
    obtain rfl := fe18.eqn
    have _l18 := _fs18.len
    have le18 := fe18.len
    replace _fs18 : Ls ics 1 _wr_7 LR_a w.heap.size (.slice _A18 _ys18.V.length _C18) _ys18.V := _fs18
    replace fe18 : Ls GEdge.cs 4 _wr_7 LR_a w.heap.size (.slice Ae18 _ys18.E.length Ce18) _ys18.E := fe18
    refine WL_step rfl rfl (r_loadAtA0 _a18 agg46 sz46 rfl) ?_
    refine WL_s rfl rfl ?_
    refine Step.call (r_call (xs := [.tmp 19]) fk28 rfl) (c_laws_toGraph _fs18 fe18 (by have _h9 := gsize_le _hys18; omega)) fun _v20 _w_14 _q20 => ?_
    obtain ⟨u20_0x0, u20_0x1, rfl, _q_u20_0x0, _lo_u20_0x0, _q_u20_0x1, _lo_u20_0x1, _dj_u20_0x0_u20_0x1, _cw_14⟩ := _q20
    have _cw_14z := _cw_14.size
    have E := E.trans _cw_14
    obtain ⟨Au20_0x0, Cu20_0x0, eu20_0x0⟩ := _q_u20_0x0.val
    subst eu20_0x0
    have lu20_0x0 := _q_u20_0x0.len
    have _hiu20_0x0 := _q_u20_0x0.lt
    obtain ⟨Au20_0x1, Cu20_0x1, eu20_0x1⟩ := _q_u20_0x1.val
    subst eu20_0x1
    have lu20_0x1 := _q_u20_0x1.len
    have _hiu20_0x1 := _q_u20_0x1.lt
    refine WL_s rfl rfl ?_
    have _f_15 := (_o0_3.ch0 _cw_14)
    refine s_indexO (j := k) _f_15 el26 sz57 rfl rfl rfl (by simp; omega) fun _g21 _o21 _cp21 _q21 => ?_
    refine WL_s rfl rfl ?_
    refine s_storeO (j := k) (⟨(⟨Au20_0x0, (_ys18.V).length, Cu20_0x0⟩ : Sv), (⟨Au20_0x1, (_ys18.E).length, Cu20_0x1⟩ : Sv)⟩ : Gv) _f_15 _q21 Gv.len sz57 rfl rfl rfl rfl (by simp; omega) fun _w_16 _o_17 _cw_16 => ?_
    have _cw_16z := _cw_16.size
    have E := E.step _cw_16 (fun i hi => .inl (by have _h1 := _lo7 _ hi; omega))
    refine WL_nil ?_
    refine inB_nrm ?_
    refine thn_nrm (_hK_11 _ _ ?_)
    clear _hK_11
    refine W_region ?_
    refine WL_step rfl rfl (r_move rfl) ?_
    refine WL_step rfl rfl (r_add (by omega) rfl rfl) ?_
    refine WL_step rfl rfl (r_assign rfl) ?_
    refine WL_nil ?_
    have _on_18 : Ol Gv.cs 57 2 _w_16 (.slice _Av7 ((List.replicate sa.length (⟨⟨none, 0, 0⟩, ⟨none, 0, 0⟩⟩ : Gv))).length _Cv7) ((vs ++ [(⟨(⟨Au20_0x0, (_ys18.V).length, Cu20_0x0⟩ : Sv), (⟨Au20_0x1, (_ys18.E).length, Cu20_0x1⟩ : Sv)⟩ : Gv)]) ++ List.replicate (a.length - (k + 1)) (⟨⟨none, 0, 0⟩, ⟨none, 0, 0⟩⟩ : Gv)) := by
      have hx := _o_17
      rwa [fill_gv hv (by omega)] at hx
    have _f_19 := ((od.ch0 _cw_14).ch _cw_16 (fun i hm => by have _h1 := _lo7 _ hm; have _h2 := _hiv7 _ hm; omega))
    have _f_20 := (_q_u20_0x0.ch _cw_16 (fun g hg hm => by have _h1 := _lo7 _ hm; have _h2 := _hiv7 _ hm; have _h3 := _lo_u20_0x0 _ hg; have _h4 := _hiu20_0x0 _ hg; omega))
    have _f_21 := (_q_u20_0x1.ch _cw_16 (fun g hg hm => by have _h1 := _lo7 _ hm; have _h2 := _hiv7 _ hm; have _h3 := _lo_u20_0x1 _ hg; have _h4 := _hiu20_0x1 _ hg; omega))
    exact thn_nrm (Exists.intro ((k + 1), (vs ++ [(⟨(⟨Au20_0x0, (_ys18.V).length, Cu20_0x0⟩ : Sv), (⟨Au20_0x1, (_ys18.E).length, Cu20_0x1⟩ : Sv)⟩ : Gv)])) ⟨⟨E, (by omega), (by omega), (by simp [hv]), _on_18, (by rw [take_snoc _hys18]; exact OdG.snoc _f_19 (x := _ys18) _f_20 _f_21 (Lo.down _lo_u20_0x0 (by omega)) (Lo.down _lo_u20_0x1 (by omega)) (fun g hg => by have _h1 := _hiu20_0x0 g hg; omega) (fun g hg => by have _h1 := _hiu20_0x1 g hg; omega) (fun g hm hg => by exact _dj_u20_0x0_u20_0x1 _ hm hg) (by omega) (by omega))⟩, Sub.cons rfl (Sub.cons rfl (Sub.cons rfl (Sub.cons rfl (Sub.nil _)))), (by first | omega | (dsimp only; omega))⟩)
  · have _kb_10 := _h11
    have _h11 := bf_d _h11
    refine W_exit (thn_exit (thn_exit (inB_hit ?_)))
    refine thn_nrm (_hK_4 _ _ ?_)
    clear _hK_4
    refine W_seq fun _K_22 _hK_22 => ?_
    refine W_region ?_
    refine WL_step rfl rfl (r_move rfl) ?_
    refine WL_step rfl rfl (r_assign rfl) ?_
    refine WL_nil ?_
    refine thn_nrm (_hK_22 _ _ ?_)
    clear _hK_22
    refine W_ret ?_
    clear _hK_8
    have _o_23 : Ol Gv.cs 57 2 _wr_7 (.slice _Av7 ((List.replicate sa.length (⟨⟨none, 0, 0⟩, ⟨none, 0, 0⟩⟩ : Gv))).length _Cv7) vs := by
      have hx := _o0_3
      simpa [show a.length - k = 0 by omega, show sa.length - k = 0 by omega] using hx
    have _o_24 : OdG 3 168 _wr_7 w.heap.size _wr_7.heap.size vs (a) := by
      have hx := od.up (lo' := w.heap.size) (hi' := _wr_7.heap.size) (by omega) (by omega)
      rwa [List.take_of_length_le (by omega)] at hx
    exact ret_intro [_] ⟨rfl, trivial⟩ ⟨(.slice _Av7 ((List.replicate sa.length (⟨⟨none, 0, 0⟩, ⟨none, 0, 0⟩⟩ : Gv))).length _Cv7), vs, rfl, _o_23, (Lo.down _lo7 (by omega)), _o_24, (OdG.sepH od (fun g hm => by have _h1 := _lo7 _ hm; have _h2 := _hiv7 _ hm; omega)), E⟩

/-- laws.toHistory -/
theorem c_laws_toHistory {w : World} (aF : Int) {LL_saG _B_saG : Nat} {_v_saG : Value} {saG : List Gv} (_h_saG : Ls Gv.cs 2 w LL_saG _B_saG _v_saG saG) {LR_aG BB_aG : Nat} {aG : List GD} (_rd_aG : RdG w LR_aG BB_aG saG aG) (hb : aG.length + gsize aG ≤ 1048576) :
    Ctr Try.prog 11 #[(.agg #[(.int .i64 aF), _v_saG])] w (fun v w' => ∃ (u0x1 : Value) (vs0x1 : List Gv), v = .agg #[.int .i64 aF, u0x1] ∧ Ol Gv.cs 57 2 w' u0x1 vs0x1 ∧ Lo w.heap.size u0x1 ∧ OdG 3 168 w' w.heap.size w'.heap.size vs0x1 (aG) ∧ SepH u0x1 vs0x1 ∧ Ch [] w w') := by
  obtain ⟨_A_saG, _C_saG, _e1_saG⟩ := _h_saG.val
  subst _e1_saG
  have _l_saG := _h_saG.len
  have _h_saG := _h_saG.here (by decide)
  have _rd_aG := _rd_aG.here
  have _rl_aG := _rd_aG.1
  have E := Ch.refl [] w
  refine Ctr_of_W (N := 12) (vs0 := [(.agg #[(.int .i64 aF), (.slice _A_saG saG.length _C_saG)])]) Try.func11 rfl rfl rfl ?_
  refine W_seq fun _K_1 _hK_1 => ?_
  refine W_region ?_
  refine WL_s rfl rfl ?_
  refine s_box rfl fun _b1 _w_2 _m1 _cw_2 _e1 => ?_
  have _cw_2z := _cw_2.size
  have E := E.trans _cw_2
  have _z1 := _m1.lt
  replace _m1 : Blk _w_2 _b1 24 [(.int .i64 aF), (.slice _A_saG saG.length _C_saG)] := _m1
  refine WL_s rfl rfl ?_
  refine s_alloc zr28 fun _b2 _w_3 _m2 _cw_3 _e2 => ?_
  have _cw_3z := _cw_3.size
  have E := E.trans _cw_3
  have _z2 := _m2.lt
  replace _m2 : Blk _w_3 _b2 28 [(.int .i64 0), (.slice none 0 0)] := _m2
  refine WL_nil ?_
  refine thn_nrm (_hK_1 _ _ ?_)
  clear _hK_1
  refine W_seq fun _K_4 _hK_4 => ?_
  refine W_region ?_
  refine WL_s rfl rfl ?_
  refine s_alloc zr28 fun _b3 _w_5 _m3 _cw_5 _e3 => ?_
  have _cw_5z := _cw_5.size
  have E := E.trans _cw_5
  have _z3 := _m3.lt
  replace _m3 : Blk _w_5 _b3 28 [(.int .i64 0), (.slice none 0 0)] := _m3
  refine WL_nil ?_
  refine thn_nrm (_hK_4 _ _ ?_)
  clear _hK_4
  refine W_seq fun _K_6 _hK_6 => ?_
  refine W_region ?_
  refine WL_step rfl rfl (r_fieldAddr fa24_0 rfl) ?_
  have _f_7 := ((_m1.ch0 _cw_3).ch0 _cw_5)
  refine WL_step rfl rfl (r_loadAt _f_7.at_ agg3 rfl rfl) ?_
  refine WL_step rfl rfl (r_fieldAddr fa28_0 rfl) ?_
  refine WL_s rfl rfl ?_
  refine s_store1 (off := 0) _m3 sz3 rfl rfl rfl rfl fun _w_8 _m_9 _cw_8 => ?_
  have _cw_8z := _cw_8.size
  have E := E.step _cw_8 (fun i hi => .inl (by have _h1 := List.mem_singleton.1 hi; omega))
  replace _m_9 : Blk _w_8 _b3 28 [(.int .i64 aF), (.slice none 0 0)] := _m_9
  refine WL_nil ?_
  refine thn_nrm (_hK_6 _ _ ?_)
  clear _hK_6
  refine W_seq fun _K_10 _hK_10 => ?_
  refine W_region ?_
  refine WL_step rfl rfl (r_fieldAddr fa24_1 rfl) ?_
  have _f_11 := (_f_7.ch _cw_8 (fun hm => by have _h1 := List.mem_singleton.1 hm; omega))
  refine WL_step rfl rfl (r_loadAt _f_11.at_ agg22 rfl rfl) ?_
  refine WL_s rfl rfl ?_
  have _f_12 := ((((_h_saG.ch0 _cw_2).ch0 _cw_3).ch0 _cw_5).ch _cw_8 (fun i hi => by have _h1 := List.mem_singleton.1 hi; omega))
  have _f_13 := ((((_rd_aG.ch0 _cw_2).ch0 _cw_3).ch0 _cw_5).ch _cw_8 (fun i hi => by have _h1 := List.mem_singleton.1 hi; omega))
  refine Step.call (r_call (xs := [.tmp 8]) fk58 rfl) (c_laws_toGraphS _f_12 _f_13 (by omega)) fun _v9 _w_14 _q9 => ?_
  obtain ⟨u9_0, _vs9_0, rfl, _q_u9_0, _lo_u9_0, rg_vs9_0, _sep_vs9_0, _cw_14⟩ := _q9
  have _cw_14z := _cw_14.size
  have E := E.trans _cw_14
  obtain ⟨Au9_0, Cu9_0, eu9_0⟩ := _q_u9_0.val
  subst eu9_0
  have lu9_0 := _q_u9_0.len
  have _hiu9_0 := _q_u9_0.lt
  refine WL_step rfl rfl (r_fieldAddr fa28_1 rfl) ?_
  refine WL_s rfl rfl ?_
  have _f_15 := (_m_9.ch0 _cw_14)
  refine s_store1 (off := 1) _f_15 sz26 rfl rfl rfl rfl fun _w_16 _m_17 _cw_16 => ?_
  have _cw_16z := _cw_16.size
  have E := E.step _cw_16 (fun i hi => .inl (by have _h1 := List.mem_singleton.1 hi; omega))
  replace _m_17 : Blk _w_16 _b3 28 [(.int .i64 aF), (.slice Au9_0 (_vs9_0).length Cu9_0)] := _m_17
  refine WL_nil ?_
  refine thn_nrm (_hK_10 _ _ ?_)
  clear _hK_10
  refine W_seq fun _K_18 _hK_18 => ?_
  refine W_region ?_
  refine WL_step rfl rfl (r_loadAtA0 _m_17.at_ agg28 sz28 rfl) ?_
  refine WL_s rfl rfl ?_
  have _f_19 := ((((_m2.ch0 _cw_5).ch _cw_8 (fun hm => by have _h1 := List.mem_singleton.1 hm; omega)).ch0 _cw_14).ch _cw_16 (fun hm => by have _h1 := List.mem_singleton.1 hm; omega))
  refine s_storeA (off := 0) 2 _f_19 sz28 rfl (us := [(.int .i64 aF), (.slice Au9_0 (_vs9_0).length Cu9_0)]) rfl rfl rfl rfl fun _w_20 _m_21 _cw_20 => ?_
  have _cw_20z := _cw_20.size
  have E := E.step _cw_20 (fun i hi => .inl (by have _h1 := List.mem_singleton.1 hi; omega))
  replace _m_21 : Blk _w_20 _b2 28 [(.int .i64 aF), (.slice Au9_0 (_vs9_0).length Cu9_0)] := _m_21
  refine WL_nil ?_
  refine thn_nrm (_hK_18 _ _ ?_)
  clear _hK_18
  refine W_ret ?_
  have _f_24 := ((_q_u9_0.ch _cw_16 (fun g hg hm => by have _h0 := List.mem_singleton.1 hm; have _h2 := _lo_u9_0 _ hg; have _h3 := _hiu9_0 _ hg; omega)).ch _cw_20 (fun g hg hm => by have _h0 := List.mem_singleton.1 hm; have _h2 := _lo_u9_0 _ hg; have _h3 := _hiu9_0 _ hg; omega))
  have _f_25 := ((rg_vs9_0.ch _cw_16 (fun i hi => by have _h1 := List.mem_singleton.1 hi; omega)).ch _cw_20 (fun i hi => by have _h1 := List.mem_singleton.1 hi; omega))
  have _o_22 : Ol Gv.cs 57 2 _w_20 (.slice Au9_0 (_vs9_0).length Cu9_0) _vs9_0 := by
    have hx := _f_24
    exact hx
  have _o_23 : OdG 3 168 _w_20 w.heap.size _w_20.heap.size _vs9_0 (aG) := by
    have hx := _f_25.up (lo' := w.heap.size) (hi' := _w_20.heap.size) (by omega) (by omega)
    exact hx
  exact ret_intro [_] (resOf_loadA _m_21 rfl agg28 sz28 trivial) ⟨(.slice Au9_0 (_vs9_0).length Cu9_0), _vs9_0, (congrArg (fun zq => (Value.agg #[.int .i64 zq, (.slice Au9_0 (_vs9_0).length Cu9_0)])) (by first | rfl | simp_all)), _o_22, (Lo.down _lo_u9_0 (by omega)), _o_23, _sep_vs9_0, E⟩

/-- spec.l1In -/
theorem c_spec_l1In {w : World} (n : Int) (a : Int) (b : Int) :
    Ctr Try.prog 56 #[(.int .i64 n), (.int .i64 a), (.int .i64 b)] w (fun v w' => v = .bool (decide (a ≤ n ∧ n ≤ b)) ∧ Ch [] w w') := by
  have E := Ch.refl [] w
  refine Ctr_of_W (N := 15) (vs0 := [(.int .i64 n), (.int .i64 a), (.int .i64 b)]) Try.func56 rfl rfl rfl ?_
  refine W_seq fun _K_1 _hK_1 => ?_
  refine W_region ?_
  refine WL_step rfl rfl (r_assign rfl) ?_
  refine WL_nil ?_
  refine thn_nrm (_hK_1 _ _ ?_)
  clear _hK_1
  refine W_seq fun _K_2 _hK_2 => ?_
  refine W_region ?_
  refine WL_step rfl rfl (r_move rfl) ?_
  refine WL_step rfl rfl (r_move rfl) ?_
  refine WL_step rfl rfl (r_geq rfl rfl) ?_
  refine WL_step rfl rfl (r_move rfl) ?_
  refine WL_split (d := 10) rfl (fun _h10 => ?_) (fun _h10 => ?_)
  · have _kb_3 := _h10
    have _h10 := bt_d _h10
    refine WL_step rfl rfl (r_move rfl) ?_
    refine WL_step rfl rfl (r_move rfl) ?_
    refine WL_step rfl rfl (r_leq rfl rfl) ?_
    refine WL_step rfl rfl (r_pickT rfl rfl) ?_
    refine WL_step rfl rfl (r_assign rfl) ?_
    refine WL_nil ?_
    refine thn_nrm (_hK_2 _ _ ?_)
    clear _hK_2
    refine W_ret ?_
    exact ret_intro [_] ⟨rfl, trivial⟩ ⟨congrArg Value.bool (by first | rfl | (rw [Bool.eq_iff_iff]; simp <;> omega) | (rw [Bool.eq_iff_iff]; simp_all; done) | simp_all), E⟩
  · have _kb_3 := _h10
    have _h10 := bf_d _h10
    refine WL_skip rfl rfl ?_
    refine WL_skip rfl rfl ?_
    refine WL_skip rfl rfl ?_
    refine WL_step rfl rfl (r_pickF rfl rfl) ?_
    refine WL_step rfl rfl (r_assign rfl) ?_
    refine WL_nil ?_
    refine thn_nrm (_hK_2 _ _ ?_)
    clear _hK_2
    refine W_ret ?_
    exact ret_intro [_] ⟨rfl, trivial⟩ ⟨congrArg Value.bool (by first | rfl | (rw [Bool.eq_iff_iff]; simp <;> omega) | (rw [Bool.eq_iff_iff]; simp_all; done) | simp_all), E⟩

/-- spec.l3Edge -/
theorem c_spec_l3Edge {w : World} {LL_gV _B_gV : Nat} {_v_gV : Value} {gV : List Int} (_h_gV : Ls ics 1 w LL_gV _B_gV _v_gV gV) {LL_gE _B_gE : Nat} {_v_gE : Value} {gE : List GEdge} (_h_gE : Ls GEdge.cs 4 w LL_gE _B_gE _v_gE gE) (e : GEdge) :
    Ctr Try.prog 159 #[(.agg #[_v_gV, _v_gE]), (.agg #[(.int .i64 e.id), (.int .i64 e.f), (.int .i64 e.t), (.int .i64 e.label)])] w (fun v w' => v = .bool (tt (EdgeOk ((gV.length : Int) - 1) e)) ∧ Ch [] w w') := by
  obtain ⟨_A_gV, _C_gV, _e1_gV⟩ := _h_gV.val
  subst _e1_gV
  have _l_gV := _h_gV.len
  have _h_gV := _h_gV.here (by decide)
  obtain ⟨_A_gE, _C_gE, _e1_gE⟩ := _h_gE.val
  subst _e1_gE
  have _l_gE := _h_gE.len
  have _h_gE := _h_gE.here (by decide)
  have E := Ch.refl [] w
  refine Ctr_of_W (N := 30) (vs0 := [(.agg #[(.slice _A_gV gV.length _C_gV), (.slice _A_gE gE.length _C_gE)]), (.agg #[(.int .i64 e.id), (.int .i64 e.f), (.int .i64 e.t), (.int .i64 e.label)])]) Try.func159 rfl rfl rfl ?_
  refine W_seq fun _K_1 _hK_1 => ?_
  refine W_region ?_
  refine WL_s rfl rfl ?_
  refine s_box rfl fun _b2 _w_2 _m2 _cw_2 _e2 => ?_
  have _cw_2z := _cw_2.size
  have E := E.trans _cw_2
  have _z2 := _m2.lt
  replace _m2 : Blk _w_2 _b2 57 [(.slice _A_gV gV.length _C_gV), (.slice _A_gE gE.length _C_gE)] := _m2
  refine WL_s rfl rfl ?_
  refine s_box rfl fun _b3 _w_3 _m3 _cw_3 _e3 => ?_
  have _cw_3z := _cw_3.size
  have E := E.trans _cw_3
  have _z3 := _m3.lt
  replace _m3 : Blk _w_3 _b3 168 [(.int .i64 e.id), (.int .i64 e.f), (.int .i64 e.t), (.int .i64 e.label)] := _m3
  refine WL_step rfl rfl (r_assign rfl) ?_
  refine WL_nil ?_
  refine thn_nrm (_hK_1 _ _ ?_)
  clear _hK_1
  refine W_seq fun _K_4 _hK_4 => ?_
  refine W_region ?_
  refine WL_step rfl rfl (r_fieldAddr fa57_0 rfl) ?_
  have _f_5 := (_m2.ch0 _cw_3)
  refine WL_step rfl rfl (r_loadAt _f_5.at_ agg43 rfl rfl) ?_
  refine WL_step rfl rfl (r_len (by rw [el43]; rfl) rfl) ?_
  refine WL_step rfl rfl (r_sub (by omega) rfl rfl) ?_
  refine WL_step rfl rfl (r_assign rfl) ?_
  refine WL_nil ?_
  refine thn_nrm (_hK_4 _ _ ?_)
  clear _hK_4
  refine W_seq fun _K_6 _hK_6 => ?_
  refine W_region ?_
  refine WL_step rfl rfl (r_fieldAddr fa168_0 rfl) ?_
  refine WL_step rfl rfl (r_loadAt _m3.at_ agg3 rfl rfl) ?_
  refine WL_s rfl rfl ?_
  refine Step.call (r_call (xs := [.tmp 11, .const (Go.Value.int Go.IntKind.i64 1), .const (Go.Value.int Go.IntKind.i64 99)]) fk56 rfl) (c_spec_l1In _ _ _ ) fun _v12 _w_7 _q12 => ?_
  obtain ⟨rfl, _cw_7⟩ := _q12
  have _cw_7z := _cw_7.size
  have E := E.trans _cw_7
  refine WL_step rfl rfl (r_move rfl) ?_
  refine WL_split (d := 13) rfl (fun _h13 => ?_) (fun _h13 => ?_)
  · have _kb_8 := _h13
    have _h13 := bt_d _h13
    refine WL_step rfl rfl (r_fieldAddr fa168_1 rfl) ?_
    have _f_9 := (_m3.ch0 _cw_7)
    refine WL_step rfl rfl (r_loadAt _f_9.at_ agg3 rfl rfl) ?_
    refine WL_step rfl rfl (r_move rfl) ?_
    refine WL_s rfl rfl ?_
    refine Step.call (r_call (xs := [.tmp 15, .const (Go.Value.int Go.IntKind.i64 0), .tmp 16]) fk56 rfl) (c_spec_l1In _ _ _ ) fun _v17 _w_10 _q17 => ?_
    obtain ⟨rfl, _cw_10⟩ := _q17
    have _cw_10z := _cw_10.size
    have E := E.trans _cw_10
    refine WL_step rfl rfl (r_pickT rfl rfl) ?_
    refine WL_step rfl rfl (r_move rfl) ?_
    refine WL_split (d := 19) rfl (fun _h19 => ?_) (fun _h19 => ?_)
    · have _kb_11 := _h19
      have _h19 := bt_d _h19
      refine WL_step rfl rfl (r_fieldAddr fa168_2 rfl) ?_
      have _f_12 := (_f_9.ch0 _cw_10)
      refine WL_step rfl rfl (r_loadAt _f_12.at_ agg3 rfl rfl) ?_
      refine WL_step rfl rfl (r_move rfl) ?_
      refine WL_s rfl rfl ?_
      refine Step.call (r_call (xs := [.tmp 21, .const (Go.Value.int Go.IntKind.i64 0), .tmp 22]) fk56 rfl) (c_spec_l1In _ _ _ ) fun _v23 _w_13 _q23 => ?_
      obtain ⟨rfl, _cw_13⟩ := _q23
      have _cw_13z := _cw_13.size
      have E := E.trans _cw_13
      refine WL_step rfl rfl (r_pickT rfl rfl) ?_
      refine WL_step rfl rfl (r_move rfl) ?_
      refine WL_split (d := 25) rfl (fun _h25 => ?_) (fun _h25 => ?_)
      · have _kb_14 := _h25
        have _h25 := bt_d _h25
        refine WL_step rfl rfl (r_fieldAddr fa168_3 rfl) ?_
        have _f_15 := (_f_12.ch0 _cw_13)
        refine WL_step rfl rfl (r_loadAt _f_15.at_ agg3 rfl rfl) ?_
        refine WL_s rfl rfl ?_
        refine Step.call (r_call (xs := [.tmp 27, .const (Go.Value.int Go.IntKind.i64 0), .const (Go.Value.int Go.IntKind.i64 2)]) fk56 rfl) (c_spec_l1In _ _ _ ) fun _v28 _w_16 _q28 => ?_
        obtain ⟨rfl, _cw_16⟩ := _q28
        have _cw_16z := _cw_16.size
        have E := E.trans _cw_16
        refine WL_step rfl rfl (r_pickT rfl rfl) ?_
        refine WL_step rfl rfl (r_assign rfl) ?_
        refine WL_nil ?_
        refine thn_nrm (_hK_6 _ _ ?_)
        clear _hK_6
        refine W_ret ?_
        exact ret_intro [_] ⟨rfl, trivial⟩ ⟨congrArg Value.bool (by first | exact tt_false (fun q => by unfold EdgeOk at q; omega) | (rw [tt_dec]; exact tt_eq ⟨fun q => by unfold EdgeOk; omega, fun q => by unfold EdgeOk at q; omega⟩)), E⟩
      · have _kb_14 := _h25
        have _h25 := bf_d _h25
        refine WL_skip rfl rfl ?_
        refine WL_skip rfl rfl ?_
        refine WL_skip rfl rfl ?_
        refine WL_step rfl rfl (r_pickF rfl rfl) ?_
        refine WL_step rfl rfl (r_assign rfl) ?_
        refine WL_nil ?_
        refine thn_nrm (_hK_6 _ _ ?_)
        clear _hK_6
        refine W_ret ?_
        exact ret_intro [_] ⟨rfl, trivial⟩ ⟨congrArg Value.bool (by first | exact tt_false (fun q => by unfold EdgeOk at q; omega) | (rw [tt_dec]; exact tt_eq ⟨fun q => by unfold EdgeOk; omega, fun q => by unfold EdgeOk at q; omega⟩)), E⟩
    · have _kb_11 := _h19
      have _h19 := bf_d _h19
      refine WL_skip rfl rfl ?_
      refine WL_skip rfl rfl ?_
      refine WL_skip rfl rfl ?_
      refine WL_skip rfl rfl ?_
      refine WL_step rfl rfl (r_pickF rfl rfl) ?_
      refine WL_step rfl rfl (r_move rfl) ?_
      refine WL_skip rfl rfl ?_
      refine WL_skip rfl rfl ?_
      refine WL_skip rfl rfl ?_
      refine WL_step rfl rfl (r_pickF rfl rfl) ?_
      refine WL_step rfl rfl (r_assign rfl) ?_
      refine WL_nil ?_
      refine thn_nrm (_hK_6 _ _ ?_)
      clear _hK_6
      refine W_ret ?_
      exact ret_intro [_] ⟨rfl, trivial⟩ ⟨congrArg Value.bool (by first | exact tt_false (fun q => by unfold EdgeOk at q; omega) | (rw [tt_dec]; exact tt_eq ⟨fun q => by unfold EdgeOk; omega, fun q => by unfold EdgeOk at q; omega⟩)), E⟩
  · have _kb_8 := _h13
    have _h13 := bf_d _h13
    refine WL_skip rfl rfl ?_
    refine WL_skip rfl rfl ?_
    refine WL_skip rfl rfl ?_
    refine WL_skip rfl rfl ?_
    refine WL_step rfl rfl (r_pickF rfl rfl) ?_
    refine WL_step rfl rfl (r_move rfl) ?_
    refine WL_skip rfl rfl ?_
    refine WL_skip rfl rfl ?_
    refine WL_skip rfl rfl ?_
    refine WL_skip rfl rfl ?_
    refine WL_step rfl rfl (r_pickF rfl rfl) ?_
    refine WL_step rfl rfl (r_move rfl) ?_
    refine WL_skip rfl rfl ?_
    refine WL_skip rfl rfl ?_
    refine WL_skip rfl rfl ?_
    refine WL_step rfl rfl (r_pickF rfl rfl) ?_
    refine WL_step rfl rfl (r_assign rfl) ?_
    refine WL_nil ?_
    refine thn_nrm (_hK_6 _ _ ?_)
    clear _hK_6
    refine W_ret ?_
    exact ret_intro [_] ⟨rfl, trivial⟩ ⟨congrArg Value.bool (by first | exact tt_false (fun q => by unfold EdgeOk at q; omega) | (rw [tt_dec]; exact tt_eq ⟨fun q => by unfold EdgeOk; omega, fun q => by unfold EdgeOk at q; omega⟩)), E⟩

/-- spec.IsValidGraph -/
theorem c_spec_IsValidGraph {w : World} {LL_gV _B_gV : Nat} {_v_gV : Value} {gV : List Int} (_h_gV : Ls ics 1 w LL_gV _B_gV _v_gV gV) {LL_gE _B_gE : Nat} {_v_gE : Value} {gE : List GEdge} (_h_gE : Ls GEdge.cs 4 w LL_gE _B_gE _v_gE gE) :
    Ctr Try.prog 115 #[(.agg #[_v_gV, _v_gE])] w (fun v w' => v = .bool (tt (ValidG gV gE)) ∧ Ch [] w w') := by
  obtain ⟨_A_gV, _C_gV, _e1_gV⟩ := _h_gV.val
  subst _e1_gV
  have _l_gV := _h_gV.len
  have _h_gV := _h_gV.here (by decide)
  obtain ⟨_A_gE, _C_gE, _e1_gE⟩ := _h_gE.val
  subst _e1_gE
  have _l_gE := _h_gE.len
  have _h_gE := _h_gE.here (by decide)
  have E := Ch.refl [] w
  refine Ctr_of_W (N := 64) (vs0 := [(.agg #[(.slice _A_gV gV.length _C_gV), (.slice _A_gE gE.length _C_gE)])]) Try.func115 rfl rfl rfl ?_
  refine W_seq fun _K_1 _hK_1 => ?_
  refine W_region ?_
  refine WL_s rfl rfl ?_
  refine s_box rfl fun _b1 _w_2 _m1 _cw_2 _e1 => ?_
  have _cw_2z := _cw_2.size
  have E := E.trans _cw_2
  have _z1 := _m1.lt
  replace _m1 : Blk _w_2 _b1 57 [(.slice _A_gV gV.length _C_gV), (.slice _A_gE gE.length _C_gE)] := _m1
  refine WL_step rfl rfl (r_assign rfl) ?_
  refine WL_nil ?_
  refine thn_nrm (_hK_1 _ _ ?_)
  clear _hK_1
  refine W_seq fun _K_3 _hK_3 => ?_
  refine W_seq fun _K_4 _hK_4 => ?_
  refine W_region ?_
  refine WL_step rfl rfl (r_assign rfl) ?_
  refine WL_nil ?_
  refine thn_nrm (_hK_4 _ _ ?_)
  clear _hK_4
  refine W_block ?_
  refine W_loop (σ := Nat) (fun (k : Nat) => [(1, (.pointer (some ⟨_b1, 0, none⟩))), (3, (.int .i64 ((k : Nat) : Int)))]) (fun (k : Nat) wx => Ch [] w wx ∧ _w_2.heap.size ≤ wx.heap.size ∧ (k ≤ gV.length) ∧ (ValsP gV k) ∧ Blk wx _b1 57 [(.slice _A_gV gV.length _C_gV), (.slice _A_gE gE.length _C_gE)]) (fun (k : Nat) => gV.length - k) 0 (Sub.cons rfl (Sub.cons rfl (Sub.nil _))) ⟨E, (Nat.le_refl _), (by omega), (vals_zero _), _m1⟩ ?_
  rintro k _wr_5 ⟨E, _zz0, _hk, hv, _F0_0⟩
  have _E0h := E
  have _E0hz := _E0h.size
  have _F0_0z := _F0_0.lt
  refine W_seq fun _K_6 _hK_6 => ?_
  refine W_seq fun _K_7 _hK_7 => ?_
  refine W_region ?_
  refine WL_step rfl rfl (r_move rfl) ?_
  refine WL_step rfl rfl (r_fieldAddr fa57_0 rfl) ?_
  refine WL_step rfl rfl (r_loadAt _F0_0.at_ agg43 rfl rfl) ?_
  refine WL_step rfl rfl (r_len (by rw [el43]; rfl) rfl) ?_
  refine WL_step rfl rfl (r_lss rfl rfl) ?_
  refine WL_nil ?_
  refine thn_nrm (_hK_7 _ _ ?_)
  clear _hK_7
  refine W_cond rfl (fun _h9 => ?_) (fun _h9 => ?_)
  · have _kb_8 := _h9
    have _h9 := bt_d _h9
    refine W_skip ?_
    refine thn_nrm (_hK_6 _ _ ?_)
    clear _hK_6
    refine W_seq fun _K_9 _hK_9 => ?_
    refine W_block ?_
    refine W_seq fun _K_10 _hK_10 => ?_
    refine W_region ?_
    refine WL_step rfl rfl (r_fieldAddr fa57_0 rfl) ?_
    refine WL_step rfl rfl (r_loadAt _F0_0.at_ agg43 rfl rfl) ?_
    refine WL_step rfl rfl (r_move rfl) ?_
    refine WL_s rfl rfl ?_
    have _f_11 := (_h_gV.ch0 _E0h)
    refine (s_index _f_11 ics_len el43 sz3 rfl rfl rfl (by omega) fun _p15 _y15 _hy15 _a15 => ?_)
    refine WL_step rfl rfl (r_loadAt0 _a15 agg3 rfl rfl) ?_
    refine WL_s rfl rfl ?_
    refine Step.call (r_call (xs := [.tmp 16, .const (Go.Value.int Go.IntKind.i64 0), .const (Go.Value.int Go.IntKind.i64 2)]) fk56 rfl) (c_spec_l1In _ _ _ ) fun _v17 _w_12 _q17 => ?_
    obtain ⟨rfl, _cw_12⟩ := _q17
    have _cw_12z := _cw_12.size
    have E := E.trans _cw_12
    refine WL_step rfl rfl (r_not rfl) ?_
    refine WL_nil ?_
    refine thn_nrm (_hK_10 _ _ ?_)
    clear _hK_10
    refine W_cond rfl (fun _h18 => ?_) (fun _h18 => ?_)
    · have _kb_13 := _h18
      have _h18 := bf_d (bt_n _h18)
      refine W_seq fun _K_14 _hK_14 => ?_
      refine W_region ?_
      refine WL_step rfl rfl (r_assign rfl) ?_
      refine WL_nil ?_
      refine thn_nrm (_hK_14 _ _ ?_)
      clear _hK_14
      refine W_ret (inB_ret (thn_ret (thn_ret (inB_ret (thn_ret ?_)))))
      clear _hK_3 _hK_9
      exact ret_intro [_] ⟨rfl, trivial⟩ ⟨congrArg Value.bool (by first | exact tt_false (fun q => _h18 (vals_val q _hy15)) | exact tt_false (fun q => _h34 (edge_val q _hy30)) | exact tt_false (fun q => by have _e2 := gedge_lt2 q _hy48 _hy42 (by omega); omega) | exact vg_y hv (by omega) hE (by omega) (by omega) | exact tt_false (fun q => by have _e2 := q.2.2.1; omega)), E⟩
    · have _kb_13 := _h18
      have _h18 := bt_d (bf_n _h18)
      refine W_skip ?_
      refine inB_nrm ?_
      refine thn_nrm (_hK_9 _ _ ?_)
      clear _hK_9
      refine W_region ?_
      refine WL_step rfl rfl (r_move rfl) ?_
      refine WL_step rfl rfl (r_add (by omega) rfl rfl) ?_
      refine WL_step rfl rfl (r_assign rfl) ?_
      refine WL_nil ?_
      have _f_15 := (_F0_0.ch0 _cw_12)
      exact thn_nrm (Exists.intro (k + 1) ⟨⟨E, (by omega), (by omega), (vals_step hv _hy15 _h18), _f_15⟩, Sub.cons rfl (Sub.cons rfl (Sub.nil _)), (by first | omega | (dsimp only; omega))⟩)
  · have _kb_8 := _h9
    have _h9 := bf_d _h9
    refine W_exit (thn_exit (thn_exit (inB_hit ?_)))
    refine thn_nrm (_hK_3 _ _ ?_)
    clear _hK_3
    refine W_seq fun _K_16 _hK_16 => ?_
    refine W_seq fun _K_17 _hK_17 => ?_
    refine W_region ?_
    refine WL_step rfl rfl (r_assign rfl) ?_
    refine WL_nil ?_
    refine thn_nrm (_hK_17 _ _ ?_)
    clear _hK_17
    refine W_block ?_
    refine W_loop (σ := Nat) (fun (q : Nat) => [(1, (.pointer (some ⟨_b1, 0, none⟩))), (4, (.int .i64 ((q : Nat) : Int)))]) (fun (q : Nat) wx => Ch [] w wx ∧ _wr_5.heap.size ≤ wx.heap.size ∧ (q ≤ gE.length) ∧ (EdgesP ((gV.length : Int) - 1) gE q) ∧ Blk wx _b1 57 [(.slice _A_gV gV.length _C_gV), (.slice _A_gE gE.length _C_gE)]) (fun (q : Nat) => gE.length - q) 0 (Sub.cons rfl (Sub.cons rfl (Sub.nil _))) ⟨E, (Nat.le_refl _), (by omega), (edges_zero _ _), _F0_0⟩ ?_
    rintro q _wr_18 ⟨E, _zz1, hq, hE, _F1_0⟩
    have _E1h := E
    have _E1hz := _E1h.size
    have _F1_0z := _F1_0.lt
    refine W_seq fun _K_19 _hK_19 => ?_
    refine W_seq fun _K_20 _hK_20 => ?_
    refine W_region ?_
    refine WL_step rfl rfl (r_move rfl) ?_
    refine WL_step rfl rfl (r_fieldAddr fa57_1 rfl) ?_
    refine WL_step rfl rfl (r_loadAt _F1_0.at_ agg55 rfl rfl) ?_
    refine WL_step rfl rfl (r_len (by rw [el55]; rfl) rfl) ?_
    refine WL_step rfl rfl (r_lss rfl rfl) ?_
    refine WL_nil ?_
    refine thn_nrm (_hK_20 _ _ ?_)
    clear _hK_20
    refine W_cond rfl (fun _h23 => ?_) (fun _h23 => ?_)
    · have _kb_21 := _h23
      have _h23 := bt_d _h23
      refine W_skip ?_
      refine thn_nrm (_hK_19 _ _ ?_)
      clear _hK_19
      refine W_seq fun _K_22 _hK_22 => ?_
      refine W_block ?_
      refine W_seq fun _K_23 _hK_23 => ?_
      refine W_drawC [] 28 mixed rfl fun _w_24 _cw_24 => ?_
      have _cw_24z := _cw_24.size
      have E := E.trans _cw_24
      have _f_25 := (_F1_0.ch0 _cw_24)
      refine DR_s 0 rfl (by kernel_rfl) rfl rfl (t_loadAtA0 _f_25.at_ (fun i hi => absurd hi List.not_mem_nil) agg57 sz57 rfl ?_)
      refine DR_s 1 rfl (by kernel_rfl) rfl rfl (t_v (fun _ => (r_fieldAddr fa57_1 rfl)) ?_)
      refine DR_s 2 rfl (by kernel_rfl) rfl rfl (t_loadAt _f_25.at_ (fun i hi => absurd hi List.not_mem_nil) agg55 rfl rfl ?_)
      refine DR_s 3 rfl (by kernel_rfl) rfl rfl (t_v (fun _ => (r_move rfl)) ?_)
      have _f_26 := ((_h_gE.ch0 _E1h).ch0 _cw_24)
      refine DR_s 4 rfl (by kernel_rfl) rfl rfl (t_index _f_26 GEdge.len el55 sz168 rfl rfl rfl (by omega) fun _p30 _y30 _hy30 _a30 => ?_)
      refine DR_s 5 rfl (by kernel_rfl) rfl rfl (t_loadAtA0 _a30 (fun i hi => absurd hi List.not_mem_nil) agg168 sz168 rfl ?_)
      refine DR_one 6 (by kernel_rfl) ?_
      refine DO_s rfl rfl rfl ?_
      have _f_27 := ((_h_gV.ch0 _E1h).ch0 _cw_24)
      refine Step.call (r_call (xs := [.tmp 26, .tmp 31]) fk159 rfl) (c_spec_l3Edge _f_27 _f_26 _y30 ) fun _v32 _w_28 _q32 => ?_
      obtain ⟨rfl, _cw_28⟩ := _q32
      have _cw_28z := _cw_28.size
      have E := E.trans _cw_28
      have _S_29 : Ch [] _w_24 _w_28 := ((Ch.refl _ _).trans _cw_28)
      refine ⟨_S_29, ?_⟩
      refine DR_s 7 rfl (by kernel_rfl) rfl rfl (t_v (fun _ => (r_not rfl)) ?_)
      refine DR_s 8 rfl (by kernel_rfl) rfl rfl (t_v (fun _ => (r_move rfl)) ?_)
      refine DR_split (d := 34) rfl (fun _h34 => ?_) (fun _h34 => ?_)
      · have _kb_30 := _h34
        have _h34 := bf_t (bt_n _h34)
        refine DR_skip 9 rfl (by kernel_rfl) rfl rfl ?_
        refine DR_skip 10 rfl (by kernel_rfl) rfl rfl ?_
        refine DR_skip 11 rfl (by kernel_rfl) rfl rfl ?_
        refine DR_skip 12 rfl (by kernel_rfl) rfl rfl ?_
        refine DR_skip 13 rfl (by kernel_rfl) rfl rfl ?_
        refine DR_skip 14 rfl (by kernel_rfl) rfl rfl ?_
        refine DR_skip 15 rfl (by kernel_rfl) rfl rfl ?_
        refine DR_skip 16 rfl (by kernel_rfl) rfl rfl ?_
        refine DR_skip 17 rfl (by kernel_rfl) rfl rfl ?_
        refine DR_skip 18 rfl (by kernel_rfl) rfl rfl ?_
        refine DR_skip 19 rfl (by kernel_rfl) rfl rfl ?_
        refine DR_skip 20 rfl (by kernel_rfl) rfl rfl ?_
        refine DR_skip 21 rfl (by kernel_rfl) rfl rfl ?_
        refine DR_skip 22 rfl (by kernel_rfl) rfl rfl ?_
        refine DR_skip 23 rfl (by kernel_rfl) rfl rfl ?_
        refine DR_skip 24 rfl (by kernel_rfl) rfl rfl ?_
        refine DR_skip 25 rfl (by kernel_rfl) rfl rfl ?_
        refine DR_skip 26 rfl (by kernel_rfl) rfl rfl ?_
        refine DR_s 27 rfl (by kernel_rfl) rfl rfl (t_v (fun _ => (r_pickT rfl rfl)) ?_)
        refine DR_done (by kernel_rfl) ?_
        refine thn_nrm (_hK_23 _ _ ?_)
        clear _hK_23
        refine W_condT rfl ?_
        refine W_seq fun _K_31 _hK_31 => ?_
        refine W_region ?_
        refine WL_step rfl rfl (r_assign rfl) ?_
        refine WL_nil ?_
        refine thn_nrm (_hK_31 _ _ ?_)
        clear _hK_31
        refine W_ret (inB_ret (thn_ret (thn_ret (inB_ret (thn_ret ?_)))))
        clear _hK_6 _hK_16 _hK_22
        exact ret_intro [_] ⟨rfl, trivial⟩ ⟨congrArg Value.bool (by first | exact tt_false (fun q => _h18 (vals_val q _hy15)) | exact tt_false (fun q => _h34 (edge_val q _hy30)) | exact tt_false (fun q => by have _e2 := gedge_lt2 q _hy48 _hy42 (by omega); omega) | exact vg_y hv (by omega) hE (by omega) (by omega) | exact tt_false (fun q => by have _e2 := q.2.2.1; omega)), E⟩
      · have _kb_30 := _h34
        have _h34 := bt_t (bf_n _h34)
        refine DR_s 9 rfl (by kernel_rfl) rfl rfl (t_v (fun _ => (r_move rfl)) ?_)
        refine DR_s 10 rfl (by kernel_rfl) rfl rfl (t_v (fun _ => (r_gtr rfl rfl)) ?_)
        refine DR_s 11 rfl (by kernel_rfl) rfl rfl (t_v (fun _ => (r_move rfl)) ?_)
        refine DR_split (d := 37) rfl (fun _h37 => ?_) (fun _h37 => ?_)
        · have _kb_32 := _h37
          have _h37 := bt_d _h37
          refine DR_s 12 rfl (by kernel_rfl) rfl rfl (t_v (fun _ => (r_fieldAddr fa57_1 rfl)) ?_)
          refine DR_s 13 rfl (by kernel_rfl) rfl rfl (t_loadAt _f_25.at_ (fun i hi => absurd hi List.not_mem_nil) agg55 rfl rfl ?_)
          refine DR_s 14 rfl (by kernel_rfl) rfl rfl (t_v (fun _ => (r_move rfl)) ?_)
          refine DR_s 15 rfl (by kernel_rfl) rfl rfl (t_v (fun _ => (r_sub (by omega) rfl rfl)) ?_)
          refine DR_s 16 rfl (by kernel_rfl) rfl rfl (t_index (j := (((q : Nat) : Int) - 1).toNat) _f_26 GEdge.len el55 sz168 rfl rfl (by omega) (by omega) fun _p42 _y42 _hy42 _a42 => ?_)
          refine DR_s 17 rfl (by kernel_rfl) rfl rfl (t_v (fun _ => (r_fieldAddr fa168_0 rfl)) ?_)
          refine DR_s 18 rfl (by kernel_rfl) rfl rfl (t_loadAt _a42 (fun i hi => absurd hi List.not_mem_nil) agg3 rfl rfl ?_)
          refine DR_s 19 rfl (by kernel_rfl) rfl rfl (t_v (fun _ => (r_fieldAddr fa57_1 rfl)) ?_)
          refine DR_s 20 rfl (by kernel_rfl) rfl rfl (t_loadAt _f_25.at_ (fun i hi => absurd hi List.not_mem_nil) agg55 rfl rfl ?_)
          refine DR_s 21 rfl (by kernel_rfl) rfl rfl (t_v (fun _ => (r_move rfl)) ?_)
          refine DR_s 22 rfl (by kernel_rfl) rfl rfl (t_index _f_26 GEdge.len el55 sz168 rfl rfl rfl (by omega) fun _p48 _y48 _hy48 _a48 => ?_)
          refine DR_s 23 rfl (by kernel_rfl) rfl rfl (t_v (fun _ => (r_fieldAddr fa168_0 rfl)) ?_)
          refine DR_s 24 rfl (by kernel_rfl) rfl rfl (t_loadAt _a48 (fun i hi => absurd hi List.not_mem_nil) agg3 rfl rfl ?_)
          refine DR_s 25 rfl (by kernel_rfl) rfl rfl (t_v (fun _ => (r_geq rfl rfl)) ?_)
          refine DR_s 26 rfl (by kernel_rfl) rfl rfl (t_v (fun _ => (r_pickT rfl rfl)) ?_)
          refine DR_s 27 rfl (by kernel_rfl) rfl rfl (t_v (fun _ => (r_pickF rfl rfl)) ?_)
          refine DR_done (by kernel_rfl) ?_
          refine thn_nrm (_hK_23 _ _ ?_)
          clear _hK_23
          refine W_cond rfl (fun _h53 => ?_) (fun _h53 => ?_)
          · have _kb_33 := _h53
            have _h53 := bt_d _h53
            refine W_seq fun _K_34 _hK_34 => ?_
            refine W_region ?_
            refine WL_step rfl rfl (r_assign rfl) ?_
            refine WL_nil ?_
            refine thn_nrm (_hK_34 _ _ ?_)
            clear _hK_34
            refine W_ret (inB_ret (thn_ret (thn_ret (inB_ret (thn_ret ?_)))))
            clear _hK_6 _hK_16 _hK_22
            exact ret_intro [_] ⟨rfl, trivial⟩ ⟨congrArg Value.bool (by first | exact tt_false (fun q => _h18 (vals_val q _hy15)) | exact tt_false (fun q => _h34 (edge_val q _hy30)) | exact tt_false (fun q => by have _e2 := gedge_lt2 q _hy48 _hy42 (by omega); omega) | exact vg_y hv (by omega) hE (by omega) (by omega) | exact tt_false (fun q => by have _e2 := q.2.2.1; omega)), E⟩
          · have _kb_33 := _h53
            have _h53 := bf_d _h53
            refine W_skip ?_
            refine inB_nrm ?_
            refine thn_nrm (_hK_22 _ _ ?_)
            clear _hK_22
            refine W_region ?_
            refine WL_step rfl rfl (r_move rfl) ?_
            refine WL_step rfl rfl (r_add (by omega) rfl rfl) ?_
            refine WL_step rfl rfl (r_assign rfl) ?_
            refine WL_nil ?_
            have _f_35 := (_f_25.ch0 _cw_28)
            exact thn_nrm (Exists.intro (q + 1) ⟨⟨E, (by omega), (by omega), (by first | exact edges_step0 hE _hy30 _h34 (by omega) | (have _u9 := get_uniq _hy30 _hy48; exact edges_stepj hE _hy30 _h34 _hy42 (by omega) (by first | omega | (rw [_u9]; omega)))), _f_35⟩, Sub.cons rfl (Sub.cons rfl (Sub.nil _)), (by first | omega | (dsimp only; omega))⟩)
        · have _kb_32 := _h37
          have _h37 := bf_d _h37
          refine DR_skip 12 rfl (by kernel_rfl) rfl rfl ?_
          refine DR_skip 13 rfl (by kernel_rfl) rfl rfl ?_
          refine DR_skip 14 rfl (by kernel_rfl) rfl rfl ?_
          refine DR_skip 15 rfl (by kernel_rfl) rfl rfl ?_
          refine DR_skip 16 rfl (by kernel_rfl) rfl rfl ?_
          refine DR_skip 17 rfl (by kernel_rfl) rfl rfl ?_
          refine DR_skip 18 rfl (by kernel_rfl) rfl rfl ?_
          refine DR_skip 19 rfl (by kernel_rfl) rfl rfl ?_
          refine DR_skip 20 rfl (by kernel_rfl) rfl rfl ?_
          refine DR_skip 21 rfl (by kernel_rfl) rfl rfl ?_
          refine DR_skip 22 rfl (by kernel_rfl) rfl rfl ?_
          refine DR_skip 23 rfl (by kernel_rfl) rfl rfl ?_
          refine DR_skip 24 rfl (by kernel_rfl) rfl rfl ?_
          refine DR_skip 25 rfl (by kernel_rfl) rfl rfl ?_
          refine DR_s 26 rfl (by kernel_rfl) rfl rfl (t_v (fun _ => (r_pickF rfl rfl)) ?_)
          refine DR_s 27 rfl (by kernel_rfl) rfl rfl (t_v (fun _ => (r_pickF rfl rfl)) ?_)
          refine DR_done (by kernel_rfl) ?_
          refine thn_nrm (_hK_23 _ _ ?_)
          clear _hK_23
          refine W_condF rfl ?_
          refine W_skip ?_
          refine inB_nrm ?_
          refine thn_nrm (_hK_22 _ _ ?_)
          clear _hK_22
          refine W_region ?_
          refine WL_step rfl rfl (r_move rfl) ?_
          refine WL_step rfl rfl (r_add (by omega) rfl rfl) ?_
          refine WL_step rfl rfl (r_assign rfl) ?_
          refine WL_nil ?_
          have _f_36 := (_f_25.ch0 _cw_28)
          exact thn_nrm (Exists.intro (q + 1) ⟨⟨E, (by omega), (by omega), (by first | exact edges_step0 hE _hy30 _h34 (by omega) | (have _u9 := get_uniq _hy30 _hy48; exact edges_stepj hE _hy30 _h34 _hy42 (by omega) (by first | omega | (rw [_u9]; omega)))), _f_36⟩, Sub.cons rfl (Sub.cons rfl (Sub.nil _)), (by first | omega | (dsimp only; omega))⟩)
    · have _kb_21 := _h23
      have _h23 := bf_d _h23
      refine W_exit (thn_exit (thn_exit (inB_hit ?_)))
      refine thn_nrm (_hK_16 _ _ ?_)
      clear _hK_16
      refine W_seq fun _K_37 _hK_37 => ?_
      refine W_region ?_
      refine WL_step rfl rfl (r_fieldAddr fa57_0 rfl) ?_
      refine WL_step rfl rfl (r_loadAt _F1_0.at_ agg43 rfl rfl) ?_
      refine WL_step rfl rfl (r_len (by rw [el43]; rfl) rfl) ?_
      refine WL_s rfl rfl ?_
      refine Step.call (r_call (xs := [.tmp 56, .const (Go.Value.int Go.IntKind.i64 1), .const (Go.Value.int Go.IntKind.i64 5)]) fk56 rfl) (c_spec_l1In _ _ _ ) fun _v57 _w_38 _q57 => ?_
      obtain ⟨rfl, _cw_38⟩ := _q57
      have _cw_38z := _cw_38.size
      have E := E.trans _cw_38
      refine WL_step rfl rfl (r_move rfl) ?_
      refine WL_split (d := 58) rfl (fun _h58 => ?_) (fun _h58 => ?_)
      · have _kb_39 := _h58
        have _h58 := bt_d _h58
        refine WL_step rfl rfl (r_fieldAddr fa57_1 rfl) ?_
        have _f_40 := (_F1_0.ch0 _cw_38)
        refine WL_step rfl rfl (r_loadAt _f_40.at_ agg55 rfl rfl) ?_
        refine WL_step rfl rfl (r_len (by rw [el55]; rfl) rfl) ?_
        refine WL_step rfl rfl (r_leq rfl rfl) ?_
        refine WL_step rfl rfl (r_pickT rfl rfl) ?_
        refine WL_step rfl rfl (r_assign rfl) ?_
        refine WL_nil ?_
        refine thn_nrm (_hK_37 _ _ ?_)
        clear _hK_37
        refine W_ret ?_
        clear _hK_6 _hK_19
        exact ret_intro [_] ⟨rfl, trivial⟩ ⟨congrArg Value.bool (by first | exact tt_false (fun q => _h18 (vals_val q _hy15)) | exact tt_false (fun q => _h34 (edge_val q _hy30)) | exact tt_false (fun q => by have _e2 := gedge_lt2 q _hy48 _hy42 (by omega); omega) | exact vg_y hv (by omega) hE (by omega) (by omega) | exact tt_false (fun q => by have _e2 := q.2.2.1; omega)), E⟩
      · have _kb_39 := _h58
        have _h58 := bf_d _h58
        refine WL_skip rfl rfl ?_
        refine WL_skip rfl rfl ?_
        refine WL_skip rfl rfl ?_
        refine WL_skip rfl rfl ?_
        refine WL_step rfl rfl (r_pickF rfl rfl) ?_
        refine WL_step rfl rfl (r_assign rfl) ?_
        refine WL_nil ?_
        refine thn_nrm (_hK_37 _ _ ?_)
        clear _hK_37
        refine W_ret ?_
        clear _hK_6 _hK_19
        exact ret_intro [_] ⟨rfl, trivial⟩ ⟨congrArg Value.bool (by first | exact tt_false (fun q => _h18 (vals_val q _hy15)) | exact tt_false (fun q => _h34 (edge_val q _hy30)) | exact tt_false (fun q => by have _e2 := gedge_lt2 q _hy48 _hy42 (by omega); omega) | exact vg_y hv (by omega) hE (by omega) (by omega) | exact tt_false (fun q => by have _e2 := q.2.2.1; omega)), E⟩

/-- spec.l2Cmp -/
theorem c_spec_l2Cmp {w : World} {LL_a _B_a : Nat} {_v_a : Value} {a : List Int} (_h_a : Ls ics 1 w LL_a _B_a _v_a a) {LL_b _B_b : Nat} {_v_b : Value} {b : List Int} (_h_b : Ls ics 1 w LL_b _B_b _v_b b) :
    Ctr Try.prog 116 #[_v_a, _v_b] w (fun v w' => v = .int .i64 (cmpL a b) ∧ Ch [] w w') := by
  obtain ⟨_A_a, _C_a, _e1_a⟩ := _h_a.val
  subst _e1_a
  have _l_a := _h_a.len
  have _h_a := _h_a.here (by decide)
  obtain ⟨_A_b, _C_b, _e1_b⟩ := _h_b.val
  subst _e1_b
  have _l_b := _h_b.len
  have _h_b := _h_b.here (by decide)
  have E := Ch.refl [] w
  refine Ctr_of_W (N := 46) (vs0 := [(.slice _A_a a.length _C_a), (.slice _A_b b.length _C_b)]) Try.func116 rfl rfl rfl ?_
  refine W_seq fun _K_1 _hK_1 => ?_
  refine W_region ?_
  refine WL_step rfl rfl (r_assign rfl) ?_
  refine WL_nil ?_
  refine thn_nrm (_hK_1 _ _ ?_)
  clear _hK_1
  refine W_seq fun _K_2 _hK_2 => ?_
  refine W_seq fun _K_3 _hK_3 => ?_
  refine W_region ?_
  refine WL_step rfl rfl (r_assign rfl) ?_
  refine WL_nil ?_
  refine thn_nrm (_hK_3 _ _ ?_)
  clear _hK_3
  refine W_block ?_
  refine W_loop (σ := Nat) (fun (k : Nat) => [(0, (.slice _A_a a.length _C_a)), (1, (.slice _A_b b.length _C_b)), (5, (.int .i64 ((k : Nat) : Int)))]) (fun (k : Nat) wx => Ch [] w wx ∧ w.heap.size ≤ wx.heap.size ∧ (k ≤ a.length) ∧ (k ≤ b.length) ∧ (a.take k = b.take k)) (fun (k : Nat) => a.length - k) 0 (Sub.cons rfl (Sub.cons rfl (Sub.cons rfl (Sub.nil _)))) ⟨E, (Nat.le_refl _), (by omega), (by omega), rfl⟩ ?_
  rintro k _wr_4 ⟨E, _zz0, _hk, _hk2, _ht⟩
  have _E0h := E
  have _E0hz := _E0h.size
  refine W_seq fun _K_5 _hK_5 => ?_
  refine W_seq fun _K_6 _hK_6 => ?_
  refine W_region ?_
  refine WL_step rfl rfl (r_move rfl) ?_
  refine WL_step rfl rfl (r_move rfl) ?_
  refine WL_step rfl rfl (r_len (by rw [el43]; rfl) rfl) ?_
  refine WL_step rfl rfl (r_lss rfl rfl) ?_
  refine WL_step rfl rfl (r_move rfl) ?_
  refine WL_split (d := 10) rfl (fun _h10 => ?_) (fun _h10 => ?_)
  · have _kb_7 := _h10
    have _h10 := bt_d _h10
    refine WL_step rfl rfl (r_move rfl) ?_
    refine WL_step rfl rfl (r_move rfl) ?_
    refine WL_step rfl rfl (r_len (by rw [el43]; rfl) rfl) ?_
    refine WL_step rfl rfl (r_lss rfl rfl) ?_
    refine WL_step rfl rfl (r_pickT rfl rfl) ?_
    refine WL_nil ?_
    refine thn_nrm (_hK_6 _ _ ?_)
    clear _hK_6
    refine W_cond rfl (fun _h15 => ?_) (fun _h15 => ?_)
    · have _kb_8 := _h15
      have _h15 := bt_d _h15
      refine W_skip ?_
      refine thn_nrm (_hK_5 _ _ ?_)
      clear _hK_5
      refine W_seq fun _K_9 _hK_9 => ?_
      refine W_block ?_
      refine W_seq fun _K_10 _hK_10 => ?_
      refine W_seq fun _K_11 _hK_11 => ?_
      refine W_drawC [] 9 mixed rfl fun _w_12 _cw_12 => ?_
      have _cw_12z := _cw_12.size
      have E := E.trans _cw_12
      refine DR_s 0 rfl (by kernel_rfl) rfl rfl (t_v (fun _ => (r_move rfl)) ?_)
      refine DR_s 1 rfl (by kernel_rfl) rfl rfl (t_v (fun _ => (r_move rfl)) ?_)
      have _f_13 := ((_h_a.ch0 _E0h).ch0 _cw_12)
      refine DR_s 2 rfl (by kernel_rfl) rfl rfl (t_index _f_13 ics_len el43 sz3 rfl rfl rfl (by omega) fun _p20 _y20 _hy20 _a20 => ?_)
      refine DR_s 3 rfl (by kernel_rfl) rfl rfl (t_loadAt0 _a20 (fun i hi => absurd hi List.not_mem_nil) agg3 rfl rfl ?_)
      refine DR_s 4 rfl (by kernel_rfl) rfl rfl (t_v (fun _ => (r_move rfl)) ?_)
      refine DR_s 5 rfl (by kernel_rfl) rfl rfl (t_v (fun _ => (r_move rfl)) ?_)
      have _f_14 := ((_h_b.ch0 _E0h).ch0 _cw_12)
      refine DR_s 6 rfl (by kernel_rfl) rfl rfl (t_index _f_14 ics_len el43 sz3 rfl rfl rfl (by omega) fun _p24 _y24 _hy24 _a24 => ?_)
      refine DR_s 7 rfl (by kernel_rfl) rfl rfl (t_loadAt0 _a24 (fun i hi => absurd hi List.not_mem_nil) agg3 rfl rfl ?_)
      refine DR_s 8 rfl (by kernel_rfl) rfl rfl (t_v (fun _ => (r_lss rfl rfl)) ?_)
      refine DR_done (by kernel_rfl) ?_
      refine thn_nrm (_hK_11 _ _ ?_)
      clear _hK_11
      refine W_cond rfl (fun _h26 => ?_) (fun _h26 => ?_)
      · have _kb_15 := _h26
        have _h26 := bt_d _h26
        refine W_seq fun _K_16 _hK_16 => ?_
        refine W_region ?_
        refine WL_step rfl rfl (r_assign rfl) ?_
        refine WL_nil ?_
        refine thn_nrm (_hK_16 _ _ ?_)
        clear _hK_16
        refine W_ret (thn_ret (inB_ret (thn_ret (thn_ret (inB_ret (thn_ret ?_))))))
        clear _hK_2 _hK_9 _hK_10
        exact ret_intro [_] ⟨rfl, trivial⟩ ⟨congrArg (Value.int .i64) (by first | exact cmpL_lt _ht _hy20 _hy24 _h26 | exact cmpL_gt _ht _hy29 _hy33 _h35 | (have hc := cmpL_end _ht (by omega) (by omega) (by omega); rw [hc]; first | (rw [if_pos (by omega)]; done) | (rw [if_neg (by omega), if_pos (by omega)]; done) | (rw [if_neg (by omega), if_neg (by omega)]; done))), E⟩
      · have _kb_15 := _h26
        have _h26 := bf_d _h26
        refine W_skip ?_
        refine thn_nrm (_hK_10 _ _ ?_)
        clear _hK_10
        refine W_seq fun _K_17 _hK_17 => ?_
        refine W_drawC [] 9 mixed rfl fun _w_18 _cw_18 => ?_
        have _cw_18z := _cw_18.size
        have E := E.trans _cw_18
        refine DR_s 0 rfl (by kernel_rfl) rfl rfl (t_v (fun _ => (r_move rfl)) ?_)
        refine DR_s 1 rfl (by kernel_rfl) rfl rfl (t_v (fun _ => (r_move rfl)) ?_)
        have _f_19 := (_f_13.ch0 _cw_18)
        refine DR_s 2 rfl (by kernel_rfl) rfl rfl (t_index _f_19 ics_len el43 sz3 rfl rfl rfl (by omega) fun _p29 _y29 _hy29 _a29 => ?_)
        refine DR_s 3 rfl (by kernel_rfl) rfl rfl (t_loadAt0 _a29 (fun i hi => absurd hi List.not_mem_nil) agg3 rfl rfl ?_)
        refine DR_s 4 rfl (by kernel_rfl) rfl rfl (t_v (fun _ => (r_move rfl)) ?_)
        refine DR_s 5 rfl (by kernel_rfl) rfl rfl (t_v (fun _ => (r_move rfl)) ?_)
        have _f_20 := (_f_14.ch0 _cw_18)
        refine DR_s 6 rfl (by kernel_rfl) rfl rfl (t_index _f_20 ics_len el43 sz3 rfl rfl rfl (by omega) fun _p33 _y33 _hy33 _a33 => ?_)
        refine DR_s 7 rfl (by kernel_rfl) rfl rfl (t_loadAt0 _a33 (fun i hi => absurd hi List.not_mem_nil) agg3 rfl rfl ?_)
        refine DR_s 8 rfl (by kernel_rfl) rfl rfl (t_v (fun _ => (r_gtr rfl rfl)) ?_)
        refine DR_done (by kernel_rfl) ?_
        refine thn_nrm (_hK_17 _ _ ?_)
        clear _hK_17
        refine W_cond rfl (fun _h35 => ?_) (fun _h35 => ?_)
        · have _kb_21 := _h35
          have _h35 := bt_d _h35
          refine W_seq fun _K_22 _hK_22 => ?_
          refine W_region ?_
          refine WL_step rfl rfl (r_assign rfl) ?_
          refine WL_nil ?_
          refine thn_nrm (_hK_22 _ _ ?_)
          clear _hK_22
          refine W_ret (inB_ret (thn_ret (thn_ret (inB_ret (thn_ret ?_)))))
          clear _hK_2 _hK_9
          exact ret_intro [_] ⟨rfl, trivial⟩ ⟨congrArg (Value.int .i64) (by first | exact cmpL_lt _ht _hy20 _hy24 _h26 | exact cmpL_gt _ht _hy29 _hy33 _h35 | (have hc := cmpL_end _ht (by omega) (by omega) (by omega); rw [hc]; first | (rw [if_pos (by omega)]; done) | (rw [if_neg (by omega), if_pos (by omega)]; done) | (rw [if_neg (by omega), if_neg (by omega)]; done))), E⟩
        · have _kb_21 := _h35
          have _h35 := bf_d _h35
          refine W_skip ?_
          refine inB_nrm ?_
          refine thn_nrm (_hK_9 _ _ ?_)
          clear _hK_9
          refine W_region ?_
          refine WL_step rfl rfl (r_move rfl) ?_
          refine WL_step rfl rfl (r_add (by omega) rfl rfl) ?_
          refine WL_step rfl rfl (r_assign rfl) ?_
          refine WL_nil ?_
          exact thn_nrm (Exists.intro (k + 1) ⟨⟨E, (by omega), (by omega), (by omega), (take_eq_succ _ht _hy20 _hy24 (by have _e1 := get_uniq _hy20 _hy29; have _e2 := get_uniq _hy24 _hy33; omega))⟩, Sub.cons rfl (Sub.cons rfl (Sub.cons rfl (Sub.nil _))), (by first | omega | (dsimp only; omega))⟩)
    · have _kb_8 := _h15
      have _h15 := bf_d _h15
      refine W_exit (thn_exit (thn_exit (inB_hit ?_)))
      refine thn_nrm (_hK_2 _ _ ?_)
      clear _hK_2
      refine W_seq fun _K_23 _hK_23 => ?_
      refine W_seq fun _K_24 _hK_24 => ?_
      refine W_region ?_
      refine WL_step rfl rfl (r_move rfl) ?_
      refine WL_step rfl rfl (r_len (by rw [el43]; rfl) rfl) ?_
      refine WL_step rfl rfl (r_move rfl) ?_
      refine WL_step rfl rfl (r_len (by rw [el43]; rfl) rfl) ?_
      refine WL_step rfl rfl (r_lss rfl rfl) ?_
      refine WL_nil ?_
      refine thn_nrm (_hK_24 _ _ ?_)
      clear _hK_24
      refine W_cond rfl (fun _h40 => ?_) (fun _h40 => ?_)
      · have _kb_25 := _h40
        have _h40 := bt_d _h40
        refine W_seq fun _K_26 _hK_26 => ?_
        refine W_region ?_
        refine WL_step rfl rfl (r_assign rfl) ?_
        refine WL_nil ?_
        refine thn_nrm (_hK_26 _ _ ?_)
        clear _hK_26
        refine W_ret (thn_ret ?_)
        clear _hK_5 _hK_23
        exact ret_intro [_] ⟨rfl, trivial⟩ ⟨congrArg (Value.int .i64) (by first | exact cmpL_lt _ht _hy20 _hy24 _h26 | exact cmpL_gt _ht _hy29 _hy33 _h35 | (have hc := cmpL_end _ht (by omega) (by omega) (by omega); rw [hc]; first | (rw [if_pos (by omega)]; done) | (rw [if_neg (by omega), if_pos (by omega)]; done) | (rw [if_neg (by omega), if_neg (by omega)]; done))), E⟩
      · have _kb_25 := _h40
        have _h40 := bf_d _h40
        refine W_skip ?_
        refine thn_nrm (_hK_23 _ _ ?_)
        clear _hK_23
        refine W_seq fun _K_27 _hK_27 => ?_
        refine W_seq fun _K_28 _hK_28 => ?_
        refine W_region ?_
        refine WL_step rfl rfl (r_move rfl) ?_
        refine WL_step rfl rfl (r_len (by rw [el43]; rfl) rfl) ?_
        refine WL_step rfl rfl (r_move rfl) ?_
        refine WL_step rfl rfl (r_len (by rw [el43]; rfl) rfl) ?_
        refine WL_step rfl rfl (r_gtr rfl rfl) ?_
        refine WL_nil ?_
        refine thn_nrm (_hK_28 _ _ ?_)
        clear _hK_28
        refine W_cond rfl (fun _h45 => ?_) (fun _h45 => ?_)
        · have _kb_29 := _h45
          have _h45 := bt_d _h45
          refine W_seq fun _K_30 _hK_30 => ?_
          refine W_region ?_
          refine WL_step rfl rfl (r_assign rfl) ?_
          refine WL_nil ?_
          refine thn_nrm (_hK_30 _ _ ?_)
          clear _hK_30
          refine W_ret (thn_ret ?_)
          clear _hK_5 _hK_27
          exact ret_intro [_] ⟨rfl, trivial⟩ ⟨congrArg (Value.int .i64) (by first | exact cmpL_lt _ht _hy20 _hy24 _h26 | exact cmpL_gt _ht _hy29 _hy33 _h35 | (have hc := cmpL_end _ht (by omega) (by omega) (by omega); rw [hc]; first | (rw [if_pos (by omega)]; done) | (rw [if_neg (by omega), if_pos (by omega)]; done) | (rw [if_neg (by omega), if_neg (by omega)]; done))), E⟩
        · have _kb_29 := _h45
          have _h45 := bf_d _h45
          refine W_skip ?_
          refine thn_nrm (_hK_27 _ _ ?_)
          clear _hK_27
          refine W_seq fun _K_31 _hK_31 => ?_
          refine W_region ?_
          refine WL_step rfl rfl (r_assign rfl) ?_
          refine WL_nil ?_
          refine thn_nrm (_hK_31 _ _ ?_)
          clear _hK_31
          refine W_ret ?_
          clear _hK_5
          exact ret_intro [_] ⟨rfl, trivial⟩ ⟨congrArg (Value.int .i64) (by first | exact cmpL_lt _ht _hy20 _hy24 _h26 | exact cmpL_gt _ht _hy29 _hy33 _h35 | (have hc := cmpL_end _ht (by omega) (by omega) (by omega); rw [hc]; first | (rw [if_pos (by omega)]; done) | (rw [if_neg (by omega), if_pos (by omega)]; done) | (rw [if_neg (by omega), if_neg (by omega)]; done))), E⟩
  · have _kb_7 := _h10
    have _h10 := bf_d _h10
    refine WL_skip rfl rfl ?_
    refine WL_skip rfl rfl ?_
    refine WL_skip rfl rfl ?_
    refine WL_skip rfl rfl ?_
    refine WL_step rfl rfl (r_pickF rfl rfl) ?_
    refine WL_nil ?_
    refine thn_nrm (_hK_6 _ _ ?_)
    clear _hK_6
    refine W_condF rfl ?_
    refine W_exit (thn_exit (thn_exit (inB_hit ?_)))
    refine thn_nrm (_hK_2 _ _ ?_)
    clear _hK_2
    refine W_seq fun _K_32 _hK_32 => ?_
    refine W_seq fun _K_33 _hK_33 => ?_
    refine W_region ?_
    refine WL_step rfl rfl (r_move rfl) ?_
    refine WL_step rfl rfl (r_len (by rw [el43]; rfl) rfl) ?_
    refine WL_step rfl rfl (r_move rfl) ?_
    refine WL_step rfl rfl (r_len (by rw [el43]; rfl) rfl) ?_
    refine WL_step rfl rfl (r_lss rfl rfl) ?_
    refine WL_nil ?_
    refine thn_nrm (_hK_33 _ _ ?_)
    clear _hK_33
    refine W_cond rfl (fun _h40 => ?_) (fun _h40 => ?_)
    · have _kb_34 := _h40
      have _h40 := bt_d _h40
      refine W_seq fun _K_35 _hK_35 => ?_
      refine W_region ?_
      refine WL_step rfl rfl (r_assign rfl) ?_
      refine WL_nil ?_
      refine thn_nrm (_hK_35 _ _ ?_)
      clear _hK_35
      refine W_ret (thn_ret ?_)
      clear _hK_5 _hK_32
      exact ret_intro [_] ⟨rfl, trivial⟩ ⟨congrArg (Value.int .i64) (by first | exact cmpL_lt _ht _hy20 _hy24 _h26 | exact cmpL_gt _ht _hy29 _hy33 _h35 | (have hc := cmpL_end _ht (by omega) (by omega) (by omega); rw [hc]; first | (rw [if_pos (by omega)]; done) | (rw [if_neg (by omega), if_pos (by omega)]; done) | (rw [if_neg (by omega), if_neg (by omega)]; done))), E⟩
    · have _kb_34 := _h40
      have _h40 := bf_d _h40
      refine W_skip ?_
      refine thn_nrm (_hK_32 _ _ ?_)
      clear _hK_32
      refine W_seq fun _K_36 _hK_36 => ?_
      refine W_seq fun _K_37 _hK_37 => ?_
      refine W_region ?_
      refine WL_step rfl rfl (r_move rfl) ?_
      refine WL_step rfl rfl (r_len (by rw [el43]; rfl) rfl) ?_
      refine WL_step rfl rfl (r_move rfl) ?_
      refine WL_step rfl rfl (r_len (by rw [el43]; rfl) rfl) ?_
      refine WL_step rfl rfl (r_gtr rfl rfl) ?_
      refine WL_nil ?_
      refine thn_nrm (_hK_37 _ _ ?_)
      clear _hK_37
      refine W_cond rfl (fun _h45 => ?_) (fun _h45 => ?_)
      · have _kb_38 := _h45
        have _h45 := bt_d _h45
        refine W_seq fun _K_39 _hK_39 => ?_
        refine W_region ?_
        refine WL_step rfl rfl (r_assign rfl) ?_
        refine WL_nil ?_
        refine thn_nrm (_hK_39 _ _ ?_)
        clear _hK_39
        refine W_ret (thn_ret ?_)
        clear _hK_5 _hK_36
        exact ret_intro [_] ⟨rfl, trivial⟩ ⟨congrArg (Value.int .i64) (by first | exact cmpL_lt _ht _hy20 _hy24 _h26 | exact cmpL_gt _ht _hy29 _hy33 _h35 | (have hc := cmpL_end _ht (by omega) (by omega) (by omega); rw [hc]; first | (rw [if_pos (by omega)]; done) | (rw [if_neg (by omega), if_pos (by omega)]; done) | (rw [if_neg (by omega), if_neg (by omega)]; done))), E⟩
      · have _kb_38 := _h45
        have _h45 := bf_d _h45
        refine W_skip ?_
        refine thn_nrm (_hK_36 _ _ ?_)
        clear _hK_36
        refine W_seq fun _K_40 _hK_40 => ?_
        refine W_region ?_
        refine WL_step rfl rfl (r_assign rfl) ?_
        refine WL_nil ?_
        refine thn_nrm (_hK_40 _ _ ?_)
        clear _hK_40
        refine W_ret ?_
        clear _hK_5
        exact ret_intro [_] ⟨rfl, trivial⟩ ⟨congrArg (Value.int .i64) (by first | exact cmpL_lt _ht _hy20 _hy24 _h26 | exact cmpL_gt _ht _hy29 _hy33 _h35 | (have hc := cmpL_end _ht (by omega) (by omega) (by omega); rw [hc]; first | (rw [if_pos (by omega)]; done) | (rw [if_neg (by omega), if_pos (by omega)]; done) | (rw [if_neg (by omega), if_neg (by omega)]; done))), E⟩

/-- spec.IsValidHistory -/
theorem c_spec_IsValidHistory {w : World} (hF : Int) {LL_shG _B_shG : Nat} {_v_shG : Value} {shG : List Gv} (_h_shG : Ls Gv.cs 2 w LL_shG _B_shG _v_shG shG) {LR_hG BB_hG : Nat} {hG : List GD} (_rd_hG : RdG w LR_hG BB_hG shG hG) :
    Ctr Try.prog 55 #[(.agg #[(.int .i64 hF), _v_shG])] w (fun v w' => v = .bool (tt (ValidH hF hG)) ∧ Ch [] w w') := by
  obtain ⟨_A_shG, _C_shG, _e1_shG⟩ := _h_shG.val
  subst _e1_shG
  have _l_shG := _h_shG.len
  have _h_shG := _h_shG.here (by decide)
  have _rd_hG := _rd_hG.here
  have _rl_hG := _rd_hG.1
  have E := Ch.refl [] w
  refine Ctr_of_W (N := 47) (vs0 := [(.agg #[(.int .i64 hF), (.slice _A_shG shG.length _C_shG)])]) Try.func55 rfl rfl rfl ?_
  refine W_seq fun _K_1 _hK_1 => ?_
  refine W_region ?_
  refine WL_s rfl rfl ?_
  refine s_box rfl fun _b1 _w_2 _m1 _cw_2 _e1 => ?_
  have _cw_2z := _cw_2.size
  have E := E.trans _cw_2
  have _z1 := _m1.lt
  replace _m1 : Blk _w_2 _b1 28 [(.int .i64 hF), (.slice _A_shG shG.length _C_shG)] := _m1
  refine WL_step rfl rfl (r_assign rfl) ?_
  refine WL_nil ?_
  refine thn_nrm (_hK_1 _ _ ?_)
  clear _hK_1
  refine W_seq fun _K_3 _hK_3 => ?_
  refine W_seq fun _K_4 _hK_4 => ?_
  refine W_region ?_
  refine WL_step rfl rfl (r_assign rfl) ?_
  refine WL_nil ?_
  refine thn_nrm (_hK_4 _ _ ?_)
  clear _hK_4
  refine W_block ?_
  refine W_loop (σ := Nat) (fun (k : Nat) => [(1, (.pointer (some ⟨_b1, 0, none⟩))), (3, (.int .i64 ((k : Nat) : Int)))]) (fun (k : Nat) wx => Ch [] w wx ∧ _w_2.heap.size ≤ wx.heap.size ∧ (k ≤ hG.length) ∧ (SameV hG k) ∧ Blk wx _b1 28 [(.int .i64 hF), (.slice _A_shG shG.length _C_shG)]) (fun (k : Nat) => hG.length - k) 0 (Sub.cons rfl (Sub.cons rfl (Sub.nil _))) ⟨E, (Nat.le_refl _), (by omega), (same_zero _), _m1⟩ ?_
  rintro k _wr_5 ⟨E, _zz0, _hk, hs, _F0_0⟩
  have _E0h := E
  have _E0hz := _E0h.size
  have _F0_0z := _F0_0.lt
  refine W_seq fun _K_6 _hK_6 => ?_
  refine W_seq fun _K_7 _hK_7 => ?_
  refine W_region ?_
  refine WL_step rfl rfl (r_move rfl) ?_
  refine WL_step rfl rfl (r_fieldAddr fa28_1 rfl) ?_
  refine WL_step rfl rfl (r_loadAt _F0_0.at_ agg26 rfl rfl) ?_
  refine WL_step rfl rfl (r_len (by rw [el26]; rfl) rfl) ?_
  refine WL_step rfl rfl (r_lss rfl rfl) ?_
  refine WL_nil ?_
  refine thn_nrm (_hK_7 _ _ ?_)
  clear _hK_7
  refine W_cond rfl (fun _h8 => ?_) (fun _h8 => ?_)
  · have _kb_8 := _h8
    have _h8 := bt_d _h8
    refine W_skip ?_
    refine thn_nrm (_hK_6 _ _ ?_)
    clear _hK_6
    refine W_seq fun _K_9 _hK_9 => ?_
    refine W_block ?_
    refine W_seq fun _K_10 _hK_10 => ?_
    refine W_drawC [] 22 mixed rfl fun _w_11 _cw_11 => ?_
    have _cw_11z := _cw_11.size
    have E := E.trans _cw_11
    refine DR_s 0 rfl (by kernel_rfl) rfl rfl (t_v (fun _ => (r_fieldAddr fa28_1 rfl)) ?_)
    have _f_12 := (_F0_0.ch0 _cw_11)
    refine DR_s 1 rfl (by kernel_rfl) rfl rfl (t_loadAt _f_12.at_ (fun i hi => absurd hi List.not_mem_nil) agg26 rfl rfl ?_)
    refine DR_s 2 rfl (by kernel_rfl) rfl rfl (t_v (fun _ => (r_move rfl)) ?_)
    have _f_13 := ((_h_shG.ch0 _E0h).ch0 _cw_11)
    have _f_14 := ((_rd_hG.ch0 _E0h).ch0 _cw_11)
    refine DR_s 3 rfl (by kernel_rfl) rfl rfl (t_index _f_13 Gv.len el26 sz57 rfl rfl rfl (by omega) fun _p14 _y14 _hy14 _a14 => ?_)
    obtain ⟨_ys14, _hys14, _fs14, fe14⟩ := _f_14.get _hy14
    obtain ⟨⟨_A14, _n14, _C14⟩, ⟨Ae14, ne14, Ce14⟩⟩ := _y14
    obtain rfl := _fs14.eqn
    obtain rfl := fe14.eqn
    have _l14 := _fs14.len
    have le14 := fe14.len
    replace _fs14 : Ls ics 1 _w_11 LR_hG w.heap.size (.slice _A14 _ys14.V.length _C14) _ys14.V := _fs14
    replace fe14 : Ls GEdge.cs 4 _w_11 LR_hG w.heap.size (.slice Ae14 _ys14.E.length Ce14) _ys14.E := fe14
    refine DR_s 4 rfl (by kernel_rfl) rfl rfl (t_loadAtA0 _a14 (fun i hi => absurd hi List.not_mem_nil) agg57 sz57 rfl ?_)
    refine DR_one 5 (by kernel_rfl) ?_
    refine DO_s rfl rfl rfl ?_
    refine Step.call (r_call (xs := [.tmp 15]) fk115 rfl) (c_spec_IsValidGraph _fs14 fe14 ) fun _v16 _w_15 _q16 => ?_
    obtain ⟨rfl, _cw_15⟩ := _q16
    have _cw_15z := _cw_15.size
    have E := E.trans _cw_15
    have _S_16 : Ch [] _w_11 _w_15 := ((Ch.refl _ _).trans _cw_15)
    refine ⟨_S_16, ?_⟩
    refine DR_s 6 rfl (by kernel_rfl) rfl rfl (t_v (fun _ => (r_not rfl)) ?_)
    refine DR_s 7 rfl (by kernel_rfl) rfl rfl (t_v (fun _ => (r_move rfl)) ?_)
    refine DR_split (d := 18) rfl (fun _h18 => ?_) (fun _h18 => ?_)
    · have _kb_17 := _h18
      have _h18 := bf_t (bt_n _h18)
      refine DR_skip 8 rfl (by kernel_rfl) rfl rfl ?_
      refine DR_skip 9 rfl (by kernel_rfl) rfl rfl ?_
      refine DR_skip 10 rfl (by kernel_rfl) rfl rfl ?_
      refine DR_skip 11 rfl (by kernel_rfl) rfl rfl ?_
      refine DR_skip 12 rfl (by kernel_rfl) rfl rfl ?_
      refine DR_skip 13 rfl (by kernel_rfl) rfl rfl ?_
      refine DR_skip 14 rfl (by kernel_rfl) rfl rfl ?_
      refine DR_skip 15 rfl (by kernel_rfl) rfl rfl ?_
      refine DR_skip 16 rfl (by kernel_rfl) rfl rfl ?_
      refine DR_skip 17 rfl (by kernel_rfl) rfl rfl ?_
      refine DR_skip 18 rfl (by kernel_rfl) rfl rfl ?_
      refine DR_skip 19 rfl (by kernel_rfl) rfl rfl ?_
      refine DR_skip 20 rfl (by kernel_rfl) rfl rfl ?_
      refine DR_s 21 rfl (by kernel_rfl) rfl rfl (t_v (fun _ => (r_pickT rfl rfl)) ?_)
      refine DR_done (by kernel_rfl) ?_
      refine thn_nrm (_hK_10 _ _ ?_)
      clear _hK_10
      refine W_condT rfl ?_
      refine W_seq fun _K_18 _hK_18 => ?_
      refine W_region ?_
      refine WL_step rfl rfl (r_assign rfl) ?_
      refine WL_nil ?_
      refine thn_nrm (_hK_18 _ _ ?_)
      clear _hK_18
      refine W_ret (inB_ret (thn_ret (thn_ret (inB_ret (thn_ret ?_)))))
      clear _hK_3 _hK_9
      exact ret_intro [_] ⟨rfl, trivial⟩ ⟨congrArg Value.bool (by first | exact tt_false (fun q => _h18 (valh_val q _hys14)) | exact tt_false (fun q => _h32 (cmpL_eq.2 (valh_same q _hys22 _hys27))) | (rw [_rl_hG]; exact vh_y hs (by omega) (by omega)) | exact tt_false (fun q => by have _e2 := q.2.1; omega)), E⟩
    · have _kb_17 := _h18
      have _h18 := bt_t (bf_n _h18)
      refine DR_s 8 rfl (by kernel_rfl) rfl rfl (t_v (fun _ => (r_fieldAddr fa28_1 rfl)) ?_)
      refine DR_s 9 rfl (by kernel_rfl) rfl rfl (t_loadAt _f_12.at_ (fun i hi => absurd hi List.not_mem_nil) agg26 rfl rfl ?_)
      refine DR_s 10 rfl (by kernel_rfl) rfl rfl (t_v (fun _ => (r_move rfl)) ?_)
      refine DR_s 11 rfl (by kernel_rfl) rfl rfl (t_index _f_13 Gv.len el26 sz57 rfl rfl rfl (by omega) fun _p22 _y22 _hy22 _a22 => ?_)
      obtain ⟨_ys22, _hys22, _fs22, fe22⟩ := _f_14.get _hy22
      obtain ⟨⟨_A22, _n22, _C22⟩, ⟨Ae22, ne22, Ce22⟩⟩ := _y22
      obtain rfl := _fs22.eqn
      obtain rfl := fe22.eqn
      have _l22 := _fs22.len
      have le22 := fe22.len
      replace _fs22 : Ls ics 1 _w_11 LR_hG w.heap.size (.slice _A22 _ys22.V.length _C22) _ys22.V := _fs22
      replace fe22 : Ls GEdge.cs 4 _w_11 LR_hG w.heap.size (.slice Ae22 _ys22.E.length Ce22) _ys22.E := fe22
      refine DR_s 12 rfl (by kernel_rfl) rfl rfl (t_v (fun _ => (r_fieldAddr fa57_0 rfl)) ?_)
      refine DR_s 13 rfl (by kernel_rfl) rfl rfl (t_loadAt _a22 (fun i hi => absurd hi List.not_mem_nil) agg43 rfl rfl ?_)
      refine DR_s 14 rfl (by kernel_rfl) rfl rfl (t_v (fun _ => (r_fieldAddr fa28_1 rfl)) ?_)
      refine DR_s 15 rfl (by kernel_rfl) rfl rfl (t_loadAt _f_12.at_ (fun i hi => absurd hi List.not_mem_nil) agg26 rfl rfl ?_)
      refine DR_s 16 rfl (by kernel_rfl) rfl rfl (t_index (j := 0) _f_13 Gv.len el26 sz57 rfl rfl rfl (by omega) fun _p27 _y27 _hy27 _a27 => ?_)
      obtain ⟨_ys27, _hys27, _fs27, fe27⟩ := _f_14.get _hy27
      obtain ⟨⟨_A27, _n27, _C27⟩, ⟨Ae27, ne27, Ce27⟩⟩ := _y27
      obtain rfl := _fs27.eqn
      obtain rfl := fe27.eqn
      have _l27 := _fs27.len
      have le27 := fe27.len
      replace _fs27 : Ls ics 1 _w_11 LR_hG w.heap.size (.slice _A27 _ys27.V.length _C27) _ys27.V := _fs27
      replace fe27 : Ls GEdge.cs 4 _w_11 LR_hG w.heap.size (.slice Ae27 _ys27.E.length Ce27) _ys27.E := fe27
      refine DR_s 17 rfl (by kernel_rfl) rfl rfl (t_v (fun _ => (r_fieldAddr fa57_0 rfl)) ?_)
      refine DR_s 18 rfl (by kernel_rfl) rfl rfl (t_loadAt _a27 (fun i hi => absurd hi List.not_mem_nil) agg43 rfl rfl ?_)
      refine DR_one 19 (by kernel_rfl) ?_
      refine DO_s rfl rfl rfl ?_
      have _f_19 := (_fs22.ch0 _cw_15)
      have _f_20 := (_fs27.ch0 _cw_15)
      refine Step.call (r_call (xs := [.tmp 24, .tmp 29]) fk116 rfl) (c_spec_l2Cmp _f_19 _f_20 ) fun _v30 _w_21 _q30 => ?_
      obtain ⟨rfl, _cw_21⟩ := _q30
      have _cw_21z := _cw_21.size
      have E := E.trans _cw_21
      have _S_22 : Ch [] _w_11 _w_21 := (_S_16.trans _cw_21)
      refine ⟨_S_22, ?_⟩
      refine DR_s 20 rfl (by kernel_rfl) rfl rfl (t_v (fun _ => (r_neq rfl rfl)) ?_)
      refine DR_s 21 rfl (by kernel_rfl) rfl rfl (t_v (fun _ => (r_pickF rfl rfl)) ?_)
      refine DR_done (by kernel_rfl) ?_
      refine thn_nrm (_hK_10 _ _ ?_)
      clear _hK_10
      refine W_cond rfl (fun _h32 => ?_) (fun _h32 => ?_)
      · have _kb_23 := _h32
        have _h32 := bf_d (bt_n _h32)
        refine W_seq fun _K_24 _hK_24 => ?_
        refine W_region ?_
        refine WL_step rfl rfl (r_assign rfl) ?_
        refine WL_nil ?_
        refine thn_nrm (_hK_24 _ _ ?_)
        clear _hK_24
        refine W_ret (inB_ret (thn_ret (thn_ret (inB_ret (thn_ret ?_)))))
        clear _hK_3 _hK_9
        exact ret_intro [_] ⟨rfl, trivial⟩ ⟨congrArg Value.bool (by first | exact tt_false (fun q => _h18 (valh_val q _hys14)) | exact tt_false (fun q => _h32 (cmpL_eq.2 (valh_same q _hys22 _hys27))) | (rw [_rl_hG]; exact vh_y hs (by omega) (by omega)) | exact tt_false (fun q => by have _e2 := q.2.1; omega)), E⟩
      · have _kb_23 := _h32
        have _h32 := bt_d (bf_n _h32)
        refine W_skip ?_
        refine inB_nrm ?_
        refine thn_nrm (_hK_9 _ _ ?_)
        clear _hK_9
        refine W_region ?_
        refine WL_step rfl rfl (r_move rfl) ?_
        refine WL_step rfl rfl (r_add (by omega) rfl rfl) ?_
        refine WL_step rfl rfl (r_assign rfl) ?_
        refine WL_nil ?_
        have _f_25 := ((_f_12.ch0 _cw_15).ch0 _cw_21)
        exact thn_nrm (Exists.intro (k + 1) ⟨⟨E, (by omega), (by omega), (by have _u9 := get_uniq _hys14 _hys22; exact same_step hs _hys14 _hys27 _h18 (by rw [_u9]; exact cmpL_eq.1 (by omega))), _f_25⟩, Sub.cons rfl (Sub.cons rfl (Sub.nil _)), (by first | omega | (dsimp only; omega))⟩)
  · have _kb_8 := _h8
    have _h8 := bf_d _h8
    refine W_exit (thn_exit (thn_exit (inB_hit ?_)))
    refine thn_nrm (_hK_3 _ _ ?_)
    clear _hK_3
    refine W_seq fun _K_26 _hK_26 => ?_
    refine W_region ?_
    refine WL_step rfl rfl (r_fieldAddr fa28_1 rfl) ?_
    refine WL_step rfl rfl (r_loadAt _F0_0.at_ agg26 rfl rfl) ?_
    refine WL_step rfl rfl (r_len (by rw [el26]; rfl) rfl) ?_
    refine WL_s rfl rfl ?_
    refine Step.call (r_call (xs := [.tmp 35, .const (Go.Value.int Go.IntKind.i64 1), .const (Go.Value.int Go.IntKind.i64 8)]) fk56 rfl) (c_spec_l1In _ _ _ ) fun _v36 _w_27 _q36 => ?_
    obtain ⟨rfl, _cw_27⟩ := _q36
    have _cw_27z := _cw_27.size
    have E := E.trans _cw_27
    refine WL_step rfl rfl (r_move rfl) ?_
    refine WL_split (d := 37) rfl (fun _h37 => ?_) (fun _h37 => ?_)
    · have _kb_28 := _h37
      have _h37 := bt_d _h37
      refine WL_step rfl rfl (r_fieldAddr fa28_0 rfl) ?_
      have _f_29 := (_F0_0.ch0 _cw_27)
      refine WL_step rfl rfl (r_loadAt _f_29.at_ agg3 rfl rfl) ?_
      refine WL_step rfl rfl (r_fieldAddr fa28_1 rfl) ?_
      refine WL_step rfl rfl (r_loadAt _f_29.at_ agg26 rfl rfl) ?_
      refine WL_step rfl rfl (r_len (by rw [el26]; rfl) rfl) ?_
      refine WL_step rfl rfl (r_sub (by omega) rfl rfl) ?_
      refine WL_step rfl rfl (r_add (by omega) rfl rfl) ?_
      refine WL_s rfl rfl ?_
      refine Step.call (r_call (xs := [.tmp 39, .const (Go.Value.int Go.IntKind.i64 1), .tmp 44]) fk56 rfl) (c_spec_l1In _ _ _ ) fun _v45 _w_30 _q45 => ?_
      obtain ⟨rfl, _cw_30⟩ := _q45
      have _cw_30z := _cw_30.size
      have E := E.trans _cw_30
      refine WL_step rfl rfl (r_pickT rfl rfl) ?_
      refine WL_step rfl rfl (r_assign rfl) ?_
      refine WL_nil ?_
      refine thn_nrm (_hK_26 _ _ ?_)
      clear _hK_26
      refine W_ret ?_
      clear _hK_6
      exact ret_intro [_] ⟨rfl, trivial⟩ ⟨congrArg Value.bool (by first | exact tt_false (fun q => _h18 (valh_val q _hys14)) | exact tt_false (fun q => _h32 (cmpL_eq.2 (valh_same q _hys22 _hys27))) | (rw [_rl_hG]; exact vh_y hs (by omega) (by omega)) | exact tt_false (fun q => by have _e2 := q.2.1; omega)), E⟩
    · have _kb_28 := _h37
      have _h37 := bf_d _h37
      refine WL_skip rfl rfl ?_
      refine WL_skip rfl rfl ?_
      refine WL_skip rfl rfl ?_
      refine WL_skip rfl rfl ?_
      refine WL_skip rfl rfl ?_
      refine WL_skip rfl rfl ?_
      refine WL_skip rfl rfl ?_
      refine WL_skip rfl rfl ?_
      refine WL_step rfl rfl (r_pickF rfl rfl) ?_
      refine WL_step rfl rfl (r_assign rfl) ?_
      refine WL_nil ?_
      refine thn_nrm (_hK_26 _ _ ?_)
      clear _hK_26
      refine W_ret ?_
      clear _hK_6
      exact ret_intro [_] ⟨rfl, trivial⟩ ⟨congrArg Value.bool (by first | exact tt_false (fun q => _h18 (valh_val q _hys14)) | exact tt_false (fun q => _h32 (cmpL_eq.2 (valh_same q _hys22 _hys27))) | (rw [_rl_hG]; exact vh_y hs (by omega) (by omega)) | exact tt_false (fun q => by have _e2 := q.2.1; omega)), E⟩

/-- spec.LatestVersion -/
theorem c_spec_LatestVersion {w : World} (hF : Int) {LL_shG _B_shG : Nat} {_v_shG : Value} {shG : List Gv} (_h_shG : Ls Gv.cs 2 w LL_shG _B_shG _v_shG shG) {LR_hG BB_hG : Nat} {hG : List GD} (_rd_hG : RdG w LR_hG BB_hG shG hG) :
    Ctr Try.prog 57 #[(.agg #[(.int .i64 hF), _v_shG])] w (fun v w' => v = .int .i64 (lvR hF hG) ∧ Ch [] w w') := by
  obtain ⟨_A_shG, _C_shG, _e1_shG⟩ := _h_shG.val
  subst _e1_shG
  have _l_shG := _h_shG.len
  have _h_shG := _h_shG.here (by decide)
  have _rd_hG := _rd_hG.here
  have _rl_hG := _rd_hG.1
  have E := Ch.refl [] w
  refine Ctr_of_W (N := 13) (vs0 := [(.agg #[(.int .i64 hF), (.slice _A_shG shG.length _C_shG)])]) Try.func57 rfl rfl rfl ?_
  refine W_seq fun _K_1 _hK_1 => ?_
  refine W_region ?_
  refine WL_s rfl rfl ?_
  refine s_box rfl fun _b1 _w_2 _m1 _cw_2 _e1 => ?_
  have _cw_2z := _cw_2.size
  have E := E.trans _cw_2
  have _z1 := _m1.lt
  replace _m1 : Blk _w_2 _b1 28 [(.int .i64 hF), (.slice _A_shG shG.length _C_shG)] := _m1
  refine WL_step rfl rfl (r_assign rfl) ?_
  refine WL_nil ?_
  refine thn_nrm (_hK_1 _ _ ?_)
  clear _hK_1
  refine W_seq fun _K_3 _hK_3 => ?_
  refine W_seq fun _K_4 _hK_4 => ?_
  refine W_region ?_
  refine WL_step rfl rfl (r_loadAtA0 _m1.at_ agg28 sz28 rfl) ?_
  refine WL_s rfl rfl ?_
  have _f_5 := (_h_shG.ch0 _cw_2)
  have _f_6 := (_rd_hG.ch0 _cw_2)
  refine Step.call (r_call (xs := [.tmp 3]) fk55 rfl) (c_spec_IsValidHistory _ _f_5 _f_6 ) fun _v4 _w_7 _q4 => ?_
  obtain ⟨rfl, _cw_7⟩ := _q4
  have _cw_7z := _cw_7.size
  have E := E.trans _cw_7
  refine WL_step rfl rfl (r_not rfl) ?_
  refine WL_nil ?_
  refine thn_nrm (_hK_4 _ _ ?_)
  clear _hK_4
  refine W_cond rfl (fun _h5 => ?_) (fun _h5 => ?_)
  · have _kb_8 := _h5
    have _h5 := bf_t (bt_n _h5)
    first | have _v5 := _h5.2 | skip
    refine W_seq fun _K_9 _hK_9 => ?_
    refine W_region ?_
    refine WL_step rfl rfl (r_assign rfl) ?_
    refine WL_nil ?_
    refine thn_nrm (_hK_9 _ _ ?_)
    clear _hK_9
    refine W_ret (thn_ret ?_)
    clear _hK_3
    exact ret_intro [_] ⟨rfl, trivial⟩ ⟨congrArg (Value.int .i64) (by first | exact lv_n _h5 | (rw [_rl_hG]; exact lv_y _h5)), E⟩
  · have _kb_8 := _h5
    have _h5 := bt_t (bf_n _h5)
    first | have _v5 := _h5.2 | skip
    refine W_skip ?_
    refine thn_nrm (_hK_3 _ _ ?_)
    clear _hK_3
    refine W_seq fun _K_10 _hK_10 => ?_
    refine W_region ?_
    refine WL_step rfl rfl (r_fieldAddr fa28_0 rfl) ?_
    have _f_11 := (_m1.ch0 _cw_7)
    refine WL_step rfl rfl (r_loadAt _f_11.at_ agg3 rfl rfl) ?_
    refine WL_step rfl rfl (r_fieldAddr fa28_1 rfl) ?_
    refine WL_step rfl rfl (r_loadAt _f_11.at_ agg26 rfl rfl) ?_
    refine WL_step rfl rfl (r_len (by rw [el26]; rfl) rfl) ?_
    refine WL_step rfl rfl (r_add (by omega) rfl rfl) ?_
    refine WL_step rfl rfl (r_sub (by omega) rfl rfl) ?_
    refine WL_step rfl rfl (r_assign rfl) ?_
    refine WL_nil ?_
    refine thn_nrm (_hK_10 _ _ ?_)
    clear _hK_10
    refine W_ret ?_
    exact ret_intro [_] ⟨rfl, trivial⟩ ⟨congrArg (Value.int .i64) (by first | exact lv_n _h5 | (rw [_rl_hG]; exact lv_y _h5)), E⟩

/-- spec.l3Copy -/
theorem c_spec_l3Copy {w : World} {LL_gV _B_gV : Nat} {_v_gV : Value} {gV : List Int} (_h_gV : Ls ics 1 w LL_gV _B_gV _v_gV gV) {LL_gE _B_gE : Nat} {_v_gE : Value} {gE : List GEdge} (_h_gE : Ls GEdge.cs 4 w LL_gE _B_gE _v_gE gE) (hb : gV.length ≤ 4194304 ∧ gE.length ≤ 4194304) :
    Ctr Try.prog 114 #[(.agg #[_v_gV, _v_gE])] w (fun v w' => ∃ (u0x0 : Value) (u0x1 : Value), v = .agg #[u0x0, u0x1] ∧ Ol ics 3 1 w' u0x0 (gV) ∧ Lo w.heap.size u0x0 ∧ Ol GEdge.cs 168 4 w' u0x1 (gE) ∧ Lo w.heap.size u0x1 ∧ (∀ g ∈ bl u0x0, g ∉ bl u0x1) ∧ Ch [] w w') := by
  obtain ⟨_A_gV, _C_gV, _e1_gV⟩ := _h_gV.val
  subst _e1_gV
  have _l_gV := _h_gV.len
  have _h_gV := _h_gV.here (by decide)
  obtain ⟨_A_gE, _C_gE, _e1_gE⟩ := _h_gE.val
  subst _e1_gE
  have _l_gE := _h_gE.len
  have _h_gE := _h_gE.here (by decide)
  have E := Ch.refl [] w
  refine Ctr_of_W (N := 12) (vs0 := [(.agg #[(.slice _A_gV gV.length _C_gV), (.slice _A_gE gE.length _C_gE)])]) Try.func114 rfl rfl rfl ?_
  refine W_seq fun _K_1 _hK_1 => ?_
  refine W_region ?_
  refine WL_s rfl rfl ?_
  refine s_box rfl fun _b1 _w_2 _m1 _cw_2 _e1 => ?_
  have _cw_2z := _cw_2.size
  have E := E.trans _cw_2
  have _z1 := _m1.lt
  replace _m1 : Blk _w_2 _b1 57 [(.slice _A_gV gV.length _C_gV), (.slice _A_gE gE.length _C_gE)] := _m1
  refine WL_s rfl rfl ?_
  refine s_alloc zr57 fun _b2 _w_3 _m2 _cw_3 _e2 => ?_
  have _cw_3z := _cw_3.size
  have E := E.trans _cw_3
  have _z2 := _m2.lt
  replace _m2 : Blk _w_3 _b2 57 [(.slice none 0 0), (.slice none 0 0)] := _m2
  refine WL_nil ?_
  refine thn_nrm (_hK_1 _ _ ?_)
  clear _hK_1
  refine W_seq fun _K_4 _hK_4 => ?_
  refine W_drawC [_b2] 10 mixed rfl fun _w_5 _cw_5 => ?_
  have _cw_5z := _cw_5.size
  have E := E.trans _cw_5
  refine DR_s 1 rfl (by kernel_rfl) rfl rfl (t_v (fun _ => (r_fieldAddr fa57_0 rfl)) ?_)
  have _f_6 := ((_m1.ch0 _cw_3).ch0 _cw_5)
  refine DR_s 2 rfl (by kernel_rfl) rfl rfl (t_loadAt _f_6.at_ (fun i hm => by have _h1 := List.mem_singleton.1 hm; omega) agg43 rfl rfl ?_)
  refine DR_s 5 rfl (by kernel_rfl) rfl rfl (t_v (fun _ => (r_fieldAddr fa57_1 rfl)) ?_)
  refine DR_s 6 rfl (by kernel_rfl) rfl rfl (t_loadAt _f_6.at_ (fun i hm => by have _h1 := List.mem_singleton.1 hm; omega) agg55 rfl rfl ?_)
  refine DR_two 0 4 (by kernel_rfl) ?_ ?_
  · refine DO_s rfl rfl rfl ?_
    refine s_buildSlice0 (k := 1) ics el43 sz3 fun _v3 _w_7 _q3 _lo3 _cw_7 => ?_
    have _cw_7z := _cw_7.size
    have E := E.trans _cw_7
    obtain ⟨_Av3, _Cv3, _ev3⟩ := _q3.val
    subst _ev3
    have _lv3 := _q3.len
    have _hiv3 := _q3.lt
    have _S_8 : Ch [_b2] _w_5 _w_7 := ((Ch.refl _ _).trans _cw_7.of_nil)
    refine ⟨_S_8, ?_⟩
    refine DR_two 3 4 (by kernel_rfl) ?_ ?_
    · refine DO_s rfl rfl rfl ?_
      have _f_10 := ((((_h_gV.ch0 _cw_2).ch0 _cw_3).ch0 _cw_5).ch0 _cw_7)
      refine s_append (cs := ics) el43 sz3 by3 zr3 rfl (by decide) ics_one _q3 _f_10 rfl rfl (by first | omega | (simp only [List.length_append, List.length_nil, List.length_cons, List.length_replicate, List.length_set, List.length_reverse, List.length_map] at *; omega) | (simp at *; omega)) (by first | omega | (simp only [List.length_append, List.length_nil, List.length_cons, List.length_replicate, List.length_set, List.length_reverse, List.length_map] at *; omega) | (simp at *; omega)) _lo3 (by omega) fun _v6 _w_9 _q6 _lo6 _ap6 _cw_9 => ?_
      have _cw_9z := _cw_9.size
      have E := E.step _cw_9 (fun i hi => .inl (by have _h1 := _lo3 _ hi; omega))
      replace _q6 : Ol ics 3 1 _w_9 _v6 gV := _q6
      obtain ⟨_Av6, _Cv6, _ev6⟩ := _q6.val
      subst _ev6
      have _lv6 := _q6.len
      have _hiv6 := _q6.lt
      have _S_11 : Ch [_b2] _w_5 _w_9 := (_S_8.step _cw_9 (fun i hm => by left; have _h1 := _lo3 _ hm; have _h2 := _hiv3 _ hm; omega))
      refine ⟨_S_11, ?_⟩
      refine DR_one 4 (by kernel_rfl) ?_
      refine DO_s rfl rfl rfl ?_
      refine s_buildSlice0 (k := 4) GEdge.cs el55 sz168 fun _v7 _w_12 _q7 _lo7 _cw_12 => ?_
      have _cw_12z := _cw_12.size
      have E := E.trans _cw_12
      obtain ⟨_Av7, _Cv7, _ev7⟩ := _q7.val
      subst _ev7
      have _lv7 := _q7.len
      have _hiv7 := _q7.lt
      have _S_13 : Ch [_b2] _w_5 _w_12 := (_S_11.trans _cw_12.of_nil)
      refine ⟨_S_13, ?_⟩
      refine DR_one 7 (by kernel_rfl) ?_
      refine DO_s rfl rfl rfl ?_
      have _f_15 := ((((((_h_gE.ch0 _cw_2).ch0 _cw_3).ch0 _cw_5).ch0 _cw_7).ch _cw_9 (fun i hi => by have _h1 := _lo3 _ hi; omega)).ch0 _cw_12)
      refine s_append (cs := GEdge.cs) el55 sz168 by168 zr168 rfl (by decide) GEdge.one _q7 _f_15 rfl rfl (by first | omega | (simp only [List.length_append, List.length_nil, List.length_cons, List.length_replicate, List.length_set, List.length_reverse, List.length_map] at *; omega) | (simp at *; omega)) (by first | omega | (simp only [List.length_append, List.length_nil, List.length_cons, List.length_replicate, List.length_set, List.length_reverse, List.length_map] at *; omega) | (simp at *; omega)) _lo7 (by omega) fun _v10 _w_14 _q10 _lo10 _ap10 _cw_14 => ?_
      have _cw_14z := _cw_14.size
      have E := E.step _cw_14 (fun i hi => .inl (by have _h1 := _lo7 _ hi; omega))
      replace _q10 : Ol GEdge.cs 168 4 _w_14 _v10 gE := _q10
      obtain ⟨_Av10, _Cv10, _ev10⟩ := _q10.val
      subst _ev10
      have _lv10 := _q10.len
      have _hiv10 := _q10.lt
      have _S_16 : Ch [_b2] _w_5 _w_14 := (_S_13.step _cw_14 (fun i hm => by left; have _h1 := _lo7 _ hm; have _h2 := _hiv7 _ hm; omega))
      refine ⟨_S_16, ?_⟩
      refine DR_s 8 rfl (by kernel_rfl) rfl rfl (t_v (fun _ => (r_build (parts := [(0, .tmp 6), (1, .tmp 10)]) (cells := [(.slice _Av6 (gV).length _Cv6), (.slice _Av10 (gE).length _Cv10)]) zr57 pl57 rfl rfl)) ?_)
      refine DR_one 9 (by kernel_rfl) ?_
      refine DO_s rfl rfl rfl ?_
      have _f_17 := (((((_m2.ch0 _cw_5).ch0 _cw_7).ch _cw_9 (fun hm => by have _h1 := _lo3 _ hm; have _h2 := _hiv3 _ hm; omega)).ch0 _cw_12).ch _cw_14 (fun hm => by have _h1 := _lo7 _ hm; have _h2 := _hiv7 _ hm; omega))
      refine s_storeA (off := 0) 2 _f_17 sz57 rfl (us := [(.slice _Av6 (gV).length _Cv6), (.slice _Av10 (gE).length _Cv10)]) rfl rfl rfl rfl fun _w_18 _m_19 _cw_18 => ?_
      have _cw_18z := _cw_18.size
      have E := E.step _cw_18 (fun i hi => .inl (by have _h1 := List.mem_singleton.1 hi; omega))
      replace _m_19 : Blk _w_18 _b2 57 [(.slice _Av6 (gV).length _Cv6), (.slice _Av10 (gE).length _Cv10)] := _m_19
      have _S_20 : Ch [_b2] _w_5 _w_18 := (_S_16.step _cw_18 (fun i hm => by have _h0 := List.mem_singleton.1 hm; exact .inr (by rw [_h0]; exact (List.mem_singleton.2 rfl))))
      refine ⟨_S_20, ?_⟩
      refine DR_done (by kernel_rfl) ?_
      refine thn_nrm (_hK_4 _ _ ?_)
      clear _hK_4
      refine W_ret ?_
      have _f_21 := (((_q6.ch0 _cw_12).ch _cw_14 (fun g hg hm => by rcases _ap6 with ea | ea; (rw [ea] at hg; have _h1 := _lo7 _ hm; have _h2 := _hiv7 _ hm; have _h3 := _lo3 _ hg; have _h4 := _hiv3 _ hg; omega); (have z2hg := _hiv6 _ hg; rw [ea] at hg; have _z1 := List.mem_singleton.1 hg; have _h1 := _lo7 _ hm; have _h2 := _hiv7 _ hm; omega))).ch _cw_18 (fun g hg hm => by have _h0 := List.mem_singleton.1 hm; rcases _ap6 with ea | ea; (rw [ea] at hg; have _h2 := _lo3 _ hg; have _h3 := _hiv3 _ hg; omega); (have z2hg := _hiv6 _ hg; rw [ea] at hg; have _z1 := List.mem_singleton.1 hg; omega)))
      have _o_22 : Ol ics 3 1 _w_18 (.slice _Av6 (gV).length _Cv6) (gV) := by
        have hx := _f_21
        first | exact hx | simpa using hx
      have _f_23 := (_q10.ch _cw_18 (fun g hg hm => by have _h0 := List.mem_singleton.1 hm; rcases _ap10 with ea | ea; (rw [ea] at hg; have _h2 := _lo7 _ hg; have _h3 := _hiv7 _ hg; omega); (have z2hg := _hiv10 _ hg; rw [ea] at hg; have _z1 := List.mem_singleton.1 hg; omega)))
      have _o_24 : Ol GEdge.cs 168 4 _w_18 (.slice _Av10 (gE).length _Cv10) (gE) := by
        have hx := _f_23
        first | exact hx | simpa using hx
      exact ret_intro [_] (resOf_loadA _m_19 rfl agg57 sz57 trivial) ⟨(.slice _Av6 (gV).length _Cv6), (.slice _Av10 (gE).length _Cv10), rfl, _o_22, (Lo.down _lo6 (by omega)), _o_24, (Lo.down _lo10 (by omega)), (fun g hm hg => by rcases _ap6 with ea | ea; (rw [ea] at hm; rcases _ap10 with ea | ea; (rw [ea] at hg; have _h1 := _lo3 _ hm; have _h2 := _hiv3 _ hm; have _h3 := _lo7 _ hg; have _h4 := _hiv7 _ hg; omega); (have z2hg := _hiv10 _ hg; rw [ea] at hg; have _z1 := List.mem_singleton.1 hg; have _h1 := _lo3 _ hm; have _h2 := _hiv3 _ hm; omega)); (have z2hm := _hiv6 _ hm; rw [ea] at hm; have _z1 := List.mem_singleton.1 hm; rcases _ap10 with ea | ea; (rw [ea] at hg; have _h3 := _lo7 _ hg; have _h4 := _hiv7 _ hg; omega); (have z2hg := _hiv10 _ hg; rw [ea] at hg; have _z1 := List.mem_singleton.1 hg; omega))), E⟩
    · refine DO_s rfl rfl rfl ?_
      refine s_buildSlice0 (k := 4) GEdge.cs el55 sz168 fun _v7 _w_25 _q7 _lo7 _cw_25 => ?_
      have _cw_25z := _cw_25.size
      have E := E.trans _cw_25
      obtain ⟨_Av7, _Cv7, _ev7⟩ := _q7.val
      subst _ev7
      have _lv7 := _q7.len
      have _hiv7 := _q7.lt
      have _S_26 : Ch [_b2] _w_5 _w_25 := (_S_8.trans _cw_25.of_nil)
      refine ⟨_S_26, ?_⟩
      refine DR_one 3 (by kernel_rfl) ?_
      refine DO_s rfl rfl rfl ?_
      have _f_28 := (_q3.ch0 _cw_25)
      have _f_29 := (((((_h_gV.ch0 _cw_2).ch0 _cw_3).ch0 _cw_5).ch0 _cw_7).ch0 _cw_25)
      refine s_append (cs := ics) el43 sz3 by3 zr3 rfl (by decide) ics_one _f_28 _f_29 rfl rfl (by first | omega | (simp only [List.length_append, List.length_nil, List.length_cons, List.length_replicate, List.length_set, List.length_reverse, List.length_map] at *; omega) | (simp at *; omega)) (by first | omega | (simp only [List.length_append, List.length_nil, List.length_cons, List.length_replicate, List.length_set, List.length_reverse, List.length_map] at *; omega) | (simp at *; omega)) _lo3 (by omega) fun _v6 _w_27 _q6 _lo6 _ap6 _cw_27 => ?_
      have _cw_27z := _cw_27.size
      have E := E.step _cw_27 (fun i hi => .inl (by have _h1 := _lo3 _ hi; omega))
      replace _q6 : Ol ics 3 1 _w_27 _v6 gV := _q6
      obtain ⟨_Av6, _Cv6, _ev6⟩ := _q6.val
      subst _ev6
      have _lv6 := _q6.len
      have _hiv6 := _q6.lt
      have _S_30 : Ch [_b2] _w_5 _w_27 := (_S_26.step _cw_27 (fun i hm => by left; have _h1 := _lo3 _ hm; have _h2 := _hiv3 _ hm; omega))
      refine ⟨_S_30, ?_⟩
      refine DR_one 7 (by kernel_rfl) ?_
      refine DO_s rfl rfl rfl ?_
      have _f_32 := (_q7.ch _cw_27 (fun g hg hm => by have _h1 := _lo3 _ hm; have _h2 := _hiv3 _ hm; have _h3 := _lo7 _ hg; have _h4 := _hiv7 _ hg; omega))
      have _f_33 := ((((((_h_gE.ch0 _cw_2).ch0 _cw_3).ch0 _cw_5).ch0 _cw_7).ch0 _cw_25).ch _cw_27 (fun i hi => by have _h1 := _lo3 _ hi; omega))
      refine s_append (cs := GEdge.cs) el55 sz168 by168 zr168 rfl (by decide) GEdge.one _f_32 _f_33 rfl rfl (by first | omega | (simp only [List.length_append, List.length_nil, List.length_cons, List.length_replicate, List.length_set, List.length_reverse, List.length_map] at *; omega) | (simp at *; omega)) (by first | omega | (simp only [List.length_append, List.length_nil, List.length_cons, List.length_replicate, List.length_set, List.length_reverse, List.length_map] at *; omega) | (simp at *; omega)) _lo7 (by omega) fun _v10 _w_31 _q10 _lo10 _ap10 _cw_31 => ?_
      have _cw_31z := _cw_31.size
      have E := E.step _cw_31 (fun i hi => .inl (by have _h1 := _lo7 _ hi; omega))
      replace _q10 : Ol GEdge.cs 168 4 _w_31 _v10 gE := _q10
      obtain ⟨_Av10, _Cv10, _ev10⟩ := _q10.val
      subst _ev10
      have _lv10 := _q10.len
      have _hiv10 := _q10.lt
      have _S_34 : Ch [_b2] _w_5 _w_31 := (_S_30.step _cw_31 (fun i hm => by left; have _h1 := _lo7 _ hm; have _h2 := _hiv7 _ hm; omega))
      refine ⟨_S_34, ?_⟩
      refine DR_s 8 rfl (by kernel_rfl) rfl rfl (t_v (fun _ => (r_build (parts := [(0, .tmp 6), (1, .tmp 10)]) (cells := [(.slice _Av6 (gV).length _Cv6), (.slice _Av10 (gE).length _Cv10)]) zr57 pl57 rfl rfl)) ?_)
      refine DR_one 9 (by kernel_rfl) ?_
      refine DO_s rfl rfl rfl ?_
      have _f_35 := (((((_m2.ch0 _cw_5).ch0 _cw_7).ch0 _cw_25).ch _cw_27 (fun hm => by have _h1 := _lo3 _ hm; have _h2 := _hiv3 _ hm; omega)).ch _cw_31 (fun hm => by have _h1 := _lo7 _ hm; have _h2 := _hiv7 _ hm; omega))
      refine s_storeA (off := 0) 2 _f_35 sz57 rfl (us := [(.slice _Av6 (gV).length _Cv6), (.slice _Av10 (gE).length _Cv10)]) rfl rfl rfl rfl fun _w_36 _m_37 _cw_36 => ?_
      have _cw_36z := _cw_36.size
      have E := E.step _cw_36 (fun i hi => .inl (by have _h1 := List.mem_singleton.1 hi; omega))
      replace _m_37 : Blk _w_36 _b2 57 [(.slice _Av6 (gV).length _Cv6), (.slice _Av10 (gE).length _Cv10)] := _m_37
      have _S_38 : Ch [_b2] _w_5 _w_36 := (_S_34.step _cw_36 (fun i hm => by have _h0 := List.mem_singleton.1 hm; exact .inr (by rw [_h0]; exact (List.mem_singleton.2 rfl))))
      refine ⟨_S_38, ?_⟩
      refine DR_done (by kernel_rfl) ?_
      refine thn_nrm (_hK_4 _ _ ?_)
      clear _hK_4
      refine W_ret ?_
      have _f_39 := ((_q6.ch _cw_31 (fun g hg hm => by rcases _ap6 with ea | ea; (rw [ea] at hg; have _h1 := _lo7 _ hm; have _h2 := _hiv7 _ hm; have _h3 := _lo3 _ hg; have _h4 := _hiv3 _ hg; omega); (have z2hg := _hiv6 _ hg; rw [ea] at hg; have _z1 := List.mem_singleton.1 hg; have _h1 := _lo7 _ hm; have _h2 := _hiv7 _ hm; omega))).ch _cw_36 (fun g hg hm => by have _h0 := List.mem_singleton.1 hm; rcases _ap6 with ea | ea; (rw [ea] at hg; have _h2 := _lo3 _ hg; have _h3 := _hiv3 _ hg; omega); (have z2hg := _hiv6 _ hg; rw [ea] at hg; have _z1 := List.mem_singleton.1 hg; omega)))
      have _o_40 : Ol ics 3 1 _w_36 (.slice _Av6 (gV).length _Cv6) (gV) := by
        have hx := _f_39
        first | exact hx | simpa using hx
      have _f_41 := (_q10.ch _cw_36 (fun g hg hm => by have _h0 := List.mem_singleton.1 hm; rcases _ap10 with ea | ea; (rw [ea] at hg; have _h2 := _lo7 _ hg; have _h3 := _hiv7 _ hg; omega); (have z2hg := _hiv10 _ hg; rw [ea] at hg; have _z1 := List.mem_singleton.1 hg; omega)))
      have _o_42 : Ol GEdge.cs 168 4 _w_36 (.slice _Av10 (gE).length _Cv10) (gE) := by
        have hx := _f_41
        first | exact hx | simpa using hx
      exact ret_intro [_] (resOf_loadA _m_37 rfl agg57 sz57 trivial) ⟨(.slice _Av6 (gV).length _Cv6), (.slice _Av10 (gE).length _Cv10), rfl, _o_40, (Lo.down _lo6 (by omega)), _o_42, (Lo.down _lo10 (by omega)), (fun g hm hg => by rcases _ap6 with ea | ea; (rw [ea] at hm; rcases _ap10 with ea | ea; (rw [ea] at hg; have _h1 := _lo3 _ hm; have _h2 := _hiv3 _ hm; have _h3 := _lo7 _ hg; have _h4 := _hiv7 _ hg; omega); (have z2hg := _hiv10 _ hg; rw [ea] at hg; have _z1 := List.mem_singleton.1 hg; have _h1 := _lo3 _ hm; have _h2 := _hiv3 _ hm; omega)); (have z2hm := _hiv6 _ hm; rw [ea] at hm; have _z1 := List.mem_singleton.1 hm; rcases _ap10 with ea | ea; (rw [ea] at hg; have _h3 := _lo7 _ hg; have _h4 := _hiv7 _ hg; omega); (have z2hg := _hiv10 _ hg; rw [ea] at hg; have _z1 := List.mem_singleton.1 hg; omega))), E⟩
  · refine DO_s rfl rfl rfl ?_
    refine s_buildSlice0 (k := 4) GEdge.cs el55 sz168 fun _v7 _w_43 _q7 _lo7 _cw_43 => ?_
    have _cw_43z := _cw_43.size
    have E := E.trans _cw_43
    obtain ⟨_Av7, _Cv7, _ev7⟩ := _q7.val
    subst _ev7
    have _lv7 := _q7.len
    have _hiv7 := _q7.lt
    have _S_44 : Ch [_b2] _w_5 _w_43 := ((Ch.refl _ _).trans _cw_43.of_nil)
    refine ⟨_S_44, ?_⟩
    refine DR_one 0 (by kernel_rfl) ?_
    refine DO_s rfl rfl rfl ?_
    refine s_buildSlice0 (k := 1) ics el43 sz3 fun _v3 _w_45 _q3 _lo3 _cw_45 => ?_
    have _cw_45z := _cw_45.size
    have E := E.trans _cw_45
    obtain ⟨_Av3, _Cv3, _ev3⟩ := _q3.val
    subst _ev3
    have _lv3 := _q3.len
    have _hiv3 := _q3.lt
    have _S_46 : Ch [_b2] _w_5 _w_45 := (_S_44.trans _cw_45.of_nil)
    refine ⟨_S_46, ?_⟩
    refine DR_one 3 (by kernel_rfl) ?_
    refine DO_s rfl rfl rfl ?_
    have _f_48 := (((((_h_gV.ch0 _cw_2).ch0 _cw_3).ch0 _cw_5).ch0 _cw_43).ch0 _cw_45)
    refine s_append (cs := ics) el43 sz3 by3 zr3 rfl (by decide) ics_one _q3 _f_48 rfl rfl (by first | omega | (simp only [List.length_append, List.length_nil, List.length_cons, List.length_replicate, List.length_set, List.length_reverse, List.length_map] at *; omega) | (simp at *; omega)) (by first | omega | (simp only [List.length_append, List.length_nil, List.length_cons, List.length_replicate, List.length_set, List.length_reverse, List.length_map] at *; omega) | (simp at *; omega)) _lo3 (by omega) fun _v6 _w_47 _q6 _lo6 _ap6 _cw_47 => ?_
    have _cw_47z := _cw_47.size
    have E := E.step _cw_47 (fun i hi => .inl (by have _h1 := _lo3 _ hi; omega))
    replace _q6 : Ol ics 3 1 _w_47 _v6 gV := _q6
    obtain ⟨_Av6, _Cv6, _ev6⟩ := _q6.val
    subst _ev6
    have _lv6 := _q6.len
    have _hiv6 := _q6.lt
    have _S_49 : Ch [_b2] _w_5 _w_47 := (_S_46.step _cw_47 (fun i hm => by left; have _h1 := _lo3 _ hm; have _h2 := _hiv3 _ hm; omega))
    refine ⟨_S_49, ?_⟩
    refine DR_one 7 (by kernel_rfl) ?_
    refine DO_s rfl rfl rfl ?_
    have _f_51 := ((_q7.ch0 _cw_45).ch _cw_47 (fun g hg hm => by have _h1 := _lo3 _ hm; have _h2 := _hiv3 _ hm; have _h3 := _lo7 _ hg; have _h4 := _hiv7 _ hg; omega))
    have _f_52 := ((((((_h_gE.ch0 _cw_2).ch0 _cw_3).ch0 _cw_5).ch0 _cw_43).ch0 _cw_45).ch _cw_47 (fun i hi => by have _h1 := _lo3 _ hi; omega))
    refine s_append (cs := GEdge.cs) el55 sz168 by168 zr168 rfl (by decide) GEdge.one _f_51 _f_52 rfl rfl (by first | omega | (simp only [List.length_append, List.length_nil, List.length_cons, List.length_replicate, List.length_set, List.length_reverse, List.length_map] at *; omega) | (simp at *; omega)) (by first | omega | (simp only [List.length_append, List.length_nil, List.length_cons, List.length_replicate, List.length_set, List.length_reverse, List.length_map] at *; omega) | (simp at *; omega)) _lo7 (by omega) fun _v10 _w_50 _q10 _lo10 _ap10 _cw_50 => ?_
    have _cw_50z := _cw_50.size
    have E := E.step _cw_50 (fun i hi => .inl (by have _h1 := _lo7 _ hi; omega))
    replace _q10 : Ol GEdge.cs 168 4 _w_50 _v10 gE := _q10
    obtain ⟨_Av10, _Cv10, _ev10⟩ := _q10.val
    subst _ev10
    have _lv10 := _q10.len
    have _hiv10 := _q10.lt
    have _S_53 : Ch [_b2] _w_5 _w_50 := (_S_49.step _cw_50 (fun i hm => by left; have _h1 := _lo7 _ hm; have _h2 := _hiv7 _ hm; omega))
    refine ⟨_S_53, ?_⟩
    refine DR_s 8 rfl (by kernel_rfl) rfl rfl (t_v (fun _ => (r_build (parts := [(0, .tmp 6), (1, .tmp 10)]) (cells := [(.slice _Av6 (gV).length _Cv6), (.slice _Av10 (gE).length _Cv10)]) zr57 pl57 rfl rfl)) ?_)
    refine DR_one 9 (by kernel_rfl) ?_
    refine DO_s rfl rfl rfl ?_
    have _f_54 := (((((_m2.ch0 _cw_5).ch0 _cw_43).ch0 _cw_45).ch _cw_47 (fun hm => by have _h1 := _lo3 _ hm; have _h2 := _hiv3 _ hm; omega)).ch _cw_50 (fun hm => by have _h1 := _lo7 _ hm; have _h2 := _hiv7 _ hm; omega))
    refine s_storeA (off := 0) 2 _f_54 sz57 rfl (us := [(.slice _Av6 (gV).length _Cv6), (.slice _Av10 (gE).length _Cv10)]) rfl rfl rfl rfl fun _w_55 _m_56 _cw_55 => ?_
    have _cw_55z := _cw_55.size
    have E := E.step _cw_55 (fun i hi => .inl (by have _h1 := List.mem_singleton.1 hi; omega))
    replace _m_56 : Blk _w_55 _b2 57 [(.slice _Av6 (gV).length _Cv6), (.slice _Av10 (gE).length _Cv10)] := _m_56
    have _S_57 : Ch [_b2] _w_5 _w_55 := (_S_53.step _cw_55 (fun i hm => by have _h0 := List.mem_singleton.1 hm; exact .inr (by rw [_h0]; exact (List.mem_singleton.2 rfl))))
    refine ⟨_S_57, ?_⟩
    refine DR_done (by kernel_rfl) ?_
    refine thn_nrm (_hK_4 _ _ ?_)
    clear _hK_4
    refine W_ret ?_
    have _f_58 := ((_q6.ch _cw_50 (fun g hg hm => by rcases _ap6 with ea | ea; (rw [ea] at hg; have _h1 := _lo7 _ hm; have _h2 := _hiv7 _ hm; have _h3 := _lo3 _ hg; have _h4 := _hiv3 _ hg; omega); (have z2hg := _hiv6 _ hg; rw [ea] at hg; have _z1 := List.mem_singleton.1 hg; have _h1 := _lo7 _ hm; have _h2 := _hiv7 _ hm; omega))).ch _cw_55 (fun g hg hm => by have _h0 := List.mem_singleton.1 hm; rcases _ap6 with ea | ea; (rw [ea] at hg; have _h2 := _lo3 _ hg; have _h3 := _hiv3 _ hg; omega); (have z2hg := _hiv6 _ hg; rw [ea] at hg; have _z1 := List.mem_singleton.1 hg; omega)))
    have _o_59 : Ol ics 3 1 _w_55 (.slice _Av6 (gV).length _Cv6) (gV) := by
      have hx := _f_58
      first | exact hx | simpa using hx
    have _f_60 := (_q10.ch _cw_55 (fun g hg hm => by have _h0 := List.mem_singleton.1 hm; rcases _ap10 with ea | ea; (rw [ea] at hg; have _h2 := _lo7 _ hg; have _h3 := _hiv7 _ hg; omega); (have z2hg := _hiv10 _ hg; rw [ea] at hg; have _z1 := List.mem_singleton.1 hg; omega)))
    have _o_61 : Ol GEdge.cs 168 4 _w_55 (.slice _Av10 (gE).length _Cv10) (gE) := by
      have hx := _f_60
      first | exact hx | simpa using hx
    exact ret_intro [_] (resOf_loadA _m_56 rfl agg57 sz57 trivial) ⟨(.slice _Av6 (gV).length _Cv6), (.slice _Av10 (gE).length _Cv10), rfl, _o_59, (Lo.down _lo6 (by omega)), _o_61, (Lo.down _lo10 (by omega)), (fun g hm hg => by rcases _ap6 with ea | ea; (rw [ea] at hm; rcases _ap10 with ea | ea; (rw [ea] at hg; have _h1 := _lo3 _ hm; have _h2 := _hiv3 _ hm; have _h3 := _lo7 _ hg; have _h4 := _hiv7 _ hg; omega); (have z2hg := _hiv10 _ hg; rw [ea] at hg; have _z1 := List.mem_singleton.1 hg; have _h1 := _lo3 _ hm; have _h2 := _hiv3 _ hm; omega)); (have z2hm := _hiv6 _ hm; rw [ea] at hm; have _z1 := List.mem_singleton.1 hm; rcases _ap10 with ea | ea; (rw [ea] at hg; have _h3 := _lo7 _ hg; have _h4 := _hiv7 _ hg; omega); (have z2hg := _hiv10 _ hg; rw [ea] at hg; have _z1 := List.mem_singleton.1 hg; omega))), E⟩

/-- spec.l7Copy -/
theorem c_spec_l7Copy {w : World} (hF : Int) {LL_shG _B_shG : Nat} {_v_shG : Value} {shG : List Gv} (_h_shG : Ls Gv.cs 2 w LL_shG _B_shG _v_shG shG) {LR_hG BB_hG : Nat} {hG : List GD} (_rd_hG : RdG w LR_hG BB_hG shG hG) (hb : hG.length + gsize hG ≤ 4194304) :
    Ctr Try.prog 54 #[(.agg #[(.int .i64 hF), _v_shG])] w (fun v w' => ∃ (u0x1 : Value) (vs0x1 : List Gv), v = .agg #[.int .i64 hF, u0x1] ∧ Ol Gv.cs 57 2 w' u0x1 vs0x1 ∧ Lo w.heap.size u0x1 ∧ OdG 3 168 w' w.heap.size w'.heap.size vs0x1 (hG) ∧ SepH u0x1 vs0x1 ∧ Ch [] w w') := by
  obtain ⟨_A_shG, _C_shG, _e1_shG⟩ := _h_shG.val
  subst _e1_shG
  have _l_shG := _h_shG.len
  have _h_shG := _h_shG.here (by decide)
  have _rd_hG := _rd_hG.here
  have _rl_hG := _rd_hG.1
  have E := Ch.refl [] w
  refine Ctr_of_W (N := 29) (vs0 := [(.agg #[(.int .i64 hF), (.slice _A_shG shG.length _C_shG)])]) Try.func54 rfl rfl rfl ?_
  refine W_seq fun _K_1 _hK_1 => ?_
  refine W_region ?_
  refine WL_s rfl rfl ?_
  refine s_box rfl fun _b1 _w_2 _m1 _cw_2 _e1 => ?_
  have _cw_2z := _cw_2.size
  have E := E.trans _cw_2
  have _z1 := _m1.lt
  replace _m1 : Blk _w_2 _b1 28 [(.int .i64 hF), (.slice _A_shG shG.length _C_shG)] := _m1
  refine WL_s rfl rfl ?_
  refine s_alloc zr28 fun _b2 _w_3 _m2 _cw_3 _e2 => ?_
  have _cw_3z := _cw_3.size
  have E := E.trans _cw_3
  have _z2 := _m2.lt
  replace _m2 : Blk _w_3 _b2 28 [(.int .i64 0), (.slice none 0 0)] := _m2
  refine WL_nil ?_
  refine thn_nrm (_hK_1 _ _ ?_)
  clear _hK_1
  refine W_seq fun _K_4 _hK_4 => ?_
  refine W_region ?_
  refine WL_step rfl rfl (r_fieldAddr fa28_0 rfl) ?_
  have _f_5 := (_m1.ch0 _cw_3)
  refine WL_step rfl rfl (r_loadAt _f_5.at_ agg3 rfl rfl) ?_
  refine WL_step rfl rfl (r_build (parts := [(0, .tmp 7)]) (cells := [(.int .i64 hF), (.slice none 0 0)]) zr28 pl28 rfl rfl) ?_
  refine WL_s rfl rfl ?_
  refine s_alloc zr28 fun _b3 _w_6 _m3 _cw_6 _e3 => ?_
  have _cw_6z := _cw_6.size
  have E := E.trans _cw_6
  have _z3 := _m3.lt
  replace _m3 : Blk _w_6 _b3 28 [(.int .i64 0), (.slice none 0 0)] := _m3
  refine WL_s rfl rfl ?_
  refine s_storeA (off := 0) 2 _m3 sz28 rfl (us := [(.int .i64 hF), (.slice none 0 0)]) rfl rfl rfl rfl fun _w_7 _m_8 _cw_7 => ?_
  have _cw_7z := _cw_7.size
  have E := E.step _cw_7 (fun i hi => .inl (by have _h1 := List.mem_singleton.1 hi; omega))
  replace _m_8 : Blk _w_7 _b3 28 [(.int .i64 hF), (.slice none 0 0)] := _m_8
  refine WL_nil ?_
  refine thn_nrm (_hK_4 _ _ ?_)
  clear _hK_4
  refine W_seq fun _K_9 _hK_9 => ?_
  refine W_seq fun _K_10 _hK_10 => ?_
  refine W_region ?_
  refine WL_step rfl rfl (r_assign rfl) ?_
  refine WL_nil ?_
  refine thn_nrm (_hK_10 _ _ ?_)
  clear _hK_10
  refine W_block ?_
  have _oi_11 : Ol Gv.cs 57 2 _w_7 (.slice none 0 0) (([] : List Gv)) := by
    have hx := (Ol.nil (cs := Gv.cs) (e := 57) (k := 2) _w_7)
    exact hx
  have _f_12 := ((_f_5.ch0 _cw_6).ch _cw_7 (fun hm => by have _h1 := List.mem_singleton.1 hm; omega))
  have _f_13 := ((_m2.ch0 _cw_6).ch _cw_7 (fun hm => by have _h1 := List.mem_singleton.1 hm; omega))
  refine W_loop (σ := Nat × List Gv × Value) (fun ⟨k, vs, kv⟩ => [(1, (.pointer (some ⟨_b1, 0, none⟩))), (2, (.pointer (some ⟨_b2, 0, none⟩))), (3, (.pointer (some ⟨_b3, 0, none⟩))), (4, (.int .i64 ((k : Nat) : Int)))]) (fun ⟨k, vs, kv⟩ wx => Ch [] w wx ∧ _w_7.heap.size ≤ wx.heap.size ∧ (k ≤ hG.length) ∧ (vs.length = k) ∧ Blk wx _b1 28 [(.int .i64 hF), (.slice _A_shG shG.length _C_shG)] ∧ Blk wx _b2 28 [(.int .i64 0), (.slice none 0 0)] ∧ Ol Gv.cs 57 2 wx kv vs ∧ Lo _w_7.heap.size kv ∧ OdG 3 168 wx _w_7.heap.size wx.heap.size vs (hG.take k) ∧ Blk wx _b3 28 [(.int .i64 hF), kv] ∧ (_b3 ∉ bl kv) ∧ (SepH kv vs)) (fun ⟨k, vs, kv⟩ => hG.length - k) (0, ([] : List Gv), (.slice none 0 0)) (Sub.cons rfl (Sub.cons rfl (Sub.cons rfl (Sub.cons rfl (Sub.nil _))))) ⟨E, (Nat.le_refl _), (by omega), rfl, _f_12, _f_13, _oi_11, (Lo.nil _), OdG.nil, _m_8, (fun hm => by cases hm), (fun u hu => by cases hu)⟩ ?_
  rintro ⟨k, vs, kv⟩ _wr_14 ⟨E, _zz0, _hk, hvl, _F0_0, _F0_3, o0_3_1, lo0_3_1, od, _m0_3, _nb0_3_1, _spl0_3⟩
  have _E0h := E
  have _E0hz := _E0h.size
  have _F0_0z := _F0_0.lt
  have _F0_3z := _F0_3.lt
  obtain ⟨Akv, Ckv, ekv⟩ := o0_3_1.val
  subst ekv
  have lkv := o0_3_1.len
  have hikv := o0_3_1.lt
  refine W_seq fun _K_15 _hK_15 => ?_
  refine W_seq fun _K_16 _hK_16 => ?_
  refine W_region ?_
  refine WL_step rfl rfl (r_move rfl) ?_
  refine WL_step rfl rfl (r_fieldAddr fa28_1 rfl) ?_
  refine WL_step rfl rfl (r_loadAt _F0_0.at_ agg26 rfl rfl) ?_
  refine WL_step rfl rfl (r_len (by rw [el26]; rfl) rfl) ?_
  refine WL_step rfl rfl (r_lss rfl rfl) ?_
  refine WL_nil ?_
  refine thn_nrm (_hK_16 _ _ ?_)
  clear _hK_16
  refine W_cond rfl (fun _h13 => ?_) (fun _h13 => ?_)
  · have _kb_17 := _h13
    have _h13 := bt_d _h13
    refine W_skip ?_
    refine thn_nrm (_hK_15 _ _ ?_)
    clear _hK_15
    refine W_seq fun _K_18 _hK_18 => ?_
    refine W_block ?_
    refine W_seq fun _K_19 _hK_19 => ?_
    refine W_region ?_
    refine WL_step rfl rfl (r_fieldAddr fa28_1 rfl) ?_
    refine WL_step rfl rfl (r_loadAt _F0_0.at_ agg26 rfl rfl) ?_
    refine WL_step rfl rfl (r_move rfl) ?_
    refine WL_s rfl rfl ?_
    have _f_20 := (_h_shG.ch0 _E0h)
    refine (s_index _f_20 Gv.len el26 sz57 rfl rfl rfl (by omega) fun _p19 _y19 _hy19 _a19 => ?_)
    have _f_21 := (_rd_hG.ch0 _E0h)
    obtain ⟨_ys19, _hys19, _fs19, fe19⟩ := _f_21.get _hy19
    obtain ⟨⟨_A19, _n19, _C19⟩, ⟨Ae19, ne19, Ce19⟩⟩ := _y19
    obtain rfl := _fs19.eqn
    obtain rfl := fe19.eqn
    have _l19 := _fs19.len
    have le19 := fe19.len
    replace _fs19 : Ls ics 1 _wr_14 LR_hG w.heap.size (.slice _A19 _ys19.V.length _C19) _ys19.V := _fs19
    replace fe19 : Ls GEdge.cs 4 _wr_14 LR_hG w.heap.size (.slice Ae19 _ys19.E.length Ce19) _ys19.E := fe19
    refine WL_step rfl rfl (r_loadAtA0 _a19 agg57 sz57 rfl) ?_
    refine WL_s rfl rfl ?_
    refine Step.call (r_call (xs := [.tmp 20]) fk114 rfl) (c_spec_l3Copy _fs19 fe19 (by have _h9 := gsize_le _hys19; omega)) fun _v21 _w_22 _q21 => ?_
    obtain ⟨u21_0x0, u21_0x1, rfl, _q_u21_0x0, _lo_u21_0x0, _q_u21_0x1, _lo_u21_0x1, _dj_u21_0x0_u21_0x1, _cw_22⟩ := _q21
    have _cw_22z := _cw_22.size
    have E := E.trans _cw_22
    obtain ⟨Au21_0x0, Cu21_0x0, eu21_0x0⟩ := _q_u21_0x0.val
    subst eu21_0x0
    have lu21_0x0 := _q_u21_0x0.len
    have _hiu21_0x0 := _q_u21_0x0.lt
    obtain ⟨Au21_0x1, Cu21_0x1, eu21_0x1⟩ := _q_u21_0x1.val
    subst eu21_0x1
    have lu21_0x1 := _q_u21_0x1.len
    have _hiu21_0x1 := _q_u21_0x1.lt
    refine WL_s rfl rfl ?_
    refine s_alloc zr57 fun _b5 _w_23 _m5 _cw_23 _e5 => ?_
    have _cw_23z := _cw_23.size
    have E := E.trans _cw_23
    have _z5 := _m5.lt
    replace _m5 : Blk _w_23 _b5 57 [(.slice none 0 0), (.slice none 0 0)] := _m5
    refine WL_s rfl rfl ?_
    refine s_storeA (off := 0) 2 _m5 sz57 rfl (us := [(.slice Au21_0x0 (_ys19.V).length Cu21_0x0), (.slice Au21_0x1 (_ys19.E).length Cu21_0x1)]) rfl rfl rfl rfl fun _w_24 _m_25 _cw_24 => ?_
    have _cw_24z := _cw_24.size
    have E := E.step _cw_24 (fun i hi => .inl (by have _h1 := List.mem_singleton.1 hi; omega))
    replace _m_25 : Blk _w_24 _b5 57 [(.slice Au21_0x0 (_ys19.V).length Cu21_0x0), (.slice Au21_0x1 (_ys19.E).length Cu21_0x1)] := _m_25
    refine WL_nil ?_
    refine thn_nrm (_hK_19 _ _ ?_)
    clear _hK_19
    refine W_region ?_
    refine WL_step rfl rfl (r_fieldAddr fa28_1 rfl) ?_
    have _f_26 := (((_m0_3.ch0 _cw_22).ch0 _cw_23).ch _cw_24 (fun hm => by have _h1 := List.mem_singleton.1 hm; omega))
    refine WL_step rfl rfl (r_loadAt _f_26.at_ agg26 rfl rfl) ?_
    refine WL_step rfl rfl (r_loadAtA0 _m_25.at_ agg57 sz57 rfl) ?_
    refine WL_s rfl rfl ?_
    refine s_buildSlice (cs := Gv.cs) (parts := [(0, .tmp 24)]) (⟨⟨none, 0, 0⟩, ⟨none, 0, 0⟩⟩ : Gv) [(⟨(⟨Au21_0x0, (_ys19.V).length, Cu21_0x0⟩ : Sv), (⟨Au21_0x1, (_ys19.E).length, Cu21_0x1⟩ : Sv)⟩ : Gv)] el26 sz57 zr57 Gv.len (by decide) rfl rfl rfl (by decide) (by decide) rfl fun _v25 _w_27 _q25 _lo25 _cw_27 => ?_
    have _cw_27z := _cw_27.size
    have E := E.trans _cw_27
    obtain ⟨_Av25, _Cv25, _ev25⟩ := _q25.val
    subst _ev25
    have _lv25 := _q25.len
    have _hiv25 := _q25.lt
    have _f_28 := (((_q_u21_0x0.ch0 _cw_23).ch _cw_24 (fun g hg hm => by have _h0 := List.mem_singleton.1 hm; have _h2 := _lo_u21_0x0 _ hg; have _h3 := _hiu21_0x0 _ hg; omega)).ch0 _cw_27)
    have _f_29 := (((_q_u21_0x1.ch0 _cw_23).ch _cw_24 (fun g hg hm => by have _h0 := List.mem_singleton.1 hm; have _h2 := _lo_u21_0x1 _ hg; have _h3 := _hiu21_0x1 _ hg; omega)).ch0 _cw_27)
    have od25 : OdG 3 168 _w_27 _wr_14.heap.size _w_27.heap.size ([(⟨(⟨Au21_0x0, (_ys19.V).length, Cu21_0x0⟩ : Sv), (⟨Au21_0x1, (_ys19.E).length, Cu21_0x1⟩ : Sv)⟩ : Gv)]) ([(⟨_ys19.V, _ys19.E⟩ : GD)]) := OdG.snoc (hi := _wr_14.heap.size) (vs := []) (xs := []) OdG.nil _f_28 _f_29 (Lo.down _lo_u21_0x0 (by omega)) (Lo.down _lo_u21_0x1 (by omega)) (fun g hg => by have _h1 := _hiu21_0x0 g hg; omega) (fun g hg => by have _h1 := _hiu21_0x1 g hg; omega) (fun g hm hg => by exact _dj_u21_0x0_u21_0x1 _ hm hg) (by omega) (by omega)
    have spn25 : SepH (.slice _Av25 ([(⟨(⟨Au21_0x0, (_ys19.V).length, Cu21_0x0⟩ : Sv), (⟨Au21_0x1, (_ys19.E).length, Cu21_0x1⟩ : Sv)⟩ : Gv)]).length _Cv25) [(⟨(⟨Au21_0x0, (_ys19.V).length, Cu21_0x0⟩ : Sv), (⟨Au21_0x1, (_ys19.E).length, Cu21_0x1⟩ : Sv)⟩ : Gv)] := fun u hu => by rw [List.mem_singleton.1 hu]; exact ⟨fun g hg hm => by have _h1 := _hiu21_0x0 _ hg; have _h2 := _lo25 _ hm; omega, fun g hg hm => by have _h1 := _hiu21_0x1 _ hg; have _h2 := _lo25 _ hm; omega⟩
    refine WL_s rfl rfl ?_
    have _f_31 := ((((o0_3_1.ch0 _cw_22).ch0 _cw_23).ch _cw_24 (fun g hg hm => by have _h0 := List.mem_singleton.1 hm; have _h2 := lo0_3_1 _ hg; have _h3 := hikv _ hg; omega)).ch0 _cw_27)
    refine s_append (cs := Gv.cs) el26 sz57 by57 zr57 rfl (by decide) Gv.one _f_31 _q25.ls rfl rfl (by simp only [List.length_singleton]; omega) (by simp only [List.length_singleton]; omega) lo0_3_1 (by omega) fun _v26 _w_30 _q26 _lo26 _ap26 _cw_30 => ?_
    have _cw_30z := _cw_30.size
    have E := E.step _cw_30 (fun i hi => .inl (by have _h1 := lo0_3_1 _ hi; omega))
    obtain ⟨_Av26, _Cv26, _ev26⟩ := _q26.val
    subst _ev26
    have _lv26 := _q26.len
    have _hiv26 := _q26.lt
    refine WL_step rfl rfl (r_fieldAddr fa28_1 rfl) ?_
    refine WL_s rfl rfl ?_
    have _f_32 := ((_f_26.ch0 _cw_27).ch _cw_30 (fun hm => by exact _nb0_3_1 (by first | exact hm | exact _h0 ▸ hm)))
    refine s_store1 (off := 1) _f_32 sz26 rfl rfl rfl rfl fun _w_33 _m_34 _cw_33 => ?_
    have _cw_33z := _cw_33.size
    have E := E.step _cw_33 (fun i hi => .inl (by have _h1 := List.mem_singleton.1 hi; omega))
    replace _m_34 : Blk _w_33 _b3 28 [(.int .i64 hF), (.slice _Av26 ((vs ++ [(⟨(⟨Au21_0x0, (_ys19.V).length, Cu21_0x0⟩ : Sv), (⟨Au21_0x1, (_ys19.E).length, Cu21_0x1⟩ : Sv)⟩ : Gv)])).length _Cv26)] := _m_34
    refine WL_nil ?_
    refine inB_nrm ?_
    refine thn_nrm (_hK_18 _ _ ?_)
    clear _hK_18
    refine W_region ?_
    refine WL_step rfl rfl (r_move rfl) ?_
    refine WL_step rfl rfl (r_add (by omega) rfl rfl) ?_
    refine WL_step rfl rfl (r_assign rfl) ?_
    refine WL_nil ?_
    have _f_36 := (_q26.ch _cw_33 (fun g hg hm => by have _h0 := List.mem_singleton.1 hm; rcases _ap26 with ea | ea; (rw [ea] at hg; exact _nb0_3_1 (by first | exact hg | exact _h0 ▸ hg)); (rw [ea] at hg; have _z1 := List.mem_singleton.1 hg; omega)))
    have _on_35 : Ol Gv.cs 57 2 _w_33 (.slice _Av26 ((vs ++ [(⟨(⟨Au21_0x0, (_ys19.V).length, Cu21_0x0⟩ : Sv), (⟨Au21_0x1, (_ys19.E).length, Cu21_0x1⟩ : Sv)⟩ : Gv)])).length _Cv26) ((vs ++ [(⟨(⟨Au21_0x0, (_ys19.V).length, Cu21_0x0⟩ : Sv), (⟨Au21_0x1, (_ys19.E).length, Cu21_0x1⟩ : Sv)⟩ : Gv)])) := by
      have hx := _f_36
      exact hx
    have _f_37 := ((((((od.ch0 _cw_22).ch0 _cw_23).ch _cw_24 (fun i hi => by have _h1 := List.mem_singleton.1 hi; omega)).ch0 _cw_27).chH _cw_30 _spl0_3).ch _cw_33 (fun i hi => by have _h1 := List.mem_singleton.1 hi; omega))
    have _f_38 := ((_f_28.ch _cw_30 (fun g hg hm => by have _h1 := lo0_3_1 _ hm; have _h2 := hikv _ hm; have _h3 := _lo_u21_0x0 _ hg; have _h4 := _hiu21_0x0 _ hg; omega)).ch _cw_33 (fun g hg hm => by have _h0 := List.mem_singleton.1 hm; have _h2 := _lo_u21_0x0 _ hg; have _h3 := _hiu21_0x0 _ hg; omega))
    have _f_39 := ((_f_29.ch _cw_30 (fun g hg hm => by have _h1 := lo0_3_1 _ hm; have _h2 := hikv _ hm; have _h3 := _lo_u21_0x1 _ hg; have _h4 := _hiu21_0x1 _ hg; omega)).ch _cw_33 (fun g hg hm => by have _h0 := List.mem_singleton.1 hm; have _h2 := _lo_u21_0x1 _ hg; have _h3 := _hiu21_0x1 _ hg; omega))
    have _f_40 := ((((((_F0_0.ch0 _cw_22).ch0 _cw_23).ch _cw_24 (fun hm => by have _h1 := List.mem_singleton.1 hm; omega)).ch0 _cw_27).ch _cw_30 (fun hm => by have _h1 := lo0_3_1 _ hm; have _h2 := hikv _ hm; omega)).ch _cw_33 (fun hm => by have _h1 := List.mem_singleton.1 hm; omega))
    have _f_41 := ((((((_F0_3.ch0 _cw_22).ch0 _cw_23).ch _cw_24 (fun hm => by have _h1 := List.mem_singleton.1 hm; omega)).ch0 _cw_27).ch _cw_30 (fun hm => by have _h1 := lo0_3_1 _ hm; have _h2 := hikv _ hm; omega)).ch _cw_33 (fun hm => by have _h1 := List.mem_singleton.1 hm; omega))
    exact thn_nrm (Exists.intro ((k + 1), (vs ++ [(⟨(⟨Au21_0x0, (_ys19.V).length, Cu21_0x0⟩ : Sv), (⟨Au21_0x1, (_ys19.E).length, Cu21_0x1⟩ : Sv)⟩ : Gv)]), (.slice _Av26 ((vs ++ [(⟨(⟨Au21_0x0, (_ys19.V).length, Cu21_0x0⟩ : Sv), (⟨Au21_0x1, (_ys19.E).length, Cu21_0x1⟩ : Sv)⟩ : Gv)])).length _Cv26)) ⟨⟨E, (by omega), (by omega), (by simp [hvl]), _f_40, _f_41, _on_35, (Lo.down _lo26 (by omega)), (by rw [take_snoc _hys19]; exact OdG.snoc _f_37 (x := _ys19) _f_38 _f_39 (Lo.down _lo_u21_0x0 (by omega)) (Lo.down _lo_u21_0x1 (by omega)) (fun g hg => by have _h1 := _hiu21_0x0 g hg; omega) (fun g hg => by have _h1 := _hiu21_0x1 g hg; omega) (fun g hm hg => by exact _dj_u21_0x0_u21_0x1 _ hm hg) (by omega) (by omega)), _m_34, (fun hm => by rcases _ap26 with ea | ea; (rw [ea] at hm; exact _nb0_3_1 (by first | exact hm | exact _h0 ▸ hm)); (rw [ea] at hm; have _z1 := List.mem_singleton.1 hm; omega)), (fun u hu => ⟨fun g hg hm => by rcases List.mem_append.1 hu with hu | hu; (rcases _ap26 with ea | ea; (rw [ea] at hm; exact (_spl0_3 _ hu).1 _ hg hm); (rw [ea] at hm; have _z1 := List.mem_singleton.1 hm; have _h9 := (_f_37.rng hu).1 _ hg; omega)); (rw [List.mem_singleton.1 hu] at hg; rcases _ap26 with ea | ea; (rw [ea] at hm; have _h1 := lo0_3_1 _ hm; have _h2 := hikv _ hm; have _h3 := _lo_u21_0x0 _ hg; have _h4 := _hiu21_0x0 _ hg; omega); (rw [ea] at hm; have _z1 := List.mem_singleton.1 hm; have _h3 := _lo_u21_0x0 _ hg; have _h4 := _hiu21_0x0 _ hg; omega)), fun g hg hm => by rcases List.mem_append.1 hu with hu | hu; (rcases _ap26 with ea | ea; (rw [ea] at hm; exact (_spl0_3 _ hu).2 _ hg hm); (rw [ea] at hm; have _z1 := List.mem_singleton.1 hm; have _h9 := (_f_37.rng hu).2 _ hg; omega)); (rw [List.mem_singleton.1 hu] at hg; rcases _ap26 with ea | ea; (rw [ea] at hm; have _h1 := lo0_3_1 _ hm; have _h2 := hikv _ hm; have _h3 := _lo_u21_0x1 _ hg; have _h4 := _hiu21_0x1 _ hg; omega); (rw [ea] at hm; have _z1 := List.mem_singleton.1 hm; have _h3 := _lo_u21_0x1 _ hg; have _h4 := _hiu21_0x1 _ hg; omega))⟩)⟩, Sub.cons rfl (Sub.cons rfl (Sub.cons rfl (Sub.cons rfl (Sub.nil _)))), (by first | omega | (dsimp only; omega))⟩)
  · have _kb_17 := _h13
    have _h13 := bf_d _h13
    refine W_exit (thn_exit (thn_exit (inB_hit ?_)))
    refine thn_nrm (_hK_9 _ _ ?_)
    clear _hK_9
    refine W_seq fun _K_42 _hK_42 => ?_
    refine W_region ?_
    refine WL_step rfl rfl (r_loadAtA0 _m0_3.at_ agg28 sz28 rfl) ?_
    refine WL_s rfl rfl ?_
    refine s_storeA (off := 0) 2 _F0_3 sz28 rfl (us := [(.int .i64 hF), (.slice Akv (vs).length Ckv)]) rfl rfl rfl rfl fun _w_43 _m_44 _cw_43 => ?_
    have _cw_43z := _cw_43.size
    have E := E.step _cw_43 (fun i hi => .inl (by have _h1 := List.mem_singleton.1 hi; omega))
    replace _m_44 : Blk _w_43 _b2 28 [(.int .i64 hF), (.slice Akv (vs).length Ckv)] := _m_44
    refine WL_nil ?_
    refine thn_nrm (_hK_42 _ _ ?_)
    clear _hK_42
    refine W_ret ?_
    clear _hK_15
    have _f_47 := (o0_3_1.ch _cw_43 (fun g hg hm => by have _h0 := List.mem_singleton.1 hm; have _h2 := lo0_3_1 _ hg; have _h3 := hikv _ hg; omega))
    have _f_48 := (od.ch _cw_43 (fun i hi => by have _h1 := List.mem_singleton.1 hi; omega))
    have _o_45 : Ol Gv.cs 57 2 _w_43 (.slice Akv (vs).length Ckv) vs := by
      have hx := _f_47
      exact hx
    have _o_46 : OdG 3 168 _w_43 w.heap.size _w_43.heap.size vs (hG) := by
      have hx := _f_48.up (lo' := w.heap.size) (hi' := _w_43.heap.size) (by omega) (by omega)
      rwa [List.take_of_length_le (by omega)] at hx
    exact ret_intro [_] (resOf_loadA _m_44 rfl agg28 sz28 trivial) ⟨(.slice Akv (vs).length Ckv), vs, (congrArg (fun zq => (Value.agg #[.int .i64 zq, (.slice Akv (vs).length Ckv)])) (by first | rfl | simp_all)), _o_45, (Lo.down lo0_3_1 (by omega)), _o_46, _spl0_3, E⟩

/-- spec.CompactHistory -/
theorem c_spec_CompactHistory {w : World} (hF : Int) {LL_shG _B_shG : Nat} {_v_shG : Value} {shG : List Gv} (_h_shG : Ls Gv.cs 2 w LL_shG _B_shG _v_shG shG) {LR_hG BB_hG : Nat} {hG : List GD} (_rd_hG : RdG w LR_hG BB_hG shG hG) (n : Int) (hb : hG.length + gsize hG ≤ 4194304) :
    Ctr Try.prog 10 #[(.agg #[(.int .i64 hF), _v_shG]), (.int .i64 n)] w (fun v w' => ∃ (u0x1 : Value) (vs0x1 : List Gv), v = .tuple #[.agg #[.int .i64 (chF hF hG n), u0x1], .bool (tt (gaP hF hG n))] ∧ Ol Gv.cs 57 2 w' u0x1 vs0x1 ∧ Lo w.heap.size u0x1 ∧ OdG 3 168 w' w.heap.size w'.heap.size vs0x1 (chG hF hG n) ∧ SepH u0x1 vs0x1 ∧ Ch [] w w') := by
  obtain ⟨_A_shG, _C_shG, _e1_shG⟩ := _h_shG.val
  subst _e1_shG
  have _l_shG := _h_shG.len
  have _h_shG := _h_shG.here (by decide)
  have _rd_hG := _rd_hG.here
  have _rl_hG := _rd_hG.1
  have E := Ch.refl [] w
  refine Ctr_of_W (N := 33) (vs0 := [(.agg #[(.int .i64 hF), (.slice _A_shG shG.length _C_shG)]), (.int .i64 n)]) Try.func10 rfl rfl rfl ?_
  refine W_seq fun _K_1 _hK_1 => ?_
  refine W_region ?_
  refine WL_s rfl rfl ?_
  refine s_box rfl fun _b2 _w_2 _m2 _cw_2 _e2 => ?_
  have _cw_2z := _cw_2.size
  have E := E.trans _cw_2
  have _z2 := _m2.lt
  replace _m2 : Blk _w_2 _b2 28 [(.int .i64 hF), (.slice _A_shG shG.length _C_shG)] := _m2
  refine WL_s rfl rfl ?_
  refine s_alloc zr28 fun _b4 _w_3 _m4 _cw_3 _e4 => ?_
  have _cw_3z := _cw_3.size
  have E := E.trans _cw_3
  have _z4 := _m4.lt
  replace _m4 : Blk _w_3 _b4 28 [(.int .i64 0), (.slice none 0 0)] := _m4
  refine WL_step rfl rfl (r_assign rfl) ?_
  refine WL_nil ?_
  refine thn_nrm (_hK_1 _ _ ?_)
  clear _hK_1
  refine W_seq fun _K_4 _hK_4 => ?_
  refine W_region ?_
  have _f_5 := (_m2.ch0 _cw_3)
  refine WL_step rfl rfl (r_loadAtA0 _f_5.at_ agg28 sz28 rfl) ?_
  refine WL_s rfl rfl ?_
  have _f_6 := ((_h_shG.ch0 _cw_2).ch0 _cw_3)
  have _f_7 := ((_rd_hG.ch0 _cw_2).ch0 _cw_3)
  refine Step.call (r_call (xs := [.tmp 7]) fk54 rfl) (c_spec_l7Copy _ _f_6 _f_7 (by omega)) fun _v8 _w_8 _q8 => ?_
  obtain ⟨u8_0x1, _vs8_0x1, rfl, _q_u8_0x1, _lo_u8_0x1, rg_vs8_0x1, _sep_vs8_0x1, _cw_8⟩ := _q8
  have _cw_8z := _cw_8.size
  have E := E.trans _cw_8
  obtain ⟨Au8_0x1, Cu8_0x1, eu8_0x1⟩ := _q_u8_0x1.val
  subst eu8_0x1
  have lu8_0x1 := _q_u8_0x1.len
  have _hiu8_0x1 := _q_u8_0x1.lt
  have vl8 := rg_vs8_0x1.1
  refine WL_s rfl rfl ?_
  refine s_alloc zr28 fun _b6 _w_9 _m6 _cw_9 _e6 => ?_
  have _cw_9z := _cw_9.size
  have E := E.trans _cw_9
  have _z6 := _m6.lt
  replace _m6 : Blk _w_9 _b6 28 [(.int .i64 0), (.slice none 0 0)] := _m6
  refine WL_s rfl rfl ?_
  refine s_storeA (off := 0) 2 _m6 sz28 rfl (us := [(.int .i64 hF), (.slice Au8_0x1 (_vs8_0x1).length Cu8_0x1)]) rfl rfl rfl rfl fun _w_10 _m_11 _cw_10 => ?_
  have _cw_10z := _cw_10.size
  have E := E.step _cw_10 (fun i hi => .inl (by have _h1 := List.mem_singleton.1 hi; omega))
  replace _m_11 : Blk _w_10 _b6 28 [(.int .i64 hF), (.slice Au8_0x1 (_vs8_0x1).length Cu8_0x1)] := _m_11
  refine WL_nil ?_
  refine thn_nrm (_hK_4 _ _ ?_)
  clear _hK_4
  refine W_seq fun _K_12 _hK_12 => ?_
  refine W_seq fun _K_13 _hK_13 => ?_
  refine W_drawC [] 12 mixed rfl fun _w_14 _cw_14 => ?_
  have _cw_14z := _cw_14.size
  have E := E.trans _cw_14
  have _f_15 := ((((_f_5.ch0 _cw_8).ch0 _cw_9).ch _cw_10 (fun hm => by have _h1 := List.mem_singleton.1 hm; omega)).ch0 _cw_14)
  refine DR_s 0 rfl (by kernel_rfl) rfl rfl (t_loadAtA0 _f_15.at_ (fun i hi => absurd hi List.not_mem_nil) agg28 sz28 rfl ?_)
  refine DR_one 1 (by kernel_rfl) ?_
  refine DO_s rfl rfl rfl ?_
  have _f_16 := ((((_f_6.ch0 _cw_8).ch0 _cw_9).ch _cw_10 (fun i hi => by have _h1 := List.mem_singleton.1 hi; omega)).ch0 _cw_14)
  have _f_17 := ((((_f_7.ch0 _cw_8).ch0 _cw_9).ch _cw_10 (fun i hi => by have _h1 := List.mem_singleton.1 hi; omega)).ch0 _cw_14)
  refine Step.call (r_call (xs := [.tmp 9]) fk55 rfl) (c_spec_IsValidHistory _ _f_16 _f_17 ) fun _v10 _w_18 _q10 => ?_
  obtain ⟨rfl, _cw_18⟩ := _q10
  have _cw_18z := _cw_18.size
  have E := E.trans _cw_18
  have _S_19 : Ch [] _w_14 _w_18 := ((Ch.refl _ _).trans _cw_18)
  refine ⟨_S_19, ?_⟩
  refine DR_s 2 rfl (by kernel_rfl) rfl rfl (t_v (fun _ => (r_not rfl)) ?_)
  refine DR_s 3 rfl (by kernel_rfl) rfl rfl (t_v (fun _ => (r_move rfl)) ?_)
  refine DR_split (d := 12) rfl (fun _h12 => ?_) (fun _h12 => ?_)
  · have _kb_20 := _h12
    have _h12 := bf_t (bt_n _h12)
    first | (have _v9 := lv_val _h12; have _v8 := _h12.2) | skip
    refine DR_skip 4 rfl (by kernel_rfl) rfl rfl ?_
    refine DR_skip 5 rfl (by kernel_rfl) rfl rfl ?_
    refine DR_skip 6 rfl (by kernel_rfl) rfl rfl ?_
    refine DR_skip 7 rfl (by kernel_rfl) rfl rfl ?_
    refine DR_skip 8 rfl (by kernel_rfl) rfl rfl ?_
    refine DR_skip 9 rfl (by kernel_rfl) rfl rfl ?_
    refine DR_skip 10 rfl (by kernel_rfl) rfl rfl ?_
    refine DR_s 11 rfl (by kernel_rfl) rfl rfl (t_v (fun _ => (r_pickT rfl rfl)) ?_)
    refine DR_done (by kernel_rfl) ?_
    refine thn_nrm (_hK_13 _ _ ?_)
    clear _hK_13
    refine W_condT rfl ?_
    refine W_seq fun _K_21 _hK_21 => ?_
    refine W_region ?_
    have _f_22 := ((_m_11.ch0 _cw_14).ch0 _cw_18)
    refine WL_step rfl rfl (r_loadAtA0 _f_22.at_ agg28 sz28 rfl) ?_
    refine WL_s rfl rfl ?_
    have _f_23 := (((((_m4.ch0 _cw_8).ch0 _cw_9).ch _cw_10 (fun hm => by have _h1 := List.mem_singleton.1 hm; omega)).ch0 _cw_14).ch0 _cw_18)
    refine s_storeA (off := 0) 2 _f_23 sz28 rfl (us := [(.int .i64 hF), (.slice Au8_0x1 (_vs8_0x1).length Cu8_0x1)]) rfl rfl rfl rfl fun _w_24 _m_25 _cw_24 => ?_
    have _cw_24z := _cw_24.size
    have E := E.step _cw_24 (fun i hi => .inl (by have _h1 := List.mem_singleton.1 hi; omega))
    replace _m_25 : Blk _w_24 _b4 28 [(.int .i64 hF), (.slice Au8_0x1 (_vs8_0x1).length Cu8_0x1)] := _m_25
    refine WL_step rfl rfl (r_assign rfl) ?_
    refine WL_nil ?_
    refine thn_nrm (_hK_21 _ _ ?_)
    clear _hK_21
    refine W_ret (thn_ret ?_)
    clear _hK_12
    have _f_28 := (((((_q_u8_0x1.ch0 _cw_9).ch _cw_10 (fun g hg hm => by have _h0 := List.mem_singleton.1 hm; have _h2 := _lo_u8_0x1 _ hg; have _h3 := _hiu8_0x1 _ hg; omega)).ch0 _cw_14).ch0 _cw_18).ch _cw_24 (fun g hg hm => by have _h0 := List.mem_singleton.1 hm; have _h2 := _lo_u8_0x1 _ hg; have _h3 := _hiu8_0x1 _ hg; omega))
    have _f_29 := (((((rg_vs8_0x1.ch0 _cw_9).ch _cw_10 (fun i hi => by have _h1 := List.mem_singleton.1 hi; omega)).ch0 _cw_14).ch0 _cw_18).ch _cw_24 (fun i hi => by have _h1 := List.mem_singleton.1 hi; omega))
    have _o_26 : Ol Gv.cs 57 2 _w_24 (.slice Au8_0x1 (_vs8_0x1).length Cu8_0x1) _vs8_0x1 := by
      have hx := _f_28
      exact hx
    have _o_27 : OdG 3 168 _w_24 w.heap.size _w_24.heap.size _vs8_0x1 (chG hF hG n) := by
      have hx := _f_29.up (lo' := w.heap.size) (hi' := _w_24.heap.size) (by omega) (by omega)
      first | (rw [← chG_n (fun q => _h12 q.1)]; exact hx) | (rw [← chG_n (fun q => _h20 q.2)]; exact hx) | (rw [← chG_y ⟨_h12, _h20⟩]; exact hx)
    exact ret_intro [_, _] (resOf_loadA _m_25 rfl agg28 sz28 ⟨rfl, trivial⟩) ⟨(.slice Au8_0x1 (_vs8_0x1).length Cu8_0x1), _vs8_0x1, ((congrArg (fun zq => (Value.tuple #[.agg #[.int .i64 zq, (.slice Au8_0x1 (_vs8_0x1).length Cu8_0x1)], .bool false])) (by first | exact chF_n (fun q => _h12 q.1) | exact chF_n (fun q => _h20 q.2) | exact chF_y ⟨_h12, _h20⟩)).trans (congrArg (fun zq => (Value.tuple #[.agg #[.int .i64 (chF hF hG n), (.slice Au8_0x1 (_vs8_0x1).length Cu8_0x1)], .bool zq])) (by first | exact tt_false (fun q => _h12 q.1) | exact tt_false (fun q => _h20 q.2) | exact tt_true ⟨_h12, _h20⟩))), _o_26, (Lo.down _lo_u8_0x1 (by omega)), _o_27, _sep_vs8_0x1, E⟩
  · have _kb_20 := _h12
    have _h12 := bt_t (bf_n _h12)
    first | (have _v9 := lv_val _h12; have _v8 := _h12.2) | skip
    refine DR_s 4 rfl (by kernel_rfl) rfl rfl (t_v (fun _ => (r_move rfl)) ?_)
    refine DR_s 5 rfl (by kernel_rfl) rfl rfl (t_v (fun _ => (r_fieldAddr fa28_0 rfl)) ?_)
    refine DR_s 6 rfl (by kernel_rfl) rfl rfl (t_loadAt _f_15.at_ (fun i hi => absurd hi List.not_mem_nil) agg3 rfl rfl ?_)
    refine DR_s 7 rfl (by kernel_rfl) rfl rfl (t_loadAtA0 _f_15.at_ (fun i hi => absurd hi List.not_mem_nil) agg28 sz28 rfl ?_)
    refine DR_one 8 (by kernel_rfl) ?_
    refine DO_s rfl rfl rfl ?_
    have _f_30 := (_f_16.ch0 _cw_18)
    have _f_31 := (_f_17.ch0 _cw_18)
    refine Step.call (r_call (xs := [.tmp 16]) fk57 rfl) (c_spec_LatestVersion _ _f_30 _f_31 ) fun _v17 _w_32 _q17 => ?_
    obtain ⟨rfl, _cw_32⟩ := _q17
    have _cw_32z := _cw_32.size
    have E := E.trans _cw_32
    have _S_33 : Ch [] _w_14 _w_32 := (_S_19.trans _cw_32)
    refine ⟨_S_33, ?_⟩
    refine DR_one 9 (by kernel_rfl) ?_
    refine DO_s rfl rfl rfl ?_
    refine Step.call (r_call (xs := [.tmp 13, .tmp 15, .tmp 17]) fk56 rfl) (c_spec_l1In _ _ _ ) fun _v18 _w_34 _q18 => ?_
    obtain ⟨rfl, _cw_34⟩ := _q18
    have _cw_34z := _cw_34.size
    have E := E.trans _cw_34
    have _S_35 : Ch [] _w_14 _w_34 := (_S_33.trans _cw_34)
    refine ⟨_S_35, ?_⟩
    refine DR_s 10 rfl (by kernel_rfl) rfl rfl (t_v (fun _ => (r_not rfl)) ?_)
    refine DR_s 11 rfl (by kernel_rfl) rfl rfl (t_v (fun _ => (r_pickF rfl rfl)) ?_)
    refine DR_done (by kernel_rfl) ?_
    refine thn_nrm (_hK_13 _ _ ?_)
    clear _hK_13
    refine W_cond rfl (fun _h20 => ?_) (fun _h20 => ?_)
    · have _kb_36 := _h20
      have _h20 := bf_d (bt_n _h20)
      refine W_seq fun _K_37 _hK_37 => ?_
      refine W_region ?_
      have _f_38 := ((((_m_11.ch0 _cw_14).ch0 _cw_18).ch0 _cw_32).ch0 _cw_34)
      refine WL_step rfl rfl (r_loadAtA0 _f_38.at_ agg28 sz28 rfl) ?_
      refine WL_s rfl rfl ?_
      have _f_39 := (((((((_m4.ch0 _cw_8).ch0 _cw_9).ch _cw_10 (fun hm => by have _h1 := List.mem_singleton.1 hm; omega)).ch0 _cw_14).ch0 _cw_18).ch0 _cw_32).ch0 _cw_34)
      refine s_storeA (off := 0) 2 _f_39 sz28 rfl (us := [(.int .i64 hF), (.slice Au8_0x1 (_vs8_0x1).length Cu8_0x1)]) rfl rfl rfl rfl fun _w_40 _m_41 _cw_40 => ?_
      have _cw_40z := _cw_40.size
      have E := E.step _cw_40 (fun i hi => .inl (by have _h1 := List.mem_singleton.1 hi; omega))
      replace _m_41 : Blk _w_40 _b4 28 [(.int .i64 hF), (.slice Au8_0x1 (_vs8_0x1).length Cu8_0x1)] := _m_41
      refine WL_step rfl rfl (r_assign rfl) ?_
      refine WL_nil ?_
      refine thn_nrm (_hK_37 _ _ ?_)
      clear _hK_37
      refine W_ret (thn_ret ?_)
      clear _hK_12
      have _f_44 := (((((((_q_u8_0x1.ch0 _cw_9).ch _cw_10 (fun g hg hm => by have _h0 := List.mem_singleton.1 hm; have _h2 := _lo_u8_0x1 _ hg; have _h3 := _hiu8_0x1 _ hg; omega)).ch0 _cw_14).ch0 _cw_18).ch0 _cw_32).ch0 _cw_34).ch _cw_40 (fun g hg hm => by have _h0 := List.mem_singleton.1 hm; have _h2 := _lo_u8_0x1 _ hg; have _h3 := _hiu8_0x1 _ hg; omega))
      have _f_45 := (((((((rg_vs8_0x1.ch0 _cw_9).ch _cw_10 (fun i hi => by have _h1 := List.mem_singleton.1 hi; omega)).ch0 _cw_14).ch0 _cw_18).ch0 _cw_32).ch0 _cw_34).ch _cw_40 (fun i hi => by have _h1 := List.mem_singleton.1 hi; omega))
      have _o_42 : Ol Gv.cs 57 2 _w_40 (.slice Au8_0x1 (_vs8_0x1).length Cu8_0x1) _vs8_0x1 := by
        have hx := _f_44
        exact hx
      have _o_43 : OdG 3 168 _w_40 w.heap.size _w_40.heap.size _vs8_0x1 (chG hF hG n) := by
        have hx := _f_45.up (lo' := w.heap.size) (hi' := _w_40.heap.size) (by omega) (by omega)
        first | (rw [← chG_n (fun q => _h12 q.1)]; exact hx) | (rw [← chG_n (fun q => _h20 q.2)]; exact hx) | (rw [← chG_y ⟨_h12, _h20⟩]; exact hx)
      exact ret_intro [_, _] (resOf_loadA _m_41 rfl agg28 sz28 ⟨rfl, trivial⟩) ⟨(.slice Au8_0x1 (_vs8_0x1).length Cu8_0x1), _vs8_0x1, ((congrArg (fun zq => (Value.tuple #[.agg #[.int .i64 zq, (.slice Au8_0x1 (_vs8_0x1).length Cu8_0x1)], .bool false])) (by first | exact chF_n (fun q => _h12 q.1) | exact chF_n (fun q => _h20 q.2) | exact chF_y ⟨_h12, _h20⟩)).trans (congrArg (fun zq => (Value.tuple #[.agg #[.int .i64 (chF hF hG n), (.slice Au8_0x1 (_vs8_0x1).length Cu8_0x1)], .bool zq])) (by first | exact tt_false (fun q => _h12 q.1) | exact tt_false (fun q => _h20 q.2) | exact tt_true ⟨_h12, _h20⟩))), _o_42, (Lo.down _lo_u8_0x1 (by omega)), _o_43, _sep_vs8_0x1, E⟩
    · have _kb_36 := _h20
      have _h20 := bt_d (bf_n _h20)
      refine W_skip ?_
      refine thn_nrm (_hK_12 _ _ ?_)
      clear _hK_12
      refine W_seq fun _K_46 _hK_46 => ?_
      refine W_region ?_
      refine WL_step rfl rfl (r_fieldAddr fa28_1 rfl) ?_
      have _f_47 := ((((_m_11.ch0 _cw_14).ch0 _cw_18).ch0 _cw_32).ch0 _cw_34)
      refine WL_step rfl rfl (r_loadAt _f_47.at_ agg26 rfl rfl) ?_
      refine WL_step rfl rfl (r_move rfl) ?_
      refine WL_step rfl rfl (r_fieldAddr fa28_0 rfl) ?_
      have _f_48 := (((_f_15.ch0 _cw_18).ch0 _cw_32).ch0 _cw_34)
      refine WL_step rfl rfl (r_loadAt _f_48.at_ agg3 rfl rfl) ?_
      refine WL_step rfl rfl (r_sub (by omega) rfl rfl) ?_
      refine WL_s rfl rfl ?_
      have _f_49 := ((((((_q_u8_0x1.ch0 _cw_9).ch _cw_10 (fun g hg hm => by have _h0 := List.mem_singleton.1 hm; have _h2 := _lo_u8_0x1 _ hg; have _h3 := _hiu8_0x1 _ hg; omega)).ch0 _cw_14).ch0 _cw_18).ch0 _cw_32).ch0 _cw_34)
      have _f_50 := ((((((rg_vs8_0x1.ch0 _cw_9).ch _cw_10 (fun i hi => by have _h1 := List.mem_singleton.1 hi; omega)).ch0 _cw_14).ch0 _cw_18).ch0 _cw_32).ch0 _cw_34)
      refine (s_cutO (ys := (_vs8_0x1.drop ((n - hF).toNat))) ((n - hF).toNat) _vs8_0x1.length _f_49 Gv.len el26 sz57 rfl ⟨_, _, rfl, by omega⟩ rfl (by omega) (by omega) (cut_all _ _) fun _v28 _q28 _bb28 _ln28 => ?_)
      obtain ⟨_A28, _C28, _e28⟩ := _q28.val
      subst _e28
      have _l28 := _q28.len
      have hi28 := _q28.lt
      have og28 := (_f_50).dropN ((n - hF).toNat)
      have spc28 := (_sep_vs8_0x1.dropN ((n - hF).toNat)).of _bb28
      refine WL_step rfl rfl (r_fieldAddr fa28_1 rfl) ?_
      refine WL_s rfl rfl ?_
      refine s_store1 (off := 1) _f_47 sz26 rfl rfl rfl rfl fun _w_51 _m_52 _cw_51 => ?_
      have _cw_51z := _cw_51.size
      have E := E.step _cw_51 (fun i hi => .inl (by have _h1 := List.mem_singleton.1 hi; omega))
      replace _m_52 : Blk _w_51 _b6 28 [(.int .i64 hF), (.slice _A28 ((_vs8_0x1.drop ((n - hF).toNat))).length _C28)] := _m_52
      refine WL_nil ?_
      refine thn_nrm (_hK_46 _ _ ?_)
      clear _hK_46
      refine W_seq fun _K_53 _hK_53 => ?_
      refine W_region ?_
      refine WL_step rfl rfl (r_move rfl) ?_
      refine WL_step rfl rfl (r_fieldAddr fa28_0 rfl) ?_
      refine WL_s rfl rfl ?_
      refine s_store1 (off := 0) _m_52 sz3 rfl rfl rfl rfl fun _w_54 _m_55 _cw_54 => ?_
      have _cw_54z := _cw_54.size
      have E := E.step _cw_54 (fun i hi => .inl (by have _h1 := List.mem_singleton.1 hi; omega))
      replace _m_55 : Blk _w_54 _b6 28 [(.int .i64 n), (.slice _A28 ((_vs8_0x1.drop ((n - hF).toNat))).length _C28)] := _m_55
      refine WL_nil ?_
      refine thn_nrm (_hK_53 _ _ ?_)
      clear _hK_53
      refine W_seq fun _K_56 _hK_56 => ?_
      refine W_region ?_
      refine WL_step rfl rfl (r_loadAtA0 _m_55.at_ agg28 sz28 rfl) ?_
      refine WL_s rfl rfl ?_
      have _f_57 := (((((((((_m4.ch0 _cw_8).ch0 _cw_9).ch _cw_10 (fun hm => by have _h1 := List.mem_singleton.1 hm; omega)).ch0 _cw_14).ch0 _cw_18).ch0 _cw_32).ch0 _cw_34).ch _cw_51 (fun hm => by have _h1 := List.mem_singleton.1 hm; omega)).ch _cw_54 (fun hm => by have _h1 := List.mem_singleton.1 hm; omega))
      refine s_storeA (off := 0) 2 _f_57 sz28 rfl (us := [(.int .i64 n), (.slice _A28 ((_vs8_0x1.drop ((n - hF).toNat))).length _C28)]) rfl rfl rfl rfl fun _w_58 _m_59 _cw_58 => ?_
      have _cw_58z := _cw_58.size
      have E := E.step _cw_58 (fun i hi => .inl (by have _h1 := List.mem_singleton.1 hi; omega))
      replace _m_59 : Blk _w_58 _b4 28 [(.int .i64 n), (.slice _A28 ((_vs8_0x1.drop ((n - hF).toNat))).length _C28)] := _m_59
      refine WL_step rfl rfl (r_assign rfl) ?_
      refine WL_nil ?_
      refine thn_nrm (_hK_56 _ _ ?_)
      clear _hK_56
      refine W_ret ?_
      have _f_62 := (((_q28.ch _cw_51 (fun g hg hm => by have _h0 := List.mem_singleton.1 hm; rw [_bb28] at hg; have _h2 := _lo_u8_0x1 _ hg; have _h3 := _hiu8_0x1 _ hg; omega)).ch _cw_54 (fun g hg hm => by have _h0 := List.mem_singleton.1 hm; rw [_bb28] at hg; have _h2 := _lo_u8_0x1 _ hg; have _h3 := _hiu8_0x1 _ hg; omega)).ch _cw_58 (fun g hg hm => by have _h0 := List.mem_singleton.1 hm; rw [_bb28] at hg; have _h2 := _lo_u8_0x1 _ hg; have _h3 := _hiu8_0x1 _ hg; omega))
      have _f_63 := (((og28.ch _cw_51 (fun i hi => by have _h1 := List.mem_singleton.1 hi; omega)).ch _cw_54 (fun i hi => by have _h1 := List.mem_singleton.1 hi; omega)).ch _cw_58 (fun i hi => by have _h1 := List.mem_singleton.1 hi; omega))
      have _o_60 : Ol Gv.cs 57 2 _w_58 (.slice _A28 ((_vs8_0x1.drop ((n - hF).toNat))).length _C28) (_vs8_0x1.drop ((n - hF).toNat)) := by
        have hx := _f_62
        exact hx
      have _o_61 : OdG 3 168 _w_58 w.heap.size _w_58.heap.size (_vs8_0x1.drop ((n - hF).toNat)) (chG hF hG n) := by
        have hx := _f_63.up (lo' := w.heap.size) (hi' := _w_58.heap.size) (by omega) (by omega)
        first | (rw [← chG_n (fun q => _h12 q.1)]; exact hx) | (rw [← chG_n (fun q => _h20 q.2)]; exact hx) | (rw [← chG_y ⟨_h12, _h20⟩]; exact hx)
      exact ret_intro [_, _] (resOf_loadA _m_59 rfl agg28 sz28 ⟨rfl, trivial⟩) ⟨(.slice _A28 ((_vs8_0x1.drop ((n - hF).toNat))).length _C28), (_vs8_0x1.drop ((n - hF).toNat)), ((congrArg (fun zq => (Value.tuple #[.agg #[.int .i64 zq, (.slice _A28 ((_vs8_0x1.drop ((n - hF).toNat))).length _C28)], .bool true])) (by first | exact chF_n (fun q => _h12 q.1) | exact chF_n (fun q => _h20 q.2) | exact chF_y ⟨_h12, _h20⟩)).trans (congrArg (fun zq => (Value.tuple #[.agg #[.int .i64 (chF hF hG n), (.slice _A28 ((_vs8_0x1.drop ((n - hF).toNat))).length _C28)], .bool zq])) (by first | exact tt_false (fun q => _h12 q.1) | exact tt_false (fun q => _h20 q.2) | exact tt_true ⟨_h12, _h20⟩))), _o_60, (Lo.down (fun g hg => _lo_u8_0x1 g (_bb28 ▸ hg)) (by omega)), _o_61, spc28, E⟩

/-- laws.FnExactCompactHistory -/
theorem c_laws_FnExactCompactHistory {w : World} (hF : Int) {LL_shG _B_shG : Nat} {_v_shG : Value} {shG : List Gv} (_h_shG : Ls Gv.cs 2 w LL_shG _B_shG _v_shG shG) {LR_hG BB_hG : Nat} {hG : List GD} (_rd_hG : RdG w LR_hG BB_hG shG hG) (n : Int) :
    Ctr Try.prog 3 #[(.agg #[(.int .i64 hF), _v_shG]), (.int .i64 n)] w (fun v w' => v = .bool (true) ∧ Ch [] w w') := by
  obtain ⟨_A_shG, _C_shG, _e1_shG⟩ := _h_shG.val
  subst _e1_shG
  have _l_shG := _h_shG.len
  have _h_shG := _h_shG.here (by decide)
  have _rd_hG := _rd_hG.here
  have _rl_hG := _rd_hG.1
  have E := Ch.refl [] w
  have ch9 := ch_size hF hG n; have hg9 := heldGR_mk 1 (chG hF hG n); rw [gmark_mk] at hg9
  refine Ctr_of_W (N := 101) (vs0 := [(.agg #[(.int .i64 hF), (.slice _A_shG shG.length _C_shG)]), (.int .i64 n)]) Try.func3 rfl rfl rfl ?_
  refine W_seq fun _K_1 _hK_1 => ?_
  refine W_region ?_
  refine WL_s rfl rfl ?_
  refine s_box rfl fun _b2 _w_2 _m2 _cw_2 _e2 => ?_
  have _cw_2z := _cw_2.size
  have E := E.trans _cw_2
  have _z2 := _m2.lt
  replace _m2 : Blk _w_2 _b2 24 [(.int .i64 hF), (.slice _A_shG shG.length _C_shG)] := _m2
  refine WL_step rfl rfl (r_assign rfl) ?_
  refine WL_nil ?_
  refine thn_nrm (_hK_1 _ _ ?_)
  clear _hK_1
  refine W_seq fun _K_3 _hK_3 => ?_
  refine W_region ?_
  refine WL_step rfl rfl (r_assign rfl) ?_
  refine WL_nil ?_
  refine thn_nrm (_hK_3 _ _ ?_)
  clear _hK_3
  refine W_seq fun _K_4 _hK_4 => ?_
  refine W_region ?_
  refine WL_step rfl rfl (r_loadAtA0 _m2.at_ agg24 sz24 rfl) ?_
  refine WL_step rfl rfl (r_move rfl) ?_
  refine WL_s rfl rfl ?_
  have _f_5 := (_h_shG.ch0 _cw_2)
  have _f_6 := (_rd_hG.ch0 _cw_2)
  refine Step.call (r_call (xs := [.tmp 16, .tmp 17]) fk9 rfl) (c_laws_szHistory _ _f_5 _f_6 _ (by omega) (by omega)) fun _v18 _w_7 _q18 => ?_
  obtain ⟨rfl, _cw_7⟩ := _q18
  have _cw_7z := _cw_7.size
  have E := E.trans _cw_7
  refine WL_step rfl rfl (r_assign rfl) ?_
  refine WL_nil ?_
  refine thn_nrm (_hK_4 _ _ ?_)
  clear _hK_4
  refine W_seq fun _K_8 _hK_8 => ?_
  refine W_seq fun _K_9 _hK_9 => ?_
  refine W_region ?_
  refine WL_step rfl rfl (r_move rfl) ?_
  refine WL_step rfl rfl (r_lss rfl rfl) ?_
  refine WL_nil ?_
  refine thn_nrm (_hK_9 _ _ ?_)
  clear _hK_9
  refine W_cond rfl (fun _h20 => ?_) (fun _h20 => ?_)
  · have _kb_10 := _h20
    have _h20 := bt_d _h20
    refine W_seq fun _K_11 _hK_11 => ?_
    refine W_region ?_
    refine WL_step rfl rfl (r_assign rfl) ?_
    refine WL_nil ?_
    refine thn_nrm (_hK_11 _ _ ?_)
    clear _hK_11
    refine W_ret (thn_ret ?_)
    clear _hK_8
    exact ret_intro [_] ⟨rfl, trivial⟩ ⟨congrArg Value.bool (by first | rfl | (exfalso; omega) | (exfalso; revert _h20; simp; done) | (exfalso; revert _h20; simp; omega)), E⟩
  · have _kb_10 := _h20
    have _h20 := bf_d _h20
    refine W_skip ?_
    refine thn_nrm (_hK_8 _ _ ?_)
    clear _hK_8
    refine W_seq fun _K_12 _hK_12 => ?_
    refine W_region ?_
    have _f_13 := (_m2.ch0 _cw_7)
    refine WL_step rfl rfl (r_loadAtA0 _f_13.at_ agg24 sz24 rfl) ?_
    refine WL_s rfl rfl ?_
    have _f_14 := (_f_5.ch0 _cw_7)
    have _f_15 := (_f_6.ch0 _cw_7)
    refine Step.call (r_call (xs := [.tmp 22]) fk11 rfl) (c_laws_toHistory _ _f_14 _f_15 (by omega)) fun _v23 _w_16 _q23 => ?_
    obtain ⟨u23_0x1, _vs23_0x1, rfl, _q_u23_0x1, _lo_u23_0x1, rg_vs23_0x1, _sep_vs23_0x1, _cw_16⟩ := _q23
    have _cw_16z := _cw_16.size
    have E := E.trans _cw_16
    obtain ⟨Au23_0x1, Cu23_0x1, eu23_0x1⟩ := _q_u23_0x1.val
    subst eu23_0x1
    have lu23_0x1 := _q_u23_0x1.len
    have _hiu23_0x1 := _q_u23_0x1.lt
    refine WL_step rfl rfl (r_move rfl) ?_
    refine WL_s rfl rfl ?_
    refine Step.call (r_call (xs := [.tmp 23, .tmp 24]) fk10 rfl) (c_spec_CompactHistory _ _q_u23_0x1.ls rg_vs23_0x1.rdg _ (by omega)) fun _v25 _w_17 _q25 => ?_
    obtain ⟨u25_0x1, _vs25_0x1, rfl, _q_u25_0x1, _lo_u25_0x1, rg_vs25_0x1, _sep_vs25_0x1, _cw_17⟩ := _q25
    have _cw_17z := _cw_17.size
    have E := E.trans _cw_17
    obtain ⟨Au25_0x1, Cu25_0x1, eu25_0x1⟩ := _q_u25_0x1.val
    subst eu25_0x1
    have lu25_0x1 := _q_u25_0x1.len
    have _hiu25_0x1 := _q_u25_0x1.lt
    refine WL_step rfl rfl (r_move rfl) ?_
    refine WL_step rfl rfl (r_extract rfl rfl) ?_
    refine WL_step rfl rfl (r_extract rfl rfl) ?_
    refine WL_s rfl rfl ?_
    refine s_alloc zr28 fun _b6 _w_18 _m6 _cw_18 _e6 => ?_
    have _cw_18z := _cw_18.size
    have E := E.trans _cw_18
    have _z6 := _m6.lt
    replace _m6 : Blk _w_18 _b6 28 [(.int .i64 0), (.slice none 0 0)] := _m6
    refine WL_s rfl rfl ?_
    refine s_storeA (off := 0) 2 _m6 sz28 rfl (us := [(.int .i64 (chF hF hG n)), (.slice Au25_0x1 (_vs25_0x1).length Cu25_0x1)]) rfl rfl rfl rfl fun _w_19 _m_20 _cw_19 => ?_
    have _cw_19z := _cw_19.size
    have E := E.step _cw_19 (fun i hi => .inl (by have _h1 := List.mem_singleton.1 hi; omega))
    replace _m_20 : Blk _w_19 _b6 28 [(.int .i64 (chF hF hG n)), (.slice Au25_0x1 (_vs25_0x1).length Cu25_0x1)] := _m_20
    refine WL_step rfl rfl (r_assign rfl) ?_
    refine WL_nil ?_
    refine thn_nrm (_hK_12 _ _ ?_)
    clear _hK_12
    refine W_seq fun _K_21 _hK_21 => ?_
    refine W_region ?_
    have _f_22 := ((((_f_13.ch0 _cw_16).ch0 _cw_17).ch0 _cw_18).ch _cw_19 (fun hm => by have _h1 := List.mem_singleton.1 hm; omega))
    refine WL_step rfl rfl (r_loadAtA0 _f_22.at_ agg24 sz24 rfl) ?_
    refine WL_s rfl rfl ?_
    have _f_23 := ((((_f_14.ch0 _cw_16).ch0 _cw_17).ch0 _cw_18).ch _cw_19 (fun i hi => by have _h1 := List.mem_singleton.1 hi; omega))
    have _f_24 := ((((_f_15.ch0 _cw_16).ch0 _cw_17).ch0 _cw_18).ch _cw_19 (fun i hi => by have _h1 := List.mem_singleton.1 hi; omega))
    refine Step.call (r_call (xs := [.tmp 28]) fk11 rfl) (c_laws_toHistory _ _f_23 _f_24 (by omega)) fun _v29 _w_25 _q29 => ?_
    obtain ⟨u29_0x1, _vs29_0x1, rfl, _q_u29_0x1, _lo_u29_0x1, rg_vs29_0x1, _sep_vs29_0x1, _cw_25⟩ := _q29
    have _cw_25z := _cw_25.size
    have E := E.trans _cw_25
    obtain ⟨Au29_0x1, Cu29_0x1, eu29_0x1⟩ := _q_u29_0x1.val
    subst eu29_0x1
    have lu29_0x1 := _q_u29_0x1.len
    have _hiu29_0x1 := _q_u29_0x1.lt
    refine WL_s rfl rfl ?_
    refine s_alloc zr28 fun _b8 _w_26 _m8 _cw_26 _e8 => ?_
    have _cw_26z := _cw_26.size
    have E := E.trans _cw_26
    have _z8 := _m8.lt
    replace _m8 : Blk _w_26 _b8 28 [(.int .i64 0), (.slice none 0 0)] := _m8
    refine WL_s rfl rfl ?_
    refine s_storeA (off := 0) 2 _m8 sz28 rfl (us := [(.int .i64 hF), (.slice Au29_0x1 (_vs29_0x1).length Cu29_0x1)]) rfl rfl rfl rfl fun _w_27 _m_28 _cw_27 => ?_
    have _cw_27z := _cw_27.size
    have E := E.step _cw_27 (fun i hi => .inl (by have _h1 := List.mem_singleton.1 hi; omega))
    replace _m_28 : Blk _w_27 _b8 28 [(.int .i64 hF), (.slice Au29_0x1 (_vs29_0x1).length Cu29_0x1)] := _m_28
    refine WL_nil ?_
    refine thn_nrm (_hK_21 _ _ ?_)
    clear _hK_21
    refine W_seq fun _K_29 _hK_29 => ?_
    refine W_region ?_
    refine WL_step rfl rfl (r_loadAtA0 _m_28.at_ agg28 sz28 rfl) ?_
    refine WL_step rfl rfl (r_move rfl) ?_
    refine WL_s rfl rfl ?_
    have _f_30 := ((_q_u29_0x1.ch0 _cw_26).ch _cw_27 (fun g hg hm => by have _h0 := List.mem_singleton.1 hm; have _h2 := _lo_u29_0x1 _ hg; have _h3 := _hiu29_0x1 _ hg; omega))
    have _f_31 := ((rg_vs29_0x1.ch0 _cw_26).ch _cw_27 (fun i hi => by have _h1 := List.mem_singleton.1 hi; omega))
    refine Step.call (r_call (xs := [.tmp 31, .tmp 32]) fk12 rfl) (c_impl_CompactHistory _ _f_30.ls _f_31.rdg _ (by omega)) fun _v33 _w_32 _q33 => ?_
    obtain ⟨u33_0x1, _vs33_0x1, rfl, _q_u33_0x1, _lo_u33_0x1, rg_vs33_0x1, _sep_vs33_0x1, _cw_32⟩ := _q33
    have _cw_32z := _cw_32.size
    have E := E.trans _cw_32
    obtain ⟨Au33_0x1, Cu33_0x1, eu33_0x1⟩ := _q_u33_0x1.val
    subst eu33_0x1
    have lu33_0x1 := _q_u33_0x1.len
    have _hiu33_0x1 := _q_u33_0x1.lt
    refine WL_step rfl rfl (r_move rfl) ?_
    refine WL_step rfl rfl (r_extract rfl rfl) ?_
    refine WL_step rfl rfl (r_extract rfl rfl) ?_
    refine WL_s rfl rfl ?_
    refine s_alloc zr28 fun _b9 _w_33 _m9 _cw_33 _e9 => ?_
    have _cw_33z := _cw_33.size
    have E := E.trans _cw_33
    have _z9 := _m9.lt
    replace _m9 : Blk _w_33 _b9 28 [(.int .i64 0), (.slice none 0 0)] := _m9
    refine WL_s rfl rfl ?_
    refine s_storeA (off := 0) 2 _m9 sz28 rfl (us := [(.int .i64 (chF hF hG n)), (.slice Au33_0x1 (_vs33_0x1).length Cu33_0x1)]) rfl rfl rfl rfl fun _w_34 _m_35 _cw_34 => ?_
    have _cw_34z := _cw_34.size
    have E := E.step _cw_34 (fun i hi => .inl (by have _h1 := List.mem_singleton.1 hi; omega))
    replace _m_35 : Blk _w_34 _b9 28 [(.int .i64 (chF hF hG n)), (.slice Au33_0x1 (_vs33_0x1).length Cu33_0x1)] := _m_35
    refine WL_step rfl rfl (r_assign rfl) ?_
    refine WL_nil ?_
    refine thn_nrm (_hK_29 _ _ ?_)
    clear _hK_29
    refine W_seq fun _K_36 _hK_36 => ?_
    refine W_seq fun _K_37 _hK_37 => ?_
    refine W_region ?_
    refine WL_step rfl rfl (r_loadAtA0 _m_35.at_ agg28 sz28 rfl) ?_
    have _f_38 := ((((((_m_20.ch0 _cw_25).ch0 _cw_26).ch _cw_27 (fun hm => by have _h1 := List.mem_singleton.1 hm; omega)).ch0 _cw_32).ch0 _cw_33).ch _cw_34 (fun hm => by have _h1 := List.mem_singleton.1 hm; omega))
    refine WL_step rfl rfl (r_loadAtA0 _f_38.at_ agg28 sz28 rfl) ?_
    refine WL_s rfl rfl ?_
    have _f_39 := ((_q_u33_0x1.ch0 _cw_33).ch _cw_34 (fun g hg hm => by have _h0 := List.mem_singleton.1 hm; have _h2 := _lo_u33_0x1 _ hg; have _h3 := _hiu33_0x1 _ hg; omega))
    have _f_40 := ((rg_vs33_0x1.ch0 _cw_33).ch _cw_34 (fun i hi => by have _h1 := List.mem_singleton.1 hi; omega))
    have _f_41 := ((((((((_q_u25_0x1.ch0 _cw_18).ch _cw_19 (fun g hg hm => by have _h0 := List.mem_singleton.1 hm; have _h2 := _lo_u25_0x1 _ hg; have _h3 := _hiu25_0x1 _ hg; omega)).ch0 _cw_25).ch0 _cw_26).ch _cw_27 (fun g hg hm => by have _h0 := List.mem_singleton.1 hm; have _h2 := _lo_u25_0x1 _ hg; have _h3 := _hiu25_0x1 _ hg; omega)).ch0 _cw_32).ch0 _cw_33).ch _cw_34 (fun g hg hm => by have _h0 := List.mem_singleton.1 hm; have _h2 := _lo_u25_0x1 _ hg; have _h3 := _hiu25_0x1 _ hg; omega))
    have _f_42 := ((((((((rg_vs25_0x1.ch0 _cw_18).ch _cw_19 (fun i hi => by have _h1 := List.mem_singleton.1 hi; omega)).ch0 _cw_25).ch0 _cw_26).ch _cw_27 (fun i hi => by have _h1 := List.mem_singleton.1 hi; omega)).ch0 _cw_32).ch0 _cw_33).ch _cw_34 (fun i hi => by have _h1 := List.mem_singleton.1 hi; omega))
    refine Step.call (r_call (xs := [.tmp 36, .tmp 37]) fk13 rfl) (c_laws_eqHistory _ _f_39.ls _f_40.rdg _ _f_41.ls _f_42.rdg ) fun _v38 _w_43 _q38 => ?_
    obtain ⟨rfl, _cw_43⟩ := _q38
    have _cw_43z := _cw_43.size
    have E := E.trans _cw_43
    refine WL_step rfl rfl (r_not rfl) ?_
    refine WL_step rfl rfl (r_move rfl) ?_
    refine WL_split (d := 40) rfl (fun _h40 => ?_) (fun _h40 => ?_)
    · have _kb_44 := _h40
      have _h40 := bf_t (bt_n _h40)
      refine WL_skip rfl rfl ?_
      refine WL_skip rfl rfl ?_
      refine WL_skip rfl rfl ?_
      refine WL_step rfl rfl (r_pickT rfl rfl) ?_
      refine WL_nil ?_
      refine thn_nrm (_hK_37 _ _ ?_)
      clear _hK_37
      refine W_condT rfl ?_
      refine W_seq fun _K_45 _hK_45 => ?_
      refine W_region ?_
      refine WL_step rfl rfl (r_assign rfl) ?_
      refine WL_nil ?_
      refine thn_nrm (_hK_45 _ _ ?_)
      clear _hK_45
      refine W_ret (thn_ret ?_)
      clear _hK_36
      exact ret_intro [_] ⟨rfl, trivial⟩ ⟨congrArg Value.bool (by first | rfl | (exfalso; omega) | (exfalso; revert _h40; simp; done) | (exfalso; revert _h40; simp; omega)), E⟩
    · have _kb_44 := _h40
      have _h40 := bt_t (bf_n _h40)
      refine WL_step rfl rfl (r_move rfl) ?_
      refine WL_step rfl rfl (r_move rfl) ?_
      refine WL_step rfl rfl (r_neqB un4 rfl rfl) ?_
      refine WL_step rfl rfl (r_pickF rfl rfl) ?_
      refine WL_nil ?_
      refine thn_nrm (_hK_37 _ _ ?_)
      clear _hK_37
      refine W_cond rfl (fun _h44 => ?_) (fun _h44 => ?_)
      · have _kb_46 := _h44
        have _h44 := bf_e (bt_n _h44)
        refine W_seq fun _K_47 _hK_47 => ?_
        refine W_region ?_
        refine WL_step rfl rfl (r_assign rfl) ?_
        refine WL_nil ?_
        refine thn_nrm (_hK_47 _ _ ?_)
        clear _hK_47
        refine W_ret (thn_ret ?_)
        clear _hK_36
        exact ret_intro [_] ⟨rfl, trivial⟩ ⟨congrArg Value.bool (by first | rfl | (exfalso; omega) | (exfalso; revert _h44; simp; done) | (exfalso; revert _h44; simp; omega)), E⟩
      · have _kb_46 := _h44
        have _h44 := bt_e (bf_n _h44)
        refine W_skip ?_
        refine thn_nrm (_hK_36 _ _ ?_)
        clear _hK_36
        refine W_seq fun _K_48 _hK_48 => ?_
        refine W_seq fun _K_49 _hK_49 => ?_
        refine W_drawC [] 5 mixed rfl fun _w_50 _cw_50 => ?_
        have _cw_50z := _cw_50.size
        have E := E.trans _cw_50
        have _f_51 := (((((_m_28.ch0 _cw_32).ch0 _cw_33).ch _cw_34 (fun hm => by have _h1 := List.mem_singleton.1 hm; omega)).ch0 _cw_43).ch0 _cw_50)
        refine DR_s 0 rfl (by kernel_rfl) rfl rfl (t_loadAtA0 _f_51.at_ (fun i hi => absurd hi List.not_mem_nil) agg28 sz28 rfl ?_)
        have _f_52 := ((((((((_f_22.ch0 _cw_25).ch0 _cw_26).ch _cw_27 (fun hm => by have _h1 := List.mem_singleton.1 hm; omega)).ch0 _cw_32).ch0 _cw_33).ch _cw_34 (fun hm => by have _h1 := List.mem_singleton.1 hm; omega)).ch0 _cw_43).ch0 _cw_50)
        refine DR_s 1 rfl (by kernel_rfl) rfl rfl (t_loadAtA0 _f_52.at_ (fun i hi => absurd hi List.not_mem_nil) agg24 sz24 rfl ?_)
        refine DR_one 2 (by kernel_rfl) ?_
        refine DO_s rfl rfl rfl ?_
        have _f_53 := ((((((((_f_23.ch0 _cw_25).ch0 _cw_26).ch _cw_27 (fun i hi => by have _h1 := List.mem_singleton.1 hi; omega)).ch0 _cw_32).ch0 _cw_33).ch _cw_34 (fun i hi => by have _h1 := List.mem_singleton.1 hi; omega)).ch0 _cw_43).ch0 _cw_50)
        have _f_54 := ((((((((_f_24.ch0 _cw_25).ch0 _cw_26).ch _cw_27 (fun i hi => by have _h1 := List.mem_singleton.1 hi; omega)).ch0 _cw_32).ch0 _cw_33).ch _cw_34 (fun i hi => by have _h1 := List.mem_singleton.1 hi; omega)).ch0 _cw_43).ch0 _cw_50)
        refine Step.call (r_call (xs := [.tmp 46]) fk11 rfl) (c_laws_toHistory _ _f_53 _f_54 (by omega)) fun _v47 _w_55 _q47 => ?_
        obtain ⟨u47_0x1, _vs47_0x1, rfl, _q_u47_0x1, _lo_u47_0x1, rg_vs47_0x1, _sep_vs47_0x1, _cw_55⟩ := _q47
        have _cw_55z := _cw_55.size
        have E := E.trans _cw_55
        obtain ⟨Au47_0x1, Cu47_0x1, eu47_0x1⟩ := _q_u47_0x1.val
        subst eu47_0x1
        have lu47_0x1 := _q_u47_0x1.len
        have _hiu47_0x1 := _q_u47_0x1.lt
        have _S_56 : Ch [] _w_50 _w_55 := ((Ch.refl _ _).trans _cw_55)
        refine ⟨_S_56, ?_⟩
        refine DR_one 3 (by kernel_rfl) ?_
        refine DO_s rfl rfl rfl ?_
        have _f_57 := ((((((_f_30.ch0 _cw_32).ch0 _cw_33).ch _cw_34 (fun g hg hm => by have _h0 := List.mem_singleton.1 hm; have _h2 := _lo_u29_0x1 _ hg; have _h3 := _hiu29_0x1 _ hg; omega)).ch0 _cw_43).ch0 _cw_50).ch0 _cw_55)
        have _f_58 := ((((((_f_31.ch0 _cw_32).ch0 _cw_33).ch _cw_34 (fun i hi => by have _h1 := List.mem_singleton.1 hi; omega)).ch0 _cw_43).ch0 _cw_50).ch0 _cw_55)
        refine Step.call (r_call (xs := [.tmp 45, .tmp 47]) fk13 rfl) (c_laws_eqHistory _ _f_57.ls _f_58.rdg _ _q_u47_0x1.ls rg_vs47_0x1.rdg ) fun _v48 _w_59 _q48 => ?_
        obtain ⟨rfl, _cw_59⟩ := _q48
        have _cw_59z := _cw_59.size
        have E := E.trans _cw_59
        have _S_60 : Ch [] _w_50 _w_59 := (_S_56.trans _cw_59)
        refine ⟨_S_60, ?_⟩
        refine DR_s 4 rfl (by kernel_rfl) rfl rfl (t_v (fun _ => (r_not rfl)) ?_)
        refine DR_done (by kernel_rfl) ?_
        refine thn_nrm (_hK_49 _ _ ?_)
        clear _hK_49
        refine W_cond rfl (fun _h49 => ?_) (fun _h49 => ?_)
        · have _kb_61 := _h49
          have _h49 := bf_t (bt_n _h49)
          refine W_seq fun _K_62 _hK_62 => ?_
          refine W_region ?_
          refine WL_step rfl rfl (r_assign rfl) ?_
          refine WL_nil ?_
          refine thn_nrm (_hK_62 _ _ ?_)
          clear _hK_62
          refine W_ret (thn_ret ?_)
          clear _hK_48
          exact ret_intro [_] ⟨rfl, trivial⟩ ⟨congrArg Value.bool (by first | rfl | (exfalso; omega) | (exfalso; revert _h49; simp; done) | (exfalso; revert _h49; simp; omega)), E⟩
        · have _kb_61 := _h49
          have _h49 := bt_t (bf_n _h49)
          refine W_skip ?_
          refine thn_nrm (_hK_48 _ _ ?_)
          clear _hK_48
          refine W_seq fun _K_63 _hK_63 => ?_
          refine W_region ?_
          refine WL_step rfl rfl (r_assign rfl) ?_
          refine WL_nil ?_
          refine thn_nrm (_hK_63 _ _ ?_)
          clear _hK_63
          refine W_seq fun _K_64 _hK_64 => ?_
          refine W_region ?_
          have _f_65 := ((_f_51.ch0 _cw_55).ch0 _cw_59)
          refine WL_step rfl rfl (r_loadAtA0 _f_65.at_ agg28 sz28 rfl) ?_
          refine WL_step rfl rfl (r_move rfl) ?_
          refine WL_s rfl rfl ?_
          have _f_66 := (_f_57.ch0 _cw_59)
          have _f_67 := (_f_58.ch0 _cw_59)
          refine Step.call (r_call (xs := [.tmp 50, .tmp 51]) fk14 rfl) (c_laws_markHistory _ _f_66 (_f_67.up (lo' := _w_19.heap.size) (hi' := _w_25.heap.size) (by omega) (by omega)) (fun g hm => by have _h1 := _lo_u29_0x1 _ hm; have _h2 := _hiu29_0x1 _ hm; omega) _sep_vs29_0x1 (by omega) _ (by omega) (by first | omega | (simp <;> omega))) fun _v52 _w_68 _q52 => ?_
          obtain ⟨rfl, _q52, rq52, _cw_68⟩ := _q52
          have _cw_68z := _cw_68.size
          have E := E.step _cw_68 (fun i hm => by have _h1 := mem_rg hm; left; omega)
          refine WL_step rfl rfl (r_assign rfl) ?_
          refine WL_nil ?_
          refine thn_nrm (_hK_64 _ _ ?_)
          clear _hK_64
          refine W_seq fun _K_69 _hK_69 => ?_
          refine W_seq fun _K_70 _hK_70 => ?_
          refine W_region ?_
          refine WL_step rfl rfl (r_move rfl) ?_
          refine WL_step rfl rfl (r_lss rfl rfl) ?_
          refine WL_step rfl rfl (r_move rfl) ?_
          refine WL_split (d := 55) rfl (fun _h55 => ?_) (fun _h55 => ?_)
          · have _kb_71 := _h55
            have _h55 := bt_d _h55
            refine WL_skip rfl rfl ?_
            refine WL_skip rfl rfl ?_
            refine WL_skip rfl rfl ?_
            refine WL_skip rfl rfl ?_
            refine WL_step rfl rfl (r_pickT rfl rfl) ?_
            refine WL_step rfl rfl (r_move rfl) ?_
            refine WL_skip rfl rfl ?_
            refine WL_skip rfl rfl ?_
            refine WL_skip rfl rfl ?_
            refine WL_step rfl rfl (r_pickT rfl rfl) ?_
            refine WL_nil ?_
            refine thn_nrm (_hK_70 _ _ ?_)
            clear _hK_70
            refine W_condT rfl ?_
            refine W_seq fun _K_72 _hK_72 => ?_
            refine W_region ?_
            refine WL_step rfl rfl (r_assign rfl) ?_
            refine WL_nil ?_
            refine thn_nrm (_hK_72 _ _ ?_)
            clear _hK_72
            refine W_ret (thn_ret ?_)
            clear _hK_69
            exact ret_intro [_] ⟨rfl, trivial⟩ ⟨congrArg Value.bool (by first | rfl | (exfalso; omega) | (exfalso; revert _h55; simp; done) | (exfalso; revert _h55; simp; omega)), E⟩
          · have _kb_71 := _h55
            have _h55 := bf_d _h55
            have _f_73 := (((((_m_35.ch0 _cw_43).ch0 _cw_50).ch0 _cw_55).ch0 _cw_59).ch _cw_68 (fun hm => by have _h1 := mem_rg hm; omega))
            refine WL_step rfl rfl (r_loadAtA0 _f_73.at_ agg28 sz28 rfl) ?_
            have _f_74 := (((((_f_38.ch0 _cw_43).ch0 _cw_50).ch0 _cw_55).ch0 _cw_59).ch _cw_68 (fun hm => by have _h1 := mem_rg hm; omega))
            refine WL_step rfl rfl (r_loadAtA0 _f_74.at_ agg28 sz28 rfl) ?_
            refine WL_s rfl rfl ?_
            have _f_75 := (((((_f_39.ch0 _cw_43).ch0 _cw_50).ch0 _cw_55).ch0 _cw_59).ch _cw_68 (fun g hg hm => by have _h0 := mem_rg hm; have _h1 := _lo_u33_0x1 _ hg; have _h2 := _hiu33_0x1 _ hg; omega))
            have _f_76 := (((((_f_40.ch0 _cw_43).ch0 _cw_50).ch0 _cw_55).ch0 _cw_59).ch _cw_68 (fun i hm => by have _h1 := mem_rg hm; omega))
            have _f_77 := (((((_f_41.ch0 _cw_43).ch0 _cw_50).ch0 _cw_55).ch0 _cw_59).ch _cw_68 (fun g hg hm => by have _h0 := mem_rg hm; have _h1 := _lo_u25_0x1 _ hg; have _h2 := _hiu25_0x1 _ hg; omega))
            have _f_78 := (((((_f_42.ch0 _cw_43).ch0 _cw_50).ch0 _cw_55).ch0 _cw_59).ch _cw_68 (fun i hm => by have _h1 := mem_rg hm; omega))
            refine Step.call (r_call (xs := [.tmp 56, .tmp 57]) fk13 rfl) (c_laws_eqHistory _ _f_75.ls _f_76.rdg _ _f_77.ls _f_78.rdg ) fun _v58 _w_79 _q58 => ?_
            obtain ⟨rfl, _cw_79⟩ := _q58
            have _cw_79z := _cw_79.size
            have E := E.trans _cw_79
            refine WL_step rfl rfl (r_not rfl) ?_
            refine WL_step rfl rfl (r_pickF rfl rfl) ?_
            refine WL_step rfl rfl (r_move rfl) ?_
            refine WL_splitF (d := 61) rfl _kb_44 ?_
            refine WL_step rfl rfl (r_move rfl) ?_
            refine WL_step rfl rfl (r_move rfl) ?_
            refine WL_step rfl rfl (r_neqB un4 rfl rfl) ?_
            refine WL_step rfl rfl (r_pickF rfl rfl) ?_
            refine WL_nil ?_
            refine thn_nrm (_hK_70 _ _ ?_)
            clear _hK_70
            refine W_condFk rfl _kb_46 ?_
            refine W_skip ?_
            refine thn_nrm (_hK_69 _ _ ?_)
            clear _hK_69
            refine W_seq fun _K_80 _hK_80 => ?_
            refine W_region ?_
            refine WL_step rfl rfl (r_assign rfl) ?_
            refine WL_nil ?_
            refine thn_nrm (_hK_80 _ _ ?_)
            clear _hK_80
            refine W_seq fun _K_81 _hK_81 => ?_
            refine W_region ?_
            have _f_82 := (_f_73.ch0 _cw_79)
            refine WL_step rfl rfl (r_loadAtA0 _f_82.at_ agg28 sz28 rfl) ?_
            refine WL_step rfl rfl (r_move rfl) ?_
            refine WL_s rfl rfl ?_
            have _f_83 := (_f_75.ch0 _cw_79)
            have _f_84 := (_f_76.ch0 _cw_79)
            refine Step.call (r_call (xs := [.tmp 66, .tmp 67]) fk14 rfl) (c_laws_markHistory _ _f_83 (_f_84.up (lo' := _w_27.heap.size) (hi' := _w_32.heap.size) (by omega) (by omega)) (fun g hm => by have _h1 := _lo_u33_0x1 _ hm; have _h2 := _hiu33_0x1 _ hm; omega) _sep_vs33_0x1 (by omega) _ (by omega) (by first | omega | (simp <;> omega))) fun _v68 _w_85 _q68 => ?_
            obtain ⟨rfl, _q68, rq68, _cw_85⟩ := _q68
            have _cw_85z := _cw_85.size
            have E := E.step _cw_85 (fun i hm => by have _h1 := mem_rg hm; left; omega)
            refine WL_step rfl rfl (r_assign rfl) ?_
            refine WL_nil ?_
            refine thn_nrm (_hK_81 _ _ ?_)
            clear _hK_81
            refine W_seq fun _K_86 _hK_86 => ?_
            refine W_region ?_
            refine WL_step rfl rfl (r_assign rfl) ?_
            refine WL_nil ?_
            refine thn_nrm (_hK_86 _ _ ?_)
            clear _hK_86
            refine W_seq fun _K_87 _hK_87 => ?_
            refine W_region ?_
            have _f_88 := (_f_82.ch _cw_85 (fun hm => by have _h1 := mem_rg hm; omega))
            refine WL_step rfl rfl (r_loadAtA0 _f_88.at_ agg28 sz28 rfl) ?_
            refine WL_step rfl rfl (r_move rfl) ?_
            refine WL_s rfl rfl ?_
            refine Step.call (r_call (xs := [.tmp 69, .tmp 70]) fk15 rfl) (c_laws_heldHistory _ rq68.ls _q68.rdg _ (by omega) (by rw [gsize_mk]; omega)) fun _v71 _w_89 _q71 => ?_
            obtain ⟨rfl, _cw_89⟩ := _q71
            have _cw_89z := _cw_89.size
            have E := E.trans _cw_89
            refine WL_step rfl rfl (r_assign rfl) ?_
            refine WL_nil ?_
            refine thn_nrm (_hK_87 _ _ ?_)
            clear _hK_87
            refine W_seq fun _K_90 _hK_90 => ?_
            refine W_seq fun _K_91 _hK_91 => ?_
            refine W_region ?_
            refine WL_step rfl rfl (r_move rfl) ?_
            refine WL_step rfl rfl (r_lss rfl rfl) ?_
            refine WL_nil ?_
            refine thn_nrm (_hK_91 _ _ ?_)
            clear _hK_91
            refine W_cond rfl (fun _h73 => ?_) (fun _h73 => ?_)
            · have _kb_92 := _h73
              have _h73 := bt_d _h73
              refine W_seq fun _K_93 _hK_93 => ?_
              refine W_region ?_
              refine WL_step rfl rfl (r_assign rfl) ?_
              refine WL_nil ?_
              refine thn_nrm (_hK_93 _ _ ?_)
              clear _hK_93
              refine W_ret (thn_ret ?_)
              clear _hK_90
              exact ret_intro [_] ⟨rfl, trivial⟩ ⟨congrArg Value.bool (by first | rfl | (exfalso; omega) | (exfalso; revert _h73; simp; done) | (exfalso; revert _h73; simp; omega)), E⟩
            · have _kb_92 := _h73
              have _h73 := bf_d _h73
              refine W_skip ?_
              refine thn_nrm (_hK_90 _ _ ?_)
              clear _hK_90
              refine W_seq fun _K_94 _hK_94 => ?_
              refine W_seq fun _K_95 _hK_95 => ?_
              refine W_region ?_
              refine WL_step rfl rfl (r_move rfl) ?_
              refine WL_step rfl rfl (r_move rfl) ?_
              refine WL_step rfl rfl (r_neq rfl rfl) ?_
              refine WL_nil ?_
              refine thn_nrm (_hK_95 _ _ ?_)
              clear _hK_95
              refine W_cond rfl (fun _h76 => ?_) (fun _h76 => ?_)
              · have _kb_96 := _h76
                have _h76 := bf_d (bt_n _h76)
                refine W_seq fun _K_97 _hK_97 => ?_
                refine W_region ?_
                refine WL_step rfl rfl (r_assign rfl) ?_
                refine WL_nil ?_
                refine thn_nrm (_hK_97 _ _ ?_)
                clear _hK_97
                refine W_ret (thn_ret ?_)
                clear _hK_94
                exact ret_intro [_] ⟨rfl, trivial⟩ ⟨congrArg Value.bool (by first | rfl | (exfalso; omega) | (exfalso; revert _h76; simp; done) | (exfalso; revert _h76; simp; omega)), E⟩
              · have _kb_96 := _h76
                have _h76 := bt_d (bf_n _h76)
                refine W_skip ?_
                refine thn_nrm (_hK_94 _ _ ?_)
                clear _hK_94
                refine W_seq fun _K_98 _hK_98 => ?_
                refine W_region ?_
                have _f_99 := ((((((_f_52.ch0 _cw_55).ch0 _cw_59).ch _cw_68 (fun hm => by have _h1 := mem_rg hm; omega)).ch0 _cw_79).ch _cw_85 (fun hm => by have _h1 := mem_rg hm; omega)).ch0 _cw_89)
                refine WL_step rfl rfl (r_loadAtA0 _f_99.at_ agg24 sz24 rfl) ?_
                refine WL_s rfl rfl ?_
                have _f_100 := ((((((_f_53.ch0 _cw_55).ch0 _cw_59).ch _cw_68 (fun i hm => by have _h1 := mem_rg hm; omega)).ch0 _cw_79).ch _cw_85 (fun i hm => by have _h1 := mem_rg hm; omega)).ch0 _cw_89)
                have _f_101 := ((((((_f_54.ch0 _cw_55).ch0 _cw_59).ch _cw_68 (fun i hm => by have _h1 := mem_rg hm; omega)).ch0 _cw_79).ch _cw_85 (fun i hm => by have _h1 := mem_rg hm; omega)).ch0 _cw_89)
                refine Step.call (r_call (xs := [.tmp 78]) fk11 rfl) (c_laws_toHistory _ _f_100 _f_101 (by omega)) fun _v79 _w_102 _q79 => ?_
                obtain ⟨u79_0x1, _vs79_0x1, rfl, _q_u79_0x1, _lo_u79_0x1, rg_vs79_0x1, _sep_vs79_0x1, _cw_102⟩ := _q79
                have _cw_102z := _cw_102.size
                have E := E.trans _cw_102
                obtain ⟨Au79_0x1, Cu79_0x1, eu79_0x1⟩ := _q_u79_0x1.val
                subst eu79_0x1
                have lu79_0x1 := _q_u79_0x1.len
                have _hiu79_0x1 := _q_u79_0x1.lt
                refine WL_step rfl rfl (r_move rfl) ?_
                refine WL_s rfl rfl ?_
                refine Step.call (r_call (xs := [.tmp 79, .tmp 80]) fk12 rfl) (c_impl_CompactHistory _ _q_u79_0x1.ls rg_vs79_0x1.rdg _ (by omega)) fun _v81 _w_103 _q81 => ?_
                obtain ⟨u81_0x1, _vs81_0x1, rfl, _q_u81_0x1, _lo_u81_0x1, rg_vs81_0x1, _sep_vs81_0x1, _cw_103⟩ := _q81
                have _cw_103z := _cw_103.size
                have E := E.trans _cw_103
                obtain ⟨Au81_0x1, Cu81_0x1, eu81_0x1⟩ := _q_u81_0x1.val
                subst eu81_0x1
                have lu81_0x1 := _q_u81_0x1.len
                have _hiu81_0x1 := _q_u81_0x1.lt
                refine WL_step rfl rfl (r_move rfl) ?_
                refine WL_step rfl rfl (r_extract rfl rfl) ?_
                refine WL_step rfl rfl (r_extract rfl rfl) ?_
                refine WL_s rfl rfl ?_
                refine s_alloc zr28 fun _b14 _w_104 _m14 _cw_104 _e14 => ?_
                have _cw_104z := _cw_104.size
                have E := E.trans _cw_104
                have _z14 := _m14.lt
                replace _m14 : Blk _w_104 _b14 28 [(.int .i64 0), (.slice none 0 0)] := _m14
                refine WL_s rfl rfl ?_
                refine s_storeA (off := 0) 2 _m14 sz28 rfl (us := [(.int .i64 (chF hF hG n)), (.slice Au81_0x1 (_vs81_0x1).length Cu81_0x1)]) rfl rfl rfl rfl fun _w_105 _m_106 _cw_105 => ?_
                have _cw_105z := _cw_105.size
                have E := E.step _cw_105 (fun i hi => .inl (by have _h1 := List.mem_singleton.1 hi; omega))
                replace _m_106 : Blk _w_105 _b14 28 [(.int .i64 (chF hF hG n)), (.slice Au81_0x1 (_vs81_0x1).length Cu81_0x1)] := _m_106
                refine WL_step rfl rfl (r_assign rfl) ?_
                refine WL_nil ?_
                refine thn_nrm (_hK_98 _ _ ?_)
                clear _hK_98
                refine W_seq fun _K_107 _hK_107 => ?_
                refine W_seq fun _K_108 _hK_108 => ?_
                refine W_region ?_
                refine WL_step rfl rfl (r_loadAtA0 _m_106.at_ agg28 sz28 rfl) ?_
                have _f_109 := (((((((_f_74.ch0 _cw_79).ch _cw_85 (fun hm => by have _h1 := mem_rg hm; omega)).ch0 _cw_89).ch0 _cw_102).ch0 _cw_103).ch0 _cw_104).ch _cw_105 (fun hm => by have _h1 := List.mem_singleton.1 hm; omega))
                refine WL_step rfl rfl (r_loadAtA0 _f_109.at_ agg28 sz28 rfl) ?_
                refine WL_s rfl rfl ?_
                have _f_110 := ((_q_u81_0x1.ch0 _cw_104).ch _cw_105 (fun g hg hm => by have _h0 := List.mem_singleton.1 hm; have _h2 := _lo_u81_0x1 _ hg; have _h3 := _hiu81_0x1 _ hg; omega))
                have _f_111 := ((rg_vs81_0x1.ch0 _cw_104).ch _cw_105 (fun i hi => by have _h1 := List.mem_singleton.1 hi; omega))
                have _f_112 := (((((((_f_77.ch0 _cw_79).ch _cw_85 (fun g hg hm => by have _h0 := mem_rg hm; have _h1 := _lo_u25_0x1 _ hg; have _h2 := _hiu25_0x1 _ hg; omega)).ch0 _cw_89).ch0 _cw_102).ch0 _cw_103).ch0 _cw_104).ch _cw_105 (fun g hg hm => by have _h0 := List.mem_singleton.1 hm; have _h2 := _lo_u25_0x1 _ hg; have _h3 := _hiu25_0x1 _ hg; omega))
                have _f_113 := (((((((_f_78.ch0 _cw_79).ch _cw_85 (fun i hm => by have _h1 := mem_rg hm; omega)).ch0 _cw_89).ch0 _cw_102).ch0 _cw_103).ch0 _cw_104).ch _cw_105 (fun i hi => by have _h1 := List.mem_singleton.1 hi; omega))
                refine Step.call (r_call (xs := [.tmp 84, .tmp 85]) fk13 rfl) (c_laws_eqHistory _ _f_110.ls _f_111.rdg _ _f_112.ls _f_113.rdg ) fun _v86 _w_114 _q86 => ?_
                obtain ⟨rfl, _cw_114⟩ := _q86
                have _cw_114z := _cw_114.size
                have E := E.trans _cw_114
                refine WL_step rfl rfl (r_not rfl) ?_
                refine WL_step rfl rfl (r_move rfl) ?_
                refine WL_splitF (d := 88) rfl _kb_44 ?_
                refine WL_step rfl rfl (r_move rfl) ?_
                refine WL_step rfl rfl (r_move rfl) ?_
                refine WL_step rfl rfl (r_neqB un4 rfl rfl) ?_
                refine WL_step rfl rfl (r_pickF rfl rfl) ?_
                refine WL_nil ?_
                refine thn_nrm (_hK_108 _ _ ?_)
                clear _hK_108
                refine W_condFk rfl _kb_46 ?_
                refine W_skip ?_
                refine thn_nrm (_hK_107 _ _ ?_)
                clear _hK_107
                refine W_seq fun _K_115 _hK_115 => ?_
                refine W_region ?_
                refine WL_step rfl rfl (r_assign rfl) ?_
                refine WL_nil ?_
                refine thn_nrm (_hK_115 _ _ ?_)
                clear _hK_115
                refine W_seq fun _K_116 _hK_116 => ?_
                refine W_region ?_
                have _f_117 := ((((((_f_88.ch0 _cw_89).ch0 _cw_102).ch0 _cw_103).ch0 _cw_104).ch _cw_105 (fun hm => by have _h1 := List.mem_singleton.1 hm; omega)).ch0 _cw_114)
                refine WL_step rfl rfl (r_loadAtA0 _f_117.at_ agg28 sz28 rfl) ?_
                refine WL_step rfl rfl (r_move rfl) ?_
                refine WL_s rfl rfl ?_
                have _f_118 := ((((((rq68.ch0 _cw_89).ch0 _cw_102).ch0 _cw_103).ch0 _cw_104).ch _cw_105 (fun g hg hm => by have _h0 := List.mem_singleton.1 hm; have _h2 := _lo_u33_0x1 _ hg; have _h3 := _hiu33_0x1 _ hg; omega)).ch0 _cw_114)
                have _f_119 := ((((((_q68.ch0 _cw_89).ch0 _cw_102).ch0 _cw_103).ch0 _cw_104).ch _cw_105 (fun i hi => by have _h1 := List.mem_singleton.1 hi; omega)).ch0 _cw_114)
                refine Step.call (r_call (xs := [.tmp 93, .tmp 94]) fk15 rfl) (c_laws_heldHistory _ _f_118.ls _f_119.rdg _ (by omega) (by rw [gsize_mk]; omega)) fun _v95 _w_120 _q95 => ?_
                obtain ⟨rfl, _cw_120⟩ := _q95
                have _cw_120z := _cw_120.size
                have E := E.trans _cw_120
                refine WL_step rfl rfl (r_assign rfl) ?_
                refine WL_nil ?_
                refine thn_nrm (_hK_116 _ _ ?_)
                clear _hK_116
                refine W_seq fun _K_121 _hK_121 => ?_
                refine W_seq fun _K_122 _hK_122 => ?_
                refine W_region ?_
                refine WL_step rfl rfl (r_move rfl) ?_
                refine WL_step rfl rfl (r_lss rfl rfl) ?_
                refine WL_nil ?_
                refine thn_nrm (_hK_122 _ _ ?_)
                clear _hK_122
                refine W_condFk rfl _kb_92 ?_
                refine W_skip ?_
                refine thn_nrm (_hK_121 _ _ ?_)
                clear _hK_121
                refine W_seq fun _K_123 _hK_123 => ?_
                refine W_seq fun _K_124 _hK_124 => ?_
                refine W_region ?_
                refine WL_step rfl rfl (r_move rfl) ?_
                refine WL_step rfl rfl (r_move rfl) ?_
                refine WL_step rfl rfl (r_neq rfl rfl) ?_
                refine WL_nil ?_
                refine thn_nrm (_hK_124 _ _ ?_)
                clear _hK_124
                refine W_condFk rfl _kb_96 ?_
                refine W_skip ?_
                refine thn_nrm (_hK_123 _ _ ?_)
                clear _hK_123
                refine W_seq fun _K_125 _hK_125 => ?_
                refine W_region ?_
                refine WL_step rfl rfl (r_assign rfl) ?_
                refine WL_nil ?_
                refine thn_nrm (_hK_125 _ _ ?_)
                clear _hK_125
                refine W_ret ?_
                exact ret_intro [_] ⟨rfl, trivial⟩ ⟨congrArg Value.bool (by first | rfl | (exfalso; omega) | (exfalso; revert _h76; simp; done) | (exfalso; revert _h76; simp; omega)), E⟩

end Go.Proofs.Ytnboedkdnnlgnaa
