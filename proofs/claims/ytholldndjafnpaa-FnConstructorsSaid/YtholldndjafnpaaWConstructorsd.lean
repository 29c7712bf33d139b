/- Walks of functions that FnConstructors reaches: what each returns, and that it leaves the memory that was there alone. -/
import Derived.Test.YtholldndjafnpaaLibA
import Derived.Test.YtholldndjafnpaaLibB
import Derived.Test.YtholldndjafnpaaWConstructors
import Derived.Test.YtholldndjafnpaaWConstructorsb
import Derived.Test.YtholldndjafnpaaWConstructorsc
import Derived.Test.YtholldndjafnpaaProg
namespace Go.Proofs.Ytholldndjafnpaa
open Go.KLib Go.Shelf
set_option maxHeartbeats 1000000
set_option maxRecDepth 20000
set_option linter.unusedVariables false
set_option linter.unusedSimpArgs false
namespace TConstructorsd
theorem agg126 : aggB Try.prog 126 = some true := by kernel_rfl
theorem agg194 : aggB Try.prog 194 = some false := by kernel_rfl
theorem agg24 : aggB Try.prog 24 = some false := by kernel_rfl
theorem agg3 : aggB Try.prog 3 = some false := by kernel_rfl
theorem agg4 : aggB Try.prog 4 = some false := by kernel_rfl
theorem agg65 : aggB Try.prog 65 = some false := by kernel_rfl
theorem agg67 : aggB Try.prog 67 = some true := by kernel_rfl
theorem by126 : bytesB Try.prog 126 = some 32 := by kernel_rfl
theorem by194 : bytesB Try.prog 194 = some 24 := by kernel_rfl
theorem el194 : elB Try.prog 194 = some 24 := by kernel_rfl
theorem el196 : elB Try.prog 196 = some 194 := by kernel_rfl
theorem el24 : elB Try.prog 24 = some 4 := by kernel_rfl
theorem el30 : elB Try.prog 30 = some 3 := by kernel_rfl
theorem el65 : elB Try.prog 65 = some 126 := by kernel_rfl
theorem fa126_0 : faB Try.prog 126 0 = some 0 := by kernel_rfl
theorem fa126_1 : faB Try.prog 126 1 = some 1 := by kernel_rfl
theorem fa126_2 : faB Try.prog 126 2 = some 2 := by kernel_rfl
theorem fa126_3 : faB Try.prog 126 3 = some 3 := by kernel_rfl
theorem fa67_0 : faB Try.prog 67 0 = some 0 := by kernel_rfl
theorem fk117 : fnB Try.prog 117 = true := by kernel_rfl
theorem fk118 : fnB Try.prog 118 = true := by kernel_rfl
theorem fk119 : fnB Try.prog 119 = true := by kernel_rfl
theorem fk120 : fnB Try.prog 120 = true := by kernel_rfl
theorem fk121 : fnB Try.prog 121 = true := by kernel_rfl
theorem fk124 : fnB Try.prog 124 = true := by kernel_rfl
theorem fk131 : fnB Try.prog 131 = true := by kernel_rfl
theorem fk173 : fnB Try.prog 173 = true := by kernel_rfl
theorem fk176 : fnB Try.prog 176 = true := by kernel_rfl
theorem fk180 : fnB Try.prog 180 = true := by kernel_rfl
theorem fk181 : fnB Try.prog 181 = true := by kernel_rfl
theorem fk182 : fnB Try.prog 182 = true := by kernel_rfl
theorem fk183 : fnB Try.prog 183 = true := by kernel_rfl
theorem fk48 : fnB Try.prog 48 = true := by kernel_rfl
theorem fk52 : fnB Try.prog 52 = true := by kernel_rfl
theorem fk57 : fnB Try.prog 57 = true := by kernel_rfl
theorem mixed : Try.prog.follows .mixedOrders = true := by kernel_rfl
theorem pl126 : placesB Try.prog 126 = some [(0, 1), (1, 1), (2, 1), (3, 1)] := by kernel_rfl
theorem sz126 : sizeB Try.prog 126 = some 4 := by kernel_rfl
theorem sz194 : sizeB Try.prog 194 = some 1 := by kernel_rfl
theorem sz24 : sizeB Try.prog 24 = some 1 := by kernel_rfl
theorem sz3 : sizeB Try.prog 3 = some 1 := by kernel_rfl
theorem sz4 : sizeB Try.prog 4 = some 1 := by kernel_rfl
theorem sz65 : sizeB Try.prog 65 = some 1 := by kernel_rfl
theorem sz67 : sizeB Try.prog 67 = some 1 := by kernel_rfl
theorem zr126 : zeroB Try.prog 126 = some (.agg #[.int .i64 0, .int .i64 0, .int .i64 0, .int .i64 0]) := by kernel_rfl
theorem zr194 : zeroB Try.prog 194 = some (.slice none 0 0) := by kernel_rfl
theorem zr67 : zeroB Try.prog 67 = some (.agg #[.slice none 0 0]) := by kernel_rfl
end TConstructorsd
open TConstructorsd

/-- spec.l9Either -/
theorem c_spec_l9Either {w : World} {LL_sa _B_sa : Nat} {_v_sa : Value} {sa : List Sv} (_h_sa : Ls Sv.cs 1 w LL_sa _B_sa _v_sa sa) {LR_a BB_a : Nat} {a : List (List Bool)} (_rd_a : Rd bcs 1 w LR_a BB_a sa a) {LL_sb _B_sb : Nat} {_v_sb : Value} {sb : List Sv} (_h_sb : Ls Sv.cs 1 w LL_sb _B_sb _v_sb sb) {LR_b BB_b : Nat} {b : List (List Bool)} (_rd_b : Rd bcs 1 w LR_b BB_b sb b) (n : Nat) (A : Nat → Nat → Bool) (B : Nat → Nat → Bool) (ha : a = grd n A) (hb : b = grd n B) (ta : Tri A) (tb : Tri B) (hn : n ≤ 4097) :
    Ctr Try.prog 182 #[_v_sa, _v_sb] w (fun v w' => ∃ (_u0 : Value) (vs0 : List Sv), v = _u0 ∧ Ol Sv.cs 24 1 w' _u0 vs0 ∧ Lo w.heap.size _u0 ∧ Od bcs 4 1 w' w.heap.size w'.heap.size vs0 (grd n (oeM A B)) ∧ Sep _u0 vs0 ∧ Ch [] w w') := by
  obtain ⟨_A_sa, _C_sa, _e1_sa⟩ := _h_sa.val
  subst _e1_sa
  have _l_sa := _h_sa.len
  have _h_sa := _h_sa.here (by decide)
  have _rd_a := _rd_a.here (by decide)
  have _rl_a := _rd_a.1
  obtain ⟨_A_sb, _C_sb, _e1_sb⟩ := _h_sb.val
  subst _e1_sb
  have _l_sb := _h_sb.len
  have _h_sb := _h_sb.here (by decide)
  have _rd_b := _rd_b.here (by decide)
  have _rl_b := _rd_b.1
  have E := Ch.refl [] w
  have _ln9 : sa.length = n := (by rw [_rl_a, ha, grd_len]); have _ln8 : sb.length = n := (by rw [_rl_b, hb, grd_len])
  refine Ctr_of_W (N := 47) (vs0 := [(.slice _A_sa sa.length _C_sa), (.slice _A_sb sb.length _C_sb)]) Try.func182 rfl rfl rfl ?_
  refine W_seq fun _K_1 _hK_1 => ?_
  refine W_region ?_
  refine WL_step rfl rfl (r_assign rfl) ?_
  refine WL_nil ?_
  refine thn_nrm (_hK_1 _ _ ?_)
  clear _hK_1
  refine W_seq fun _K_2 _hK_2 => ?_
  refine W_region ?_
  refine WL_step rfl rfl (r_move rfl) ?_
  refine WL_step rfl rfl (r_len (by rw [el194]; rfl) rfl) ?_
  refine WL_s rfl rfl ?_
  refine Step.call (r_call (xs := [.tmp 9, .const (Go.Value.bool false)]) fk180 rfl) (c_spec_l9Grid sa.length _ (by omega)) fun _v10 _w_3 _q10 => ?_
  obtain ⟨u10_0, _vs10_0, rfl, _q_u10_0, _lo_u10_0, _od_vs10_0, _sep_vs10_0, _cw_3⟩ := _q10
  have _cw_3z := _cw_3.size
  have E := E.trans _cw_3
  obtain ⟨Au10_0, Cu10_0, eu10_0⟩ := _q_u10_0.val
  subst eu10_0
  have lu10_0 := _q_u10_0.len
  have _hiu10_0 := _q_u10_0.lt
  refine WL_step rfl rfl (r_assign rfl) ?_
  refine WL_nil ?_
  refine thn_nrm (_hK_2 _ _ ?_)
  clear _hK_2
  refine W_seq fun _K_4 _hK_4 => ?_
  refine W_seq fun _K_5 _hK_5 => ?_
  refine W_region ?_
  refine WL_step rfl rfl (r_assign rfl) ?_
  refine WL_nil ?_
  refine thn_nrm (_hK_5 _ _ ?_)
  clear _hK_5
  refine W_block ?_
  refine W_loop (σ := Nat) (fun (i : Nat) => [(0, (.slice _A_sa sa.length _C_sa)), (1, (.slice _A_sb sb.length _C_sb)), (4, (.slice none 0 0)), (5, (.slice Au10_0 (_vs10_0).length Cu10_0)), (6, (.int .i64 ((i : Nat) : Int)))]) (fun (i : Nat) wx => Ch [] w wx ∧ _w_3.heap.size ≤ wx.heap.size ∧ (i ≤ n) ∧ Ol Sv.cs 24 1 wx (.slice Au10_0 (_vs10_0).length Cu10_0) _vs10_0 ∧ Od bcs 4 1 wx w.heap.size _w_3.heap.size _vs10_0 (grd n (upt (oeM A B) i 0))) (fun (i : Nat) => n - i) 0 (Sub.cons rfl (Sub.cons rfl (Sub.cons rfl (Sub.cons rfl (Sub.cons rfl (Sub.nil _)))))) ⟨E, (Nat.le_refl _), (by omega), _q_u10_0, (_od_vs10_0.eq (by rw [_ln9]; exact upt_zero))⟩ ?_
  rintro i _wr_6 ⟨E, _zz0, hi, _F0_4, od⟩
  have _E0h := E
  have _E0hz := _E0h.size
  refine W_seq fun _K_7 _hK_7 => ?_
  refine W_seq fun _K_8 _hK_8 => ?_
  refine W_region ?_
  refine WL_step rfl rfl (r_move rfl) ?_
  refine WL_step rfl rfl (r_move rfl) ?_
  refine WL_step rfl rfl (r_len (by rw [el194]; rfl) rfl) ?_
  refine WL_step rfl rfl (r_lss rfl rfl) ?_
  refine WL_nil ?_
  refine thn_nrm (_hK_8 _ _ ?_)
  clear _hK_8
  refine W_cond rfl (fun _h14 => ?_) (fun _h14 => ?_)
  · have _kb_9 := _h14
    have _h14 := bt_d _h14
    refine W_skip ?_
    refine thn_nrm (_hK_7 _ _ ?_)
    clear _hK_7
    refine W_seq fun _K_10 _hK_10 => ?_
    refine W_block ?_
    refine W_seq fun _K_11 _hK_11 => ?_
    refine W_region ?_
    refine WL_step rfl rfl (r_move rfl) ?_
    refine WL_step rfl rfl (r_assign rfl) ?_
    refine WL_nil ?_
    refine thn_nrm (_hK_11 _ _ ?_)
    clear _hK_11
    refine W_block ?_
    refine W_loop (σ := Nat) (fun (j : Nat) => [(0, (.slice _A_sa sa.length _C_sa)), (1, (.slice _A_sb sb.length _C_sb)), (4, (.slice none 0 0)), (5, (.slice Au10_0 (_vs10_0).length Cu10_0)), (6, (.int .i64 ((i : Nat) : Int))), (7, (.int .i64 ((j : Nat) : Int))), (14, (.bool (decide (((i : Nat) : Int) < ((sa.length : Nat) : Int)))))]) (fun (j : Nat) wx => Ch [] w wx ∧ _wr_6.heap.size ≤ wx.heap.size ∧ (j ≤ n) ∧ Ol Sv.cs 24 1 wx (.slice Au10_0 (_vs10_0).length Cu10_0) _vs10_0 ∧ Od bcs 4 1 wx w.heap.size _w_3.heap.size _vs10_0 (grd n (upt (oeM A B) i j))) (fun (j : Nat) => n - j) i (Sub.cons rfl (Sub.cons rfl (Sub.cons rfl (Sub.cons rfl (Sub.cons rfl (Sub.cons rfl (Sub.cons rfl (Sub.nil _)))))))) ⟨E, (Nat.le_refl _), (by omega), _F0_4, (od.eq (upt_tri (ta.or tb)))⟩ ?_
    rintro j _wr_12 ⟨E, _zz1, hj, _F1_4, od⟩
    have _E1h := E
    have _E1hz := _E1h.size
    refine W_seq fun _K_13 _hK_13 => ?_
    refine W_seq fun _K_14 _hK_14 => ?_
    refine W_region ?_
    refine WL_step rfl rfl (r_move rfl) ?_
    refine WL_step rfl rfl (r_move rfl) ?_
    refine WL_step rfl rfl (r_len (by rw [el194]; rfl) rfl) ?_
    refine WL_step rfl rfl (r_lss rfl rfl) ?_
    refine WL_nil ?_
    refine thn_nrm (_hK_14 _ _ ?_)
    clear _hK_14
    refine W_cond rfl (fun _h21 => ?_) (fun _h21 => ?_)
    · have _kb_15 := _h21
      have _h21 := bt_d _h21
      refine W_skip ?_
      refine thn_nrm (_hK_13 _ _ ?_)
      clear _hK_13
      refine W_seq fun _K_16 _hK_16 => ?_
      refine W_block ?_
      have _ln924 := (od).1
      rw [grd_len] at _ln924
      obtain ⟨go924, hgo924, lso924⟩ := Ol.lsE _F1_4 (by omega)
      obtain ⟨_y924, _hy924⟩ := get_some (xs := _vs10_0) (j := i) (by omega)
      have _sm924 := _sep_vs10_0 _ (mem_of_get _hy924)
      obtain ⟨_ys924, _hys924, _fs924, _rs924⟩ := od.ownget _hy924
      obtain ⟨_A924, _n924, _C924⟩ := _y924
      obtain rfl := _fs924.ls.eqn
      have _l924 := _fs924.len
      have _lo924 : Lo w.heap.size (.slice _A924 _ys924.length _C924) := fun g hg => (_rs924 g hg).1
      have hi924 : ∀ g ∈ bl (.slice _A924 _ys924.length _C924), g < _w_3.heap.size := fun g hg => (_rs924 g hg).2
      replace _fs924 : Ol bcs 4 1 _wr_12 (.slice _A924 _ys924.length _C924) _ys924 := _fs924
      have rl924 := row_len rfl _hys924
      refine W_drawC (bl (.slice _A924 _ys924.length _C924)) 23 mixed rfl fun _w_17 _cw_17 => ?_
      have _cw_17z := _cw_17.size
      have E := E.trans _cw_17
      refine DR_s 0 rfl (by kernel_rfl) rfl rfl (t_v (fun _ => (r_move rfl)) ?_)
      refine DR_s 1 rfl (by kernel_rfl) rfl rfl (t_v (fun _ => (r_move rfl)) ?_)
      have _f_18 := (lso924.ch0 _cw_17)
      refine DR_s 2 rfl (by kernel_rfl) rfl rfl (t_index _f_18 Sv.len el194 sz24 rfl rfl rfl (by omega) fun _p26 _y26 _hy26 _a26 => ?_)
      obtain rfl := get_uniq _hy924 _hy26
      replace _a26 : At _w_17 go924 (go924 + 1) _p26 ([(.slice _A924 _ys924.length _C924)]) := _a26
      refine DR_s 3 rfl (by kernel_rfl) rfl rfl (t_loadAt0 _a26 (fun i hm => ne_blk (_sm924 i hm) hgo924) agg24 rfl rfl ?_)
      refine DR_s 4 rfl (by kernel_rfl) rfl rfl (t_v (fun _ => (r_move rfl)) ?_)
      refine DR_s 5 rfl (by kernel_rfl) rfl rfl (t_v (fun _ => (r_move rfl)) ?_)
      refine DR_s 6 rfl (by kernel_rfl) rfl rfl (t_v (fun _ => (r_move rfl)) ?_)
      have _f_19 := ((_h_sa.ch0 _E1h).ch0 _cw_17)
      have _f_20 := ((_rd_a.ch0 _E1h).ch0 _cw_17)
      refine DR_s 7 rfl (by kernel_rfl) rfl rfl (t_index _f_19 Sv.len el194 sz24 rfl rfl rfl (by omega) fun _p31 _y31 _hy31 _a31 => ?_)
      obtain ⟨_ys31, _hys31, _fs31⟩ := _f_20.get _hy31
      obtain ⟨_A31, _n31, _C31⟩ := _y31
      obtain rfl := _fs31.eqn
      have _l31 := _fs31.len
      replace _fs31 : Ls bcs 1 _w_17 LR_a w.heap.size (.slice _A31 _ys31.length _C31) _ys31 := _fs31
      replace _a31 : At _w_17 LL_sa w.heap.size _p31 ([(.slice _A31 _ys31.length _C31)]) := _a31
      have rl31 := row_len ha _hys31
      refine DR_s 8 rfl (by kernel_rfl) rfl rfl (t_loadAt0 _a31 (fun i hm => by have _h1 := _lo924 _ hm; have _h2 := hi924 _ hm; omega) agg24 rfl rfl ?_)
      refine DR_s 9 rfl (by kernel_rfl) rfl rfl (t_v (fun _ => (r_move rfl)) ?_)
      refine DR_s 10 rfl (by kernel_rfl) rfl rfl (t_index _fs31 bcs_len el24 sz4 rfl rfl rfl (by omega) fun _p34 _y34 _hy34 _a34 => ?_)
      refine DR_s 11 rfl (by kernel_rfl) rfl rfl (t_loadAt0 _a34 (fun i hm => by have _h1 := _lo924 _ hm; have _h2 := hi924 _ hm; omega) agg4 rfl rfl ?_)
      refine DR_s 12 rfl (by kernel_rfl) rfl rfl (t_v (fun _ => (r_move rfl)) ?_)
      refine DR_split (d := 36) rfl (fun _h36 => ?_) (fun _h36 => ?_)
      · have _kb_21 := _h36
        refine DR_skip 13 rfl (by kernel_rfl) rfl rfl ?_
        refine DR_skip 14 rfl (by kernel_rfl) rfl rfl ?_
        refine DR_skip 15 rfl (by kernel_rfl) rfl rfl ?_
        refine DR_skip 16 rfl (by kernel_rfl) rfl rfl ?_
        refine DR_skip 17 rfl (by kernel_rfl) rfl rfl ?_
        refine DR_skip 18 rfl (by kernel_rfl) rfl rfl ?_
        refine DR_skip 19 rfl (by kernel_rfl) rfl rfl ?_
        refine DR_s 20 rfl (by kernel_rfl) rfl rfl (t_v (fun _ => (r_pickT rfl rfl)) ?_)
        refine DR_one 21 (by kernel_rfl) ?_
        refine DO_s rfl rfl rfl ?_
        have _f_22 := (_fs924.ch0 _cw_17)
        refine s_indexO (j := j) _f_22 el24 sz4 rfl rfl rfl (by omega) fun _g45 _o45 _cp45 _q45 => ?_
        refine ⟨(Ch.refl _ _), ?_⟩
        refine DR_one 22 (by kernel_rfl) ?_
        refine DO_s rfl rfl rfl ?_
        refine s_storeO (j := j) true _f_22 _q45 bcs_len sz4 rfl rfl rfl rfl (by omega) fun _w_23 _o_24 _cw_23 => ?_
        have _f_25 := (od.ch0 _cw_17)
        have _cw_23z := _cw_23.size
        have E := E.step _cw_23 (fun i hi => .inl (by have _h1 := _lo924 _ hi; omega))
        have _od_26 := Od.set _f_25 _hy924 _hys924 _cw_23 _o_24
        have _S_27 : Ch (bl (.slice _A924 _ys924.length _C924)) _w_17 _w_23 := ((Ch.refl _ _).step _cw_23 (fun i hm => by exact .inr hm))
        refine ⟨_S_27, ?_⟩
        refine DR_done (by kernel_rfl) ?_
        refine inB_nrm ?_
        refine thn_nrm (_hK_16 _ _ ?_)
        clear _hK_16
        refine W_region ?_
        refine WL_step rfl rfl (r_move rfl) ?_
        refine WL_step rfl rfl (r_add (by omega) rfl rfl) ?_
        refine WL_step rfl rfl (r_assign rfl) ?_
        refine WL_nil ?_
        have _f_28 := ((_F1_4.ch0 _cw_17).ch _cw_23 (fun g hg hm => by exact _sm924 _ hm hg))
        exact thn_nrm (Exists.intro (j + 1) ⟨⟨E, (by omega), (by omega), _f_28, (_od_26.eq (upt_step rfl _hys924 (by first | (have _e1 := grd_y ha _hys31 _hy34; simp [oeM, ← _e1, _h36]; done) | (have _e1 := grd_y ha _hys31 _hy34; have _e2 := grd_y hb _hys39 _hy42; simp [oeM, ← _e1, ← _e2, _h36]; done))))⟩, Sub.cons rfl (Sub.cons rfl (Sub.cons rfl (Sub.cons rfl (Sub.cons rfl (Sub.cons rfl (Sub.cons rfl (Sub.nil _))))))), (by first | omega | (dsimp only; omega))⟩)
      · have _kb_21 := _h36
        refine DR_s 13 rfl (by kernel_rfl) rfl rfl (t_v (fun _ => (r_move rfl)) ?_)
        refine DR_s 14 rfl (by kernel_rfl) rfl rfl (t_v (fun _ => (r_move rfl)) ?_)
        have _f_29 := ((_h_sb.ch0 _E1h).ch0 _cw_17)
        have _f_30 := ((_rd_b.ch0 _E1h).ch0 _cw_17)
        refine DR_s 15 rfl (by kernel_rfl) rfl rfl (t_index _f_29 Sv.len el194 sz24 rfl rfl rfl (by omega) fun _p39 _y39 _hy39 _a39 => ?_)
        obtain ⟨_ys39, _hys39, _fs39⟩ := _f_30.get _hy39
        obtain ⟨_A39, _n39, _C39⟩ := _y39
        obtain rfl := _fs39.eqn
        have _l39 := _fs39.len
        replace _fs39 : Ls bcs 1 _w_17 LR_b w.heap.size (.slice _A39 _ys39.length _C39) _ys39 := _fs39
        replace _a39 : At _w_17 LL_sb w.heap.size _p39 ([(.slice _A39 _ys39.length _C39)]) := _a39
        have rl39 := row_len hb _hys39
        refine DR_s 16 rfl (by kernel_rfl) rfl rfl (t_loadAt0 _a39 (fun i hm => by have _h1 := _lo924 _ hm; have _h2 := hi924 _ hm; omega) agg24 rfl rfl ?_)
        refine DR_s 17 rfl (by kernel_rfl) rfl rfl (t_v (fun _ => (r_move rfl)) ?_)
        refine DR_s 18 rfl (by kernel_rfl) rfl rfl (t_index _fs39 bcs_len el24 sz4 rfl rfl rfl (by omega) fun _p42 _y42 _hy42 _a42 => ?_)
        refine DR_s 19 rfl (by kernel_rfl) rfl rfl (t_loadAt0 _a42 (fun i hm => by have _h1 := _lo924 _ hm; have _h2 := hi924 _ hm; omega) agg4 rfl rfl ?_)
        refine DR_s 20 rfl (by kernel_rfl) rfl rfl (t_v (fun _ => (r_pickF rfl rfl)) ?_)
        refine DR_one 21 (by kernel_rfl) ?_
        refine DO_s rfl rfl rfl ?_
        have _f_31 := (_fs924.ch0 _cw_17)
        refine s_indexO (j := j) _f_31 el24 sz4 rfl rfl rfl (by omega) fun _g45 _o45 _cp45 _q45 => ?_
        refine ⟨(Ch.refl _ _), ?_⟩
        refine DR_one 22 (by kernel_rfl) ?_
        refine DO_s rfl rfl rfl ?_
        refine s_storeO (j := j) _y42 _f_31 _q45 bcs_len sz4 rfl rfl rfl rfl (by omega) fun _w_32 _o_33 _cw_32 => ?_
        have _f_34 := (od.ch0 _cw_17)
        have _cw_32z := _cw_32.size
        have E := E.step _cw_32 (fun i hi => .inl (by have _h1 := _lo924 _ hi; omega))
        have _od_35 := Od.set _f_34 _hy924 _hys924 _cw_32 _o_33
        have _S_36 : Ch (bl (.slice _A924 _ys924.length _C924)) _w_17 _w_32 := ((Ch.refl _ _).step _cw_32 (fun i hm => by exact .inr hm))
        refine ⟨_S_36, ?_⟩
        refine DR_done (by kernel_rfl) ?_
        refine inB_nrm ?_
        refine thn_nrm (_hK_16 _ _ ?_)
        clear _hK_16
        refine W_region ?_
        refine WL_step rfl rfl (r_move rfl) ?_
        refine WL_step rfl rfl (r_add (by omega) rfl rfl) ?_
        refine WL_step rfl rfl (r_assign rfl) ?_
        refine WL_nil ?_
        have _f_37 := ((_F1_4.ch0 _cw_17).ch _cw_32 (fun g hg hm => by exact _sm924 _ hm hg))
        exact thn_nrm (Exists.intro (j + 1) ⟨⟨E, (by omega), (by omega), _f_37, (_od_35.eq (upt_step rfl _hys924 (by first | (have _e1 := grd_y ha _hys31 _hy34; simp [oeM, ← _e1, _h36]; done) | (have _e1 := grd_y ha _hys31 _hy34; have _e2 := grd_y hb _hys39 _hy42; simp [oeM, ← _e1, ← _e2, _h36]; done))))⟩, Sub.cons rfl (Sub.cons rfl (Sub.cons rfl (Sub.cons rfl (Sub.cons rfl (Sub.cons rfl (Sub.cons rfl (Sub.nil _))))))), (by first | omega | (dsimp only; omega))⟩)
    · have _kb_15 := _h21
      have _h21 := bf_d _h21
      refine W_exit (thn_exit (thn_exit (inB_hit ?_)))
      refine inB_nrm ?_
      refine thn_nrm (_hK_10 _ _ ?_)
      clear _hK_10
      refine W_region ?_
      refine WL_step rfl rfl (r_move rfl) ?_
      refine WL_step rfl rfl (r_add (by omega) rfl rfl) ?_
      refine WL_step rfl rfl (r_assign rfl) ?_
      refine WL_nil ?_
      exact thn_nrm (Exists.intro (i + 1) ⟨⟨E, (by omega), (by omega), _F1_4, (od.eq (upt_row (by omega)))⟩, Sub.cons rfl (Sub.cons rfl (Sub.cons rfl (Sub.cons rfl (Sub.cons rfl (Sub.nil _))))), (by first | omega | (dsimp only; omega))⟩)
  · have _kb_9 := _h14
    have _h14 := bf_d _h14
    refine W_exit (thn_exit (thn_exit (inB_hit ?_)))
    refine thn_nrm (_hK_4 _ _ ?_)
    clear _hK_4
    refine W_seq fun _K_38 _hK_38 => ?_
    refine W_region ?_
    refine WL_step rfl rfl (r_move rfl) ?_
    refine WL_step rfl rfl (r_assign rfl) ?_
    refine WL_nil ?_
    refine thn_nrm (_hK_38 _ _ ?_)
    clear _hK_38
    refine W_ret ?_
    clear _hK_7
    have _o_39 : Ol Sv.cs 24 1 _wr_6 (.slice Au10_0 (_vs10_0).length Cu10_0) _vs10_0 := by
      have hx := _F0_4
      exact hx
    have _o_40 : Od bcs 4 1 _wr_6 w.heap.size _wr_6.heap.size _vs10_0 (grd n (oeM A B)) := by
      have hx := od.up (lo' := w.heap.size) (hi' := _wr_6.heap.size) (by omega) (by omega)
      rwa [upt_all (by omega)] at hx
    exact ret_intro [_] ⟨rfl, trivial⟩ ⟨(.slice Au10_0 (_vs10_0).length Cu10_0), _vs10_0, rfl, _o_39, (Lo.down _lo_u10_0 (by omega)), _o_40, _sep_vs10_0, E⟩

/-- spec.l9Joined -/
theorem c_spec_l9Joined {w : World} {LL_sa _B_sa : Nat} {_v_sa : Value} {sa : List Sv} (_h_sa : Ls Sv.cs 1 w LL_sa _B_sa _v_sa sa) {LR_a BB_a : Nat} {a : List (List Bool)} (_rd_a : Rd bcs 1 w LR_a BB_a sa a) {LL_sb _B_sb : Nat} {_v_sb : Value} {sb : List Sv} (_h_sb : Ls Sv.cs 1 w LL_sb _B_sb _v_sb sb) {LR_b BB_b : Nat} {b : List (List Bool)} (_rd_b : Rd bcs 1 w LR_b BB_b sb b) (n : Nat) (A : Nat → Nat → Bool) (B : Nat → Nat → Bool) (ha : a = grd n A) (hb : b = grd n B) (ta : Tri A) (tb : Tri B) (hn : n ≤ 4097) :
    Ctr Try.prog 181 #[_v_sa, _v_sb] w (fun v w' => ∃ (_u0 : Value) (vs0 : List Sv), v = _u0 ∧ Ol Sv.cs 24 1 w' _u0 vs0 ∧ Lo w.heap.size _u0 ∧ Od bcs 4 1 w' w.heap.size w'.heap.size vs0 (grd n (mulM n A B)) ∧ Sep _u0 vs0 ∧ Ch [] w w') := by
  obtain ⟨_A_sa, _C_sa, _e1_sa⟩ := _h_sa.val
  subst _e1_sa
  have _l_sa := _h_sa.len
  have _h_sa := _h_sa.here (by decide)
  have _rd_a := _rd_a.here (by decide)
  have _rl_a := _rd_a.1
  obtain ⟨_A_sb, _C_sb, _e1_sb⟩ := _h_sb.val
  subst _e1_sb
  have _l_sb := _h_sb.len
  have _h_sb := _h_sb.here (by decide)
  have _rd_b := _rd_b.here (by decide)
  have _rl_b := _rd_b.1
  have E := Ch.refl [] w
  have _ln9 : sa.length = n := (by rw [_rl_a, ha, grd_len]); have _ln8 : sb.length = n := (by rw [_rl_b, hb, grd_len])
  refine Ctr_of_W (N := 64) (vs0 := [(.slice _A_sa sa.length _C_sa), (.slice _A_sb sb.length _C_sb)]) Try.func181 rfl rfl rfl ?_
  refine W_seq fun _K_1 _hK_1 => ?_
  refine W_region ?_
  refine WL_step rfl rfl (r_assign rfl) ?_
  refine WL_nil ?_
  refine thn_nrm (_hK_1 _ _ ?_)
  clear _hK_1
  refine W_seq fun _K_2 _hK_2 => ?_
  refine W_region ?_
  refine WL_step rfl rfl (r_move rfl) ?_
  refine WL_step rfl rfl (r_len (by rw [el194]; rfl) rfl) ?_
  refine WL_s rfl rfl ?_
  refine Step.call (r_call (xs := [.tmp 10, .const (Go.Value.bool false)]) fk180 rfl) (c_spec_l9Grid sa.length _ (by omega)) fun _v11 _w_3 _q11 => ?_
  obtain ⟨u11_0, _vs11_0, rfl, _q_u11_0, _lo_u11_0, _od_vs11_0, _sep_vs11_0, _cw_3⟩ := _q11
  have _cw_3z := _cw_3.size
  have E := E.trans _cw_3
  obtain ⟨Au11_0, Cu11_0, eu11_0⟩ := _q_u11_0.val
  subst eu11_0
  have lu11_0 := _q_u11_0.len
  have _hiu11_0 := _q_u11_0.lt
  refine WL_step rfl rfl (r_assign rfl) ?_
  refine WL_nil ?_
  refine thn_nrm (_hK_2 _ _ ?_)
  clear _hK_2
  refine W_seq fun _K_4 _hK_4 => ?_
  refine W_seq fun _K_5 _hK_5 => ?_
  refine W_region ?_
  refine WL_step rfl rfl (r_assign rfl) ?_
  refine WL_nil ?_
  refine thn_nrm (_hK_5 _ _ ?_)
  clear _hK_5
  refine W_block ?_
  refine W_loop (σ := Nat) (fun (i : Nat) => [(0, (.slice _A_sa sa.length _C_sa)), (1, (.slice _A_sb sb.length _C_sb)), (4, (.slice none 0 0)), (5, (.slice Au11_0 (_vs11_0).length Cu11_0)), (6, (.int .i64 ((i : Nat) : Int)))]) (fun (i : Nat) wx => Ch [] w wx ∧ _w_3.heap.size ≤ wx.heap.size ∧ (i ≤ n) ∧ Ol Sv.cs 24 1 wx (.slice Au11_0 (_vs11_0).length Cu11_0) _vs11_0 ∧ Od bcs 4 1 wx w.heap.size _w_3.heap.size _vs11_0 (grd n (mupt n A B i 0 0))) (fun (i : Nat) => n - i) 0 (Sub.cons rfl (Sub.cons rfl (Sub.cons rfl (Sub.cons rfl (Sub.cons rfl (Sub.nil _)))))) ⟨E, (Nat.le_refl _), (by omega), _q_u11_0, (_od_vs11_0.eq (by rw [_ln9]; exact mupt_zero))⟩ ?_
  rintro i _wr_6 ⟨E, _zz0, hi, _F0_4, od⟩
  have _E0h := E
  have _E0hz := _E0h.size
  refine W_seq fun _K_7 _hK_7 => ?_
  refine W_seq fun _K_8 _hK_8 => ?_
  refine W_region ?_
  refine WL_step rfl rfl (r_move rfl) ?_
  refine WL_step rfl rfl (r_move rfl) ?_
  refine WL_step rfl rfl (r_len (by rw [el194]; rfl) rfl) ?_
  refine WL_step rfl rfl (r_lss rfl rfl) ?_
  refine WL_nil ?_
  refine thn_nrm (_hK_8 _ _ ?_)
  clear _hK_8
  refine W_cond rfl (fun _h15 => ?_) (fun _h15 => ?_)
  · have _kb_9 := _h15
    have _h15 := bt_d _h15
    refine W_skip ?_
    refine thn_nrm (_hK_7 _ _ ?_)
    clear _hK_7
    refine W_seq fun _K_10 _hK_10 => ?_
    refine W_block ?_
    refine W_seq fun _K_11 _hK_11 => ?_
    refine W_region ?_
    refine WL_step rfl rfl (r_move rfl) ?_
    refine WL_step rfl rfl (r_assign rfl) ?_
    refine WL_nil ?_
    refine thn_nrm (_hK_11 _ _ ?_)
    clear _hK_11
    refine W_block ?_
    refine W_loop (σ := Nat) (fun (k : Nat) => [(0, (.slice _A_sa sa.length _C_sa)), (1, (.slice _A_sb sb.length _C_sb)), (4, (.slice none 0 0)), (5, (.slice Au11_0 (_vs11_0).length Cu11_0)), (6, (.int .i64 ((i : Nat) : Int))), (7, (.int .i64 ((k : Nat) : Int))), (15, (.bool (decide (((i : Nat) : Int) < ((sa.length : Nat) : Int)))))]) (fun (k : Nat) wx => Ch [] w wx ∧ _wr_6.heap.size ≤ wx.heap.size ∧ (k ≤ n) ∧ Ol Sv.cs 24 1 wx (.slice Au11_0 (_vs11_0).length Cu11_0) _vs11_0 ∧ Od bcs 4 1 wx w.heap.size _w_3.heap.size _vs11_0 (grd n (mupt n A B i k 0))) (fun (k : Nat) => n - k) i (Sub.cons rfl (Sub.cons rfl (Sub.cons rfl (Sub.cons rfl (Sub.cons rfl (Sub.cons rfl (Sub.cons rfl (Sub.nil _)))))))) ⟨E, (Nat.le_refl _), (by omega), _F0_4, (od.eq (mupt_triA ta))⟩ ?_
    rintro k _wr_12 ⟨E, _zz1, _hk, _F1_4, od⟩
    have _E1h := E
    have _E1hz := _E1h.size
    refine W_seq fun _K_13 _hK_13 => ?_
    refine W_seq fun _K_14 _hK_14 => ?_
    refine W_region ?_
    refine WL_step rfl rfl (r_move rfl) ?_
    refine WL_step rfl rfl (r_move rfl) ?_
    refine WL_step rfl rfl (r_len (by rw [el194]; rfl) rfl) ?_
    refine WL_step rfl rfl (r_lss rfl rfl) ?_
    refine WL_nil ?_
    refine thn_nrm (_hK_14 _ _ ?_)
    clear _hK_14
    refine W_cond rfl (fun _h22 => ?_) (fun _h22 => ?_)
    · have _kb_15 := _h22
      have _h22 := bt_d _h22
      refine W_skip ?_
      refine thn_nrm (_hK_13 _ _ ?_)
      clear _hK_13
      refine W_seq fun _K_16 _hK_16 => ?_
      refine W_block ?_
      refine W_seq fun _K_17 _hK_17 => ?_
      refine W_region ?_
      refine WL_step rfl rfl (r_move rfl) ?_
      refine WL_step rfl rfl (r_assign rfl) ?_
      refine WL_nil ?_
      refine thn_nrm (_hK_17 _ _ ?_)
      clear _hK_17
      refine W_block ?_
      refine W_loop (σ := Nat) (fun (j : Nat) => [(0, (.slice _A_sa sa.length _C_sa)), (1, (.slice _A_sb sb.length _C_sb)), (4, (.slice none 0 0)), (5, (.slice Au11_0 (_vs11_0).length Cu11_0)), (6, (.int .i64 ((i : Nat) : Int))), (7, (.int .i64 ((k : Nat) : Int))), (8, (.int .i64 ((j : Nat) : Int))), (15, (.bool (decide (((i : Nat) : Int) < ((sa.length : Nat) : Int))))), (22, (.bool (decide (((k : Nat) : Int) < ((sa.length : Nat) : Int)))))]) (fun (j : Nat) wx => Ch [] w wx ∧ _wr_12.heap.size ≤ wx.heap.size ∧ (j ≤ n) ∧ Ol Sv.cs 24 1 wx (.slice Au11_0 (_vs11_0).length Cu11_0) _vs11_0 ∧ Od bcs 4 1 wx w.heap.size _w_3.heap.size _vs11_0 (grd n (mupt n A B i k j))) (fun (j : Nat) => n - j) k (Sub.cons rfl (Sub.cons rfl (Sub.cons rfl (Sub.cons rfl (Sub.cons rfl (Sub.cons rfl (Sub.cons rfl (Sub.cons rfl (Sub.cons rfl (Sub.nil _)))))))))) ⟨E, (Nat.le_refl _), (by omega), _F1_4, (od.eq (mupt_triB tb))⟩ ?_
      rintro j _wr_18 ⟨E, _zz2, hj, _F2_4, od⟩
      have _E2h := E
      have _E2hz := _E2h.size
      refine W_seq fun _K_19 _hK_19 => ?_
      refine W_seq fun _K_20 _hK_20 => ?_
      refine W_region ?_
      refine WL_step rfl rfl (r_move rfl) ?_
      refine WL_step rfl rfl (r_move rfl) ?_
      refine WL_step rfl rfl (r_len (by rw [el194]; rfl) rfl) ?_
      refine WL_step rfl rfl (r_lss rfl rfl) ?_
      refine WL_step rfl rfl (r_move rfl) ?_
      refine WL_split (d := 30) rfl (fun _h30 => ?_) (fun _h30 => ?_)
      · have _kb_21 := _h30
        have _h30 := bt_d _h30
        refine WL_step rfl rfl (r_move rfl) ?_
        refine WL_step rfl rfl (r_move rfl) ?_
        refine WL_s rfl rfl ?_
        have _f_22 := (_h_sa.ch0 _E2h)
        refine (s_index _f_22 Sv.len el194 sz24 rfl rfl rfl (by omega) fun _p33 _y33 _hy33 _a33 => ?_)
        have _f_23 := (_rd_a.ch0 _E2h)
        obtain ⟨_ys33, _hys33, _fs33⟩ := _f_23.get _hy33
        obtain ⟨_A33, _n33, _C33⟩ := _y33
        obtain rfl := _fs33.eqn
        have _l33 := _fs33.len
        replace _fs33 : Ls bcs 1 _wr_18 LR_a w.heap.size (.slice _A33 _ys33.length _C33) _ys33 := _fs33
        replace _a33 : At _wr_18 LL_sa w.heap.size _p33 ([(.slice _A33 _ys33.length _C33)]) := _a33
        have rl33 := row_len ha _hys33
        refine WL_step rfl rfl (r_loadAt0 _a33 agg24 rfl rfl) ?_
        refine WL_step rfl rfl (r_move rfl) ?_
        refine WL_s rfl rfl ?_
        refine (s_index _fs33 bcs_len el24 sz4 rfl rfl rfl (by omega) fun _p36 _y36 _hy36 _a36 => ?_)
        have _e36 := grd_y ha _hys33 _hy36
        refine WL_step rfl rfl (r_loadAt0 _a36 agg4 rfl rfl) ?_
        refine WL_step rfl rfl (r_pickT rfl rfl) ?_
        refine WL_nil ?_
        refine thn_nrm (_hK_20 _ _ ?_)
        clear _hK_20
        refine W_cond rfl (fun _h38 => ?_) (fun _h38 => ?_)
        · have _kb_24 := _h38
          refine W_skip ?_
          refine thn_nrm (_hK_19 _ _ ?_)
          clear _hK_19
          refine W_seq fun _K_25 _hK_25 => ?_
          refine W_block ?_
          have _ln941 := (od).1
          rw [grd_len] at _ln941
          obtain ⟨go941, hgo941, lso941⟩ := Ol.lsE _F2_4 (by omega)
          obtain ⟨_y941, _hy941⟩ := get_some (xs := _vs11_0) (j := i) (by omega)
          have _sm941 := _sep_vs11_0 _ (mem_of_get _hy941)
          obtain ⟨_ys941, _hys941, _fs941, _rs941⟩ := od.ownget _hy941
          obtain ⟨_A941, _n941, _C941⟩ := _y941
          obtain rfl := _fs941.ls.eqn
          have _l941 := _fs941.len
          have _lo941 : Lo w.heap.size (.slice _A941 _ys941.length _C941) := fun g hg => (_rs941 g hg).1
          have hi941 : ∀ g ∈ bl (.slice _A941 _ys941.length _C941), g < _w_3.heap.size := fun g hg => (_rs941 g hg).2
          replace _fs941 : Ol bcs 4 1 _wr_18 (.slice _A941 _ys941.length _C941) _ys941 := _fs941
          have rl941 := row_len rfl _hys941
          refine W_drawC (bl (.slice _A941 _ys941.length _C941)) 23 mixed rfl fun _w_26 _cw_26 => ?_
          have _cw_26z := _cw_26.size
          have E := E.trans _cw_26
          refine DR_s 0 rfl (by kernel_rfl) rfl rfl (t_v (fun _ => (r_move rfl)) ?_)
          refine DR_s 1 rfl (by kernel_rfl) rfl rfl (t_v (fun _ => (r_move rfl)) ?_)
          have _f_27 := (lso941.ch0 _cw_26)
          refine DR_s 2 rfl (by kernel_rfl) rfl rfl (t_index _f_27 Sv.len el194 sz24 rfl rfl rfl (by omega) fun _p43 _y43 _hy43 _a43 => ?_)
          obtain rfl := get_uniq _hy941 _hy43
          replace _a43 : At _w_26 go941 (go941 + 1) _p43 ([(.slice _A941 _ys941.length _C941)]) := _a43
          refine DR_s 3 rfl (by kernel_rfl) rfl rfl (t_loadAt0 _a43 (fun i hm => ne_blk (_sm941 i hm) hgo941) agg24 rfl rfl ?_)
          refine DR_s 4 rfl (by kernel_rfl) rfl rfl (t_v (fun _ => (r_move rfl)) ?_)
          refine DR_s 5 rfl (by kernel_rfl) rfl rfl (t_v (fun _ => (r_move rfl)) ?_)
          refine DR_s 6 rfl (by kernel_rfl) rfl rfl (t_v (fun _ => (r_move rfl)) ?_)
          refine DR_s 7 rfl (by kernel_rfl) rfl rfl (t_index _f_27 Sv.len el194 sz24 rfl rfl rfl (by omega) fun _p48 _y48 _hy48 _a48 => ?_)
          obtain rfl := get_uniq _hy941 _hy48
          replace _a48 : At _w_26 go941 (go941 + 1) _p48 ([(.slice _A941 _ys941.length _C941)]) := _a48
          refine DR_s 8 rfl (by kernel_rfl) rfl rfl (t_loadAt0 _a48 (fun i hm => ne_blk (_sm941 i hm) hgo941) agg24 rfl rfl ?_)
          refine DR_s 9 rfl (by kernel_rfl) rfl rfl (t_v (fun _ => (r_move rfl)) ?_)
          refine DR_one 10 (by kernel_rfl) ?_
          refine DO_s rfl rfl rfl ?_
          have _f_28 := (_fs941.ch0 _cw_26)
          refine (s_index _f_28.ls bcs_len el24 sz4 rfl rfl rfl (by omega) fun _p51 _y51 _hy51 _a51 => ?_)
          refine ⟨(Ch.refl _ _), ?_⟩
          refine DR_one 11 (by kernel_rfl) ?_
          refine DO_s rfl rfl rfl ?_
          refine s_v (r_loadAt0 _a51 agg4 rfl rfl) ?_
          refine ⟨(Ch.refl _ _), ?_⟩
          refine DR_s 12 rfl (by kernel_rfl) rfl rfl (t_v (fun _ => (r_move rfl)) ?_)
          refine DR_split (d := 53) rfl (fun _h53 => ?_) (fun _h53 => ?_)
          · have _kb_29 := _h53
            refine DR_skip 13 rfl (by kernel_rfl) rfl rfl ?_
            refine DR_skip 14 rfl (by kernel_rfl) rfl rfl ?_
            refine DR_skip 15 rfl (by kernel_rfl) rfl rfl ?_
            refine DR_skip 16 rfl (by kernel_rfl) rfl rfl ?_
            refine DR_skip 17 rfl (by kernel_rfl) rfl rfl ?_
            refine DR_skip 18 rfl (by kernel_rfl) rfl rfl ?_
            refine DR_skip 19 rfl (by kernel_rfl) rfl rfl ?_
            refine DR_s 20 rfl (by kernel_rfl) rfl rfl (t_v (fun _ => (r_pickT rfl rfl)) ?_)
            refine DR_one 21 (by kernel_rfl) ?_
            refine DO_s rfl rfl rfl ?_
            refine s_indexO (j := j) _f_28 el24 sz4 rfl rfl rfl (by omega) fun _g62 _o62 _cp62 _q62 => ?_
            refine ⟨(Ch.refl _ _), ?_⟩
            refine DR_one 22 (by kernel_rfl) ?_
            refine DO_s rfl rfl rfl ?_
            refine s_storeO (j := j) true _f_28 _q62 bcs_len sz4 rfl rfl rfl rfl (by omega) fun _w_30 _o_31 _cw_30 => ?_
            have _f_32 := (od.ch0 _cw_26)
            have _cw_30z := _cw_30.size
            have E := E.step _cw_30 (fun i hi => .inl (by have _h1 := _lo941 _ hi; omega))
            have _od_33 := Od.set _f_32 _hy941 _hys941 _cw_30 _o_31
            have _S_34 : Ch (bl (.slice _A941 _ys941.length _C941)) _w_26 _w_30 := ((Ch.refl _ _).step _cw_30 (fun i hm => by exact .inr hm))
            refine ⟨_S_34, ?_⟩
            refine DR_done (by kernel_rfl) ?_
            refine inB_nrm ?_
            refine thn_nrm (_hK_25 _ _ ?_)
            clear _hK_25
            refine W_region ?_
            refine WL_step rfl rfl (r_move rfl) ?_
            refine WL_step rfl rfl (r_add (by omega) rfl rfl) ?_
            refine WL_step rfl rfl (r_assign rfl) ?_
            refine WL_nil ?_
            have _f_35 := ((_F2_4.ch0 _cw_26).ch _cw_30 (fun g hg hm => by exact _sm941 _ hm hg))
            exact thn_nrm (Exists.intro (j + 1) ⟨⟨E, (by omega), (by omega), _f_35, (_od_33.eq (mupt_step rfl _hys941 (by rw [← _e36]; exact _h38) (by first | (have _e1 := grd_y rfl _hys941 _hy51; simp [← _e1, _h53]; done) | (have _e1 := grd_y rfl _hys941 _hy51; have _e2 := grd_y hb _hys56 _hy59; simp [← _e1, ← _e2, _h53]; done))))⟩, Sub.cons rfl (Sub.cons rfl (Sub.cons rfl (Sub.cons rfl (Sub.cons rfl (Sub.cons rfl (Sub.cons rfl (Sub.cons rfl (Sub.cons rfl (Sub.nil _))))))))), (by first | omega | (dsimp only; omega))⟩)
          · have _kb_29 := _h53
            refine DR_s 13 rfl (by kernel_rfl) rfl rfl (t_v (fun _ => (r_move rfl)) ?_)
            refine DR_s 14 rfl (by kernel_rfl) rfl rfl (t_v (fun _ => (r_move rfl)) ?_)
            have _f_36 := ((_h_sb.ch0 _E2h).ch0 _cw_26)
            have _f_37 := ((_rd_b.ch0 _E2h).ch0 _cw_26)
            refine DR_s 15 rfl (by kernel_rfl) rfl rfl (t_index _f_36 Sv.len el194 sz24 rfl rfl rfl (by omega) fun _p56 _y56 _hy56 _a56 => ?_)
            obtain ⟨_ys56, _hys56, _fs56⟩ := _f_37.get _hy56
            obtain ⟨_A56, _n56, _C56⟩ := _y56
            obtain rfl := _fs56.eqn
            have _l56 := _fs56.len
            replace _fs56 : Ls bcs 1 _w_26 LR_b w.heap.size (.slice _A56 _ys56.length _C56) _ys56 := _fs56
            replace _a56 : At _w_26 LL_sb w.heap.size _p56 ([(.slice _A56 _ys56.length _C56)]) := _a56
            have rl56 := row_len hb _hys56
            refine DR_s 16 rfl (by kernel_rfl) rfl rfl (t_loadAt0 _a56 (fun i hm => by have _h1 := _lo941 _ hm; have _h2 := hi941 _ hm; omega) agg24 rfl rfl ?_)
            refine DR_s 17 rfl (by kernel_rfl) rfl rfl (t_v (fun _ => (r_move rfl)) ?_)
            refine DR_s 18 rfl (by kernel_rfl) rfl rfl (t_index _fs56 bcs_len el24 sz4 rfl rfl rfl (by omega) fun _p59 _y59 _hy59 _a59 => ?_)
            refine DR_s 19 rfl (by kernel_rfl) rfl rfl (t_loadAt0 _a59 (fun i hm => by have _h1 := _lo941 _ hm; have _h2 := hi941 _ hm; omega) agg4 rfl rfl ?_)
            refine DR_s 20 rfl (by kernel_rfl) rfl rfl (t_v (fun _ => (r_pickF rfl rfl)) ?_)
            refine DR_one 21 (by kernel_rfl) ?_
            refine DO_s rfl rfl rfl ?_
            refine s_indexO (j := j) _f_28 el24 sz4 rfl rfl rfl (by omega) fun _g62 _o62 _cp62 _q62 => ?_
            refine ⟨(Ch.refl _ _), ?_⟩
            refine DR_one 22 (by kernel_rfl) ?_
            refine DO_s rfl rfl rfl ?_
            refine s_storeO (j := j) _y59 _f_28 _q62 bcs_len sz4 rfl rfl rfl rfl (by omega) fun _w_38 _o_39 _cw_38 => ?_
            have _f_40 := (od.ch0 _cw_26)
            have _cw_38z := _cw_38.size
            have E := E.step _cw_38 (fun i hi => .inl (by have _h1 := _lo941 _ hi; omega))
            have _od_41 := Od.set _f_40 _hy941 _hys941 _cw_38 _o_39
            have _S_42 : Ch (bl (.slice _A941 _ys941.length _C941)) _w_26 _w_38 := ((Ch.refl _ _).step _cw_38 (fun i hm => by exact .inr hm))
            refine ⟨_S_42, ?_⟩
            refine DR_done (by kernel_rfl) ?_
            refine inB_nrm ?_
            refine thn_nrm (_hK_25 _ _ ?_)
            clear _hK_25
            refine W_region ?_
            refine WL_step rfl rfl (r_move rfl) ?_
            refine WL_step rfl rfl (r_add (by omega) rfl rfl) ?_
            refine WL_step rfl rfl (r_assign rfl) ?_
            refine WL_nil ?_
            have _f_43 := ((_F2_4.ch0 _cw_26).ch _cw_38 (fun g hg hm => by exact _sm941 _ hm hg))
            exact thn_nrm (Exists.intro (j + 1) ⟨⟨E, (by omega), (by omega), _f_43, (_od_41.eq (mupt_step rfl _hys941 (by rw [← _e36]; exact _h38) (by first | (have _e1 := grd_y rfl _hys941 _hy51; simp [← _e1, _h53]; done) | (have _e1 := grd_y rfl _hys941 _hy51; have _e2 := grd_y hb _hys56 _hy59; simp [← _e1, ← _e2, _h53]; done))))⟩, Sub.cons rfl (Sub.cons rfl (Sub.cons rfl (Sub.cons rfl (Sub.cons rfl (Sub.cons rfl (Sub.cons rfl (Sub.cons rfl (Sub.cons rfl (Sub.nil _))))))))), (by first | omega | (dsimp only; omega))⟩)
        · have _kb_24 := _h38
          refine W_exit (thn_exit (thn_exit (inB_hit ?_)))
          refine inB_nrm ?_
          refine thn_nrm (_hK_16 _ _ ?_)
          clear _hK_16
          refine W_region ?_
          refine WL_step rfl rfl (r_move rfl) ?_
          refine WL_step rfl rfl (r_add (by omega) rfl rfl) ?_
          refine WL_step rfl rfl (r_assign rfl) ?_
          refine WL_nil ?_
          exact thn_nrm (Exists.intro (k + 1) ⟨⟨E, (by omega), (by omega), _F2_4, (od.eq (by first | exact mupt_row (.inl (by omega)) | exact mupt_row (.inr (by rw [← _e36]; exact _h38))))⟩, Sub.cons rfl (Sub.cons rfl (Sub.cons rfl (Sub.cons rfl (Sub.cons rfl (Sub.cons rfl (Sub.cons rfl (Sub.nil _))))))), (by first | omega | (dsimp only; omega))⟩)
      · have _kb_21 := _h30
        have _h30 := bf_d _h30
        refine WL_skip rfl rfl ?_
        refine WL_skip rfl rfl ?_
        refine WL_skip rfl rfl ?_
        refine WL_skip rfl rfl ?_
        refine WL_skip rfl rfl ?_
        refine WL_skip rfl rfl ?_
        refine WL_skip rfl rfl ?_
        refine WL_step rfl rfl (r_pickF rfl rfl) ?_
        refine WL_nil ?_
        refine thn_nrm (_hK_20 _ _ ?_)
        clear _hK_20
        refine W_condF rfl ?_
        refine W_exit (thn_exit (thn_exit (inB_hit ?_)))
        refine inB_nrm ?_
        refine thn_nrm (_hK_16 _ _ ?_)
        clear _hK_16
        refine W_region ?_
        refine WL_step rfl rfl (r_move rfl) ?_
        refine WL_step rfl rfl (r_add (by omega) rfl rfl) ?_
        refine WL_step rfl rfl (r_assign rfl) ?_
        refine WL_nil ?_
        exact thn_nrm (Exists.intro (k + 1) ⟨⟨E, (by omega), (by omega), _F2_4, (od.eq (by first | exact mupt_row (.inl (by omega)) | exact mupt_row (.inr (by rw [← _e36]; exact _h38))))⟩, Sub.cons rfl (Sub.cons rfl (Sub.cons rfl (Sub.cons rfl (Sub.cons rfl (Sub.cons rfl (Sub.cons rfl (Sub.nil _))))))), (by first | omega | (dsimp only; omega))⟩)
    · have _kb_15 := _h22
      have _h22 := bf_d _h22
      refine W_exit (thn_exit (thn_exit (inB_hit ?_)))
      refine inB_nrm ?_
      refine thn_nrm (_hK_10 _ _ ?_)
      clear _hK_10
      refine W_region ?_
      refine WL_step rfl rfl (r_move rfl) ?_
      refine WL_step rfl rfl (r_add (by omega) rfl rfl) ?_
      refine WL_step rfl rfl (r_assign rfl) ?_
      refine WL_nil ?_
      exact thn_nrm (Exists.intro (i + 1) ⟨⟨E, (by omega), (by omega), _F1_4, (od.eq (mupt_next (by omega)))⟩, Sub.cons rfl (Sub.cons rfl (Sub.cons rfl (Sub.cons rfl (Sub.cons rfl (Sub.nil _))))), (by first | omega | (dsimp only; omega))⟩)
  · have _kb_9 := _h15
    have _h15 := bf_d _h15
    refine W_exit (thn_exit (thn_exit (inB_hit ?_)))
    refine thn_nrm (_hK_4 _ _ ?_)
    clear _hK_4
    refine W_seq fun _K_44 _hK_44 => ?_
    refine W_region ?_
    refine WL_step rfl rfl (r_move rfl) ?_
    refine WL_step rfl rfl (r_assign rfl) ?_
    refine WL_nil ?_
    refine thn_nrm (_hK_44 _ _ ?_)
    clear _hK_44
    refine W_ret ?_
    clear _hK_7
    have _o_45 : Ol Sv.cs 24 1 _wr_6 (.slice Au11_0 (_vs11_0).length Cu11_0) _vs11_0 := by
      have hx := _F0_4
      exact hx
    have _o_46 : Od bcs 4 1 _wr_6 w.heap.size _wr_6.heap.size _vs11_0 (grd n (mulM n A B)) := by
      have hx := od.up (lo' := w.heap.size) (hi' := _wr_6.heap.size) (by omega) (by omega)
      rwa [mupt_all (by omega)] at hx
    exact ret_intro [_] ⟨rfl, trivial⟩ ⟨(.slice Au11_0 (_vs11_0).length Cu11_0), _vs11_0, rfl, _o_45, (Lo.down _lo_u11_0 (by omega)), _o_46, _sep_vs11_0, E⟩

/-- spec.l9Repeated -/
theorem c_spec_l9Repeated {w : World} {LL_sa _B_sa : Nat} {_v_sa : Value} {sa : List Sv} (_h_sa : Ls Sv.cs 1 w LL_sa _B_sa _v_sa sa) {LR_a BB_a : Nat} {a : List (List Bool)} (_rd_a : Rd bcs 1 w LR_a BB_a sa a) (low : Int) (high : Int) (n : Nat) (A : Nat → Nat → Bool) (ha : a = grd n A) (ta : Tri A) (hn : n ≤ 4097) (hh : high ≤ 4294967296) :
    Ctr Try.prog 183 #[_v_sa, (.int .i64 low), (.int .i64 high)] w (fun v w' => ∃ (_u0 : Value) (vs0 : List Sv), v = _u0 ∧ Ol Sv.cs 24 1 w' _u0 vs0 ∧ Lo w.heap.size _u0 ∧ Od bcs 4 1 w' w.heap.size w'.heap.size vs0 (grd n (repM n A low (high + 1).toNat)) ∧ Sep _u0 vs0 ∧ Ch [] w w') := by
  obtain ⟨_A_sa, _C_sa, _e1_sa⟩ := _h_sa.val
  subst _e1_sa
  have _l_sa := _h_sa.len
  have _h_sa := _h_sa.here (by decide)
  have _rd_a := _rd_a.here (by decide)
  have _rl_a := _rd_a.1
  have E := Ch.refl [] w
  have _ln9 : sa.length = n := by rw [_rl_a, ha, grd_len]
  refine Ctr_of_W (N := 31) (vs0 := [(.slice _A_sa sa.length _C_sa), (.int .i64 low), (.int .i64 high)]) Try.func183 rfl rfl rfl ?_
  refine W_seq fun _K_1 _hK_1 => ?_
  refine W_region ?_
  refine WL_step rfl rfl (r_assign rfl) ?_
  refine WL_nil ?_
  refine thn_nrm (_hK_1 _ _ ?_)
  clear _hK_1
  refine W_seq fun _K_2 _hK_2 => ?_
  refine W_region ?_
  refine WL_step rfl rfl (r_move rfl) ?_
  refine WL_step rfl rfl (r_len (by rw [el194]; rfl) rfl) ?_
  refine WL_s rfl rfl ?_
  refine Step.call (r_call (xs := [.tmp 11, .const (Go.Value.bool false)]) fk180 rfl) (c_spec_l9Grid sa.length _ (by omega)) fun _v12 _w_3 _q12 => ?_
  obtain ⟨u12_0, _vs12_0, rfl, _q_u12_0, _lo_u12_0, _od_vs12_0, _sep_vs12_0, _cw_3⟩ := _q12
  have _cw_3z := _cw_3.size
  have E := E.trans _cw_3
  obtain ⟨Au12_0, Cu12_0, eu12_0⟩ := _q_u12_0.val
  subst eu12_0
  have lu12_0 := _q_u12_0.len
  have _hiu12_0 := _q_u12_0.lt
  refine WL_step rfl rfl (r_assign rfl) ?_
  refine WL_nil ?_
  refine thn_nrm (_hK_2 _ _ ?_)
  clear _hK_2
  refine W_seq fun _K_4 _hK_4 => ?_
  refine W_region ?_
  refine WL_step rfl rfl (r_move rfl) ?_
  refine WL_step rfl rfl (r_len (by rw [el194]; rfl) rfl) ?_
  refine WL_s rfl rfl ?_
  refine Step.call (r_call (xs := [.tmp 14, .const (Go.Value.bool true)]) fk180 rfl) (c_spec_l9Grid sa.length _ (by omega)) fun _v15 _w_5 _q15 => ?_
  obtain ⟨u15_0, _vs15_0, rfl, _q_u15_0, _lo_u15_0, _od_vs15_0, _sep_vs15_0, _cw_5⟩ := _q15
  have _cw_5z := _cw_5.size
  have E := E.trans _cw_5
  obtain ⟨Au15_0, Cu15_0, eu15_0⟩ := _q_u15_0.val
  subst eu15_0
  have lu15_0 := _q_u15_0.len
  have _hiu15_0 := _q_u15_0.lt
  refine WL_step rfl rfl (r_assign rfl) ?_
  refine WL_nil ?_
  refine thn_nrm (_hK_4 _ _ ?_)
  clear _hK_4
  refine W_seq fun _K_6 _hK_6 => ?_
  refine W_seq fun _K_7 _hK_7 => ?_
  refine W_region ?_
  refine WL_step rfl rfl (r_assign rfl) ?_
  refine WL_nil ?_
  refine thn_nrm (_hK_7 _ _ ?_)
  clear _hK_7
  refine W_block ?_
  have _f_8 := (_q_u12_0.ch0 _cw_5)
  have _oi_9 : Ol Sv.cs 24 1 _w_5 (.slice Au12_0 (_vs12_0).length Cu12_0) (_vs12_0) := by
    have hx := _f_8
    exact hx
  have _oi_10 : Ol Sv.cs 24 1 _w_5 (.slice Au15_0 (_vs15_0).length Cu15_0) (_vs15_0) := by
    have hx := _q_u15_0
    exact hx
  have _f_11 := (_od_vs12_0.ch0 _cw_5)
  refine W_loop (σ := Nat × List Sv × List Sv × Value × Value) (fun ⟨k, us, qs, ov, qv⟩ => [(0, (.slice _A_sa sa.length _C_sa)), (1, (.int .i64 low)), (2, (.int .i64 high)), (6, (.slice none 0 0)), (7, ov), (8, qv), (9, (.int .i64 ((k : Nat) : Int)))]) (fun ⟨k, us, qs, ov, qv⟩ wx => Ch [] w wx ∧ _w_5.heap.size ≤ wx.heap.size ∧ (k ≤ (high + 1).toNat) ∧ Ol Sv.cs 24 1 wx ov us ∧ Lo w.heap.size ov ∧ Ol Sv.cs 24 1 wx qv qs ∧ Lo _w_3.heap.size qv ∧ Od bcs 4 1 wx w.heap.size wx.heap.size us (grd n (repM n A low k)) ∧ Od bcs 4 1 wx w.heap.size wx.heap.size qs (grd n (powM n A k)) ∧ (Sep ov us) ∧ (Sep qv qs)) (fun ⟨k, us, qs, ov, qv⟩ => (high + 1).toNat - k) (0, _vs12_0, _vs15_0, (.slice Au12_0 (_vs12_0).length Cu12_0), (.slice Au15_0 (_vs15_0).length Cu15_0)) (Sub.cons rfl (Sub.cons rfl (Sub.cons rfl (Sub.cons rfl (Sub.cons rfl (Sub.cons rfl (Sub.cons rfl (Sub.nil _)))))))) ⟨E, (Nat.le_refl _), (by omega), _oi_9, _lo_u12_0, _oi_10, _lo_u15_0, ((_f_11.up (by omega) (by omega)).eq (by rw [_ln9]; exact rep_zero)), ((_od_vs15_0.up (by omega) (by omega)).eq (by rw [_ln9]; rfl)), _sep_vs12_0, _sep_vs15_0⟩ ?_
  rintro ⟨k, us, qs, ov, qv⟩ _wr_12 ⟨E, _zz0, _hk, _o0_7, _lo0_7, _o0_8, _lo0_8, od, oe, _spl0_7, _spl0_8⟩
  have _E0h := E
  have _E0hz := _E0h.size
  obtain ⟨Aov, Cov, eov⟩ := _o0_7.val
  subst eov
  have lov := _o0_7.len
  have hiov := _o0_7.lt
  obtain ⟨Aqv, Cqv, eqv⟩ := _o0_8.val
  subst eqv
  have lqv := _o0_8.len
  have hiqv := _o0_8.lt
  refine W_seq fun _K_13 _hK_13 => ?_
  refine W_seq fun _K_14 _hK_14 => ?_
  refine W_region ?_
  refine WL_step rfl rfl (r_move rfl) ?_
  refine WL_step rfl rfl (r_move rfl) ?_
  refine WL_step rfl rfl (r_leq rfl rfl) ?_
  refine WL_nil ?_
  refine thn_nrm (_hK_14 _ _ ?_)
  clear _hK_14
  refine W_cond rfl (fun _h18 => ?_) (fun _h18 => ?_)
  · have _kb_15 := _h18
    have _h18 := bt_d _h18
    refine W_skip ?_
    refine thn_nrm (_hK_13 _ _ ?_)
    clear _hK_13
    refine W_seq fun _K_16 _hK_16 => ?_
    refine W_block ?_
    refine W_seq fun _K_17 _hK_17 => ?_
    refine W_seq fun _K_18 _hK_18 => ?_
    refine W_region ?_
    refine WL_step rfl rfl (r_move rfl) ?_
    refine WL_step rfl rfl (r_move rfl) ?_
    refine WL_step rfl rfl (r_geq rfl rfl) ?_
    refine WL_nil ?_
    refine thn_nrm (_hK_18 _ _ ?_)
    clear _hK_18
    refine W_cond rfl (fun _h23 => ?_) (fun _h23 => ?_)
    · have _kb_19 := _h23
      have _h23 := bt_d _h23
      refine W_region ?_
      refine WL_step rfl rfl (r_move rfl) ?_
      refine WL_step rfl rfl (r_move rfl) ?_
      refine WL_s rfl rfl ?_
      refine Step.call (r_call (xs := [.tmp 24, .tmp 25]) fk182 rfl) (c_spec_l9Either _o0_7.ls od.rd _o0_8.ls oe.rd n (repM n A low k) (powM n A k) rfl rfl (rep_tri ta) (pow_tri ta _) hn) fun _v26 _w_20 _q26 => ?_
      obtain ⟨u26_0, _vs26_0, rfl, _q_u26_0, _lo_u26_0, _od_vs26_0, _sep_vs26_0, _cw_20⟩ := _q26
      have _cw_20z := _cw_20.size
      have E := E.trans _cw_20
      obtain ⟨Au26_0, Cu26_0, eu26_0⟩ := _q_u26_0.val
      subst eu26_0
      have lu26_0 := _q_u26_0.len
      have _hiu26_0 := _q_u26_0.lt
      refine WL_step rfl rfl (r_assign rfl) ?_
      refine WL_nil ?_
      refine thn_nrm (_hK_17 _ _ ?_)
      clear _hK_17
      refine W_region ?_
      refine WL_step rfl rfl (r_move rfl) ?_
      refine WL_step rfl rfl (r_move rfl) ?_
      refine WL_s rfl rfl ?_
      have _f_21 := (oe.ch0 _cw_20)
      have _f_22 := (_o0_8.ch0 _cw_20)
      have _f_23 := ((_rd_a.ch0 _E0h).ch0 _cw_20)
      have _f_24 := ((_h_sa.ch0 _E0h).ch0 _cw_20)
      refine Step.call (r_call (xs := [.tmp 27, .tmp 28]) fk181 rfl) (c_spec_l9Joined _f_22.ls _f_21.rd _f_24 _f_23 n (powM n A k) A rfl ha (pow_tri ta _) ta hn) fun _v29 _w_25 _q29 => ?_
      obtain ⟨u29_0, _vs29_0, rfl, _q_u29_0, _lo_u29_0, _od_vs29_0, _sep_vs29_0, _cw_25⟩ := _q29
      have _cw_25z := _cw_25.size
      have E := E.trans _cw_25
      obtain ⟨Au29_0, Cu29_0, eu29_0⟩ := _q_u29_0.val
      subst eu29_0
      have lu29_0 := _q_u29_0.len
      have _hiu29_0 := _q_u29_0.lt
      refine WL_step rfl rfl (r_assign rfl) ?_
      refine WL_nil ?_
      refine inB_nrm ?_
      refine thn_nrm (_hK_16 _ _ ?_)
      clear _hK_16
      refine W_region ?_
      refine WL_step rfl rfl (r_move rfl) ?_
      refine WL_step rfl rfl (r_add (by omega) rfl rfl) ?_
      refine WL_step rfl rfl (r_assign rfl) ?_
      refine WL_nil ?_
      have _f_27 := (_q_u26_0.ch0 _cw_25)
      have _on_26 : Ol Sv.cs 24 1 _w_25 (.slice Au26_0 (_vs26_0).length Cu26_0) (_vs26_0) := by
        have hx := _f_27
        exact hx
      have _on_28 : Ol Sv.cs 24 1 _w_25 (.slice Au29_0 (_vs29_0).length Cu29_0) (_vs29_0) := by
        have hx := _q_u29_0
        exact hx
      have _f_29 := (_od_vs26_0.ch0 _cw_25)
      exact thn_nrm (Exists.intro ((k + 1), _vs26_0, _vs29_0, (.slice Au26_0 (_vs26_0).length Cu26_0), (.slice Au29_0 (_vs29_0).length Cu29_0)) ⟨⟨E, (by omega), (by omega), _on_26, (Lo.down _lo_u26_0 (by omega)), _on_28, (Lo.down _lo_u29_0 (by omega)), ((_f_29.up (by omega) (by omega)).eq (rep_y (by omega))), ((_od_vs29_0.up (by omega) (by omega)).eq pw_succ), _sep_vs26_0, _sep_vs29_0⟩, Sub.cons rfl (Sub.cons rfl (Sub.cons rfl (Sub.cons rfl (Sub.cons rfl (Sub.cons rfl (Sub.cons rfl (Sub.nil _))))))), (by first | omega | (dsimp only; omega))⟩)
    · have _kb_19 := _h23
      have _h23 := bf_d _h23
      refine W_skip ?_
      refine thn_nrm (_hK_17 _ _ ?_)
      clear _hK_17
      refine W_region ?_
      refine WL_step rfl rfl (r_move rfl) ?_
      refine WL_step rfl rfl (r_move rfl) ?_
      refine WL_s rfl rfl ?_
      have _f_30 := (_rd_a.ch0 _E0h)
      have _f_31 := (_h_sa.ch0 _E0h)
      refine Step.call (r_call (xs := [.tmp 27, .tmp 28]) fk181 rfl) (c_spec_l9Joined _o0_8.ls oe.rd _f_31 _f_30 n (powM n A k) A rfl ha (pow_tri ta _) ta hn) fun _v29 _w_32 _q29 => ?_
      obtain ⟨u29_0, _vs29_0, rfl, _q_u29_0, _lo_u29_0, _od_vs29_0, _sep_vs29_0, _cw_32⟩ := _q29
      have _cw_32z := _cw_32.size
      have E := E.trans _cw_32
      obtain ⟨Au29_0, Cu29_0, eu29_0⟩ := _q_u29_0.val
      subst eu29_0
      have lu29_0 := _q_u29_0.len
      have _hiu29_0 := _q_u29_0.lt
      refine WL_step rfl rfl (r_assign rfl) ?_
      refine WL_nil ?_
      refine inB_nrm ?_
      refine thn_nrm (_hK_16 _ _ ?_)
      clear _hK_16
      refine W_region ?_
      refine WL_step rfl rfl (r_move rfl) ?_
      refine WL_step rfl rfl (r_add (by omega) rfl rfl) ?_
      refine WL_step rfl rfl (r_assign rfl) ?_
      refine WL_nil ?_
      have _f_34 := (_o0_7.ch0 _cw_32)
      have _on_33 : Ol Sv.cs 24 1 _w_32 (.slice Aov (us).length Cov) (us) := by
        have hx := _f_34
        exact hx
      have _on_35 : Ol Sv.cs 24 1 _w_32 (.slice Au29_0 (_vs29_0).length Cu29_0) (_vs29_0) := by
        have hx := _q_u29_0
        exact hx
      have _f_36 := (od.ch0 _cw_32)
      exact thn_nrm (Exists.intro ((k + 1), us, _vs29_0, (.slice Aov (us).length Cov), (.slice Au29_0 (_vs29_0).length Cu29_0)) ⟨⟨E, (by omega), (by omega), _on_33, (Lo.down _lo0_7 (by omega)), _on_35, (Lo.down _lo_u29_0 (by omega)), ((_f_36.up (by omega) (by omega)).eq (rep_n (by omega))), ((_od_vs29_0.up (by omega) (by omega)).eq pw_succ), _spl0_7, _sep_vs29_0⟩, Sub.cons rfl (Sub.cons rfl (Sub.cons rfl (Sub.cons rfl (Sub.cons rfl (Sub.cons rfl (Sub.cons rfl (Sub.nil _))))))), (by first | omega | (dsimp only; omega))⟩)
  · have _kb_15 := _h18
    have _h18 := bf_d _h18
    refine W_exit (thn_exit (thn_exit (inB_hit ?_)))
    refine thn_nrm (_hK_6 _ _ ?_)
    clear _hK_6
    refine W_seq fun _K_37 _hK_37 => ?_
    refine W_region ?_
    refine WL_step rfl rfl (r_move rfl) ?_
    refine WL_step rfl rfl (r_assign rfl) ?_
    refine WL_nil ?_
    refine thn_nrm (_hK_37 _ _ ?_)
    clear _hK_37
    refine W_ret ?_
    clear _hK_13
    have _o_38 : Ol Sv.cs 24 1 _wr_12 (.slice Aov (us).length Cov) us := by
      have hx := _o0_7
      exact hx
    have _o_39 : Od bcs 4 1 _wr_12 w.heap.size _wr_12.heap.size us (grd n (repM n A low (high + 1).toNat)) := by
      have hx := od.up (lo' := w.heap.size) (hi' := _wr_12.heap.size) (by omega) (by omega)
      rwa [show k = (high + 1).toNat by omega] at hx
    exact ret_intro [_] ⟨rfl, trivial⟩ ⟨(.slice Aov (us).length Cov), us, rfl, _o_38, (Lo.down _lo0_7 (by omega)), _o_39, _spl0_7, E⟩

/-- spec.l9Match -/
theorem c_spec_l9Match {w : World} {LL_l _B_l : Nat} {_v_l : Value} {l : List Token} (_h_l : Ls Token.cs 4 w LL_l _B_l _v_l l) {LL_wd _B_wd : Nat} {_v_wd : Value} {wd : List Int} (_h_wd : Ls ics 1 w LL_wd _B_wd _v_wd wd) (t : Tr) (_ht : treeL l = some t) (hw : wd.length ≤ 4096) (hbl : l.length ≤ 1048576) :
    Ctr Try.prog 131 #[_v_l, _v_wd] w (fun v w' => v = .bool (mtT wd t 0 wd.length) ∧ Ch [] w w') := by
  obtain ⟨_A_l, _C_l, _e1_l⟩ := _h_l.val
  subst _e1_l
  have _l_l := _h_l.len
  have _h_l := _h_l.here (by decide)
  obtain ⟨_A_wd, _C_wd, _e1_wd⟩ := _h_wd.val
  subst _e1_wd
  have _l_wd := _h_wd.len
  have _h_wd := _h_wd.here (by decide)
  have E := Ch.refl [] w
  refine Ctr_of_W (N := 151) (vs0 := [(.slice _A_l l.length _C_l), (.slice _A_wd wd.length _C_wd)]) Try.func131 rfl rfl rfl ?_
  refine W_seq fun _K_1 _hK_1 => ?_
  refine W_region ?_
  refine WL_step rfl rfl (r_assign rfl) ?_
  refine WL_nil ?_
  refine thn_nrm (_hK_1 _ _ ?_)
  clear _hK_1
  refine W_seq fun _K_2 _hK_2 => ?_
  refine W_region ?_
  refine WL_step rfl rfl (r_move rfl) ?_
  refine WL_step rfl rfl (r_len (by rw [el30]; rfl) rfl) ?_
  refine WL_step rfl rfl (r_add (by omega) rfl rfl) ?_
  refine WL_step rfl rfl (r_assign rfl) ?_
  refine WL_nil ?_
  refine thn_nrm (_hK_2 _ _ ?_)
  clear _hK_2
  refine W_seq fun _K_3 _hK_3 => ?_
  refine W_region ?_
  refine WL_s rfl rfl ?_
  refine s_buildSlice0 (k := 1) Sv.cs el196 sz194 fun _v17 _w_4 _q17 _lo17 _cw_4 => ?_
  have _cw_4z := _cw_4.size
  have E := E.trans _cw_4
  obtain ⟨_Av17, _Cv17, _ev17⟩ := _q17.val
  subst _ev17
  have _lv17 := _q17.len
  have _hiv17 := _q17.lt
  refine WL_step rfl rfl (r_assign rfl) ?_
  refine WL_nil ?_
  refine thn_nrm (_hK_3 _ _ ?_)
  clear _hK_3
  refine W_seq fun _K_5 _hK_5 => ?_
  refine W_seq fun _K_6 _hK_6 => ?_
  refine W_region ?_
  refine WL_step rfl rfl (r_assign rfl) ?_
  refine WL_nil ?_
  refine thn_nrm (_hK_6 _ _ ?_)
  clear _hK_6
  refine W_block ?_
  have _oi_7 : Ol Sv.cs 194 1 _w_4 (.slice _Av17 (([] : List Sv)).length _Cv17) (([] : List Sv)) := by
    have hx := _q17
    exact hx
  refine W_loop (σ := Nat × List Sv × List Tr × Value) (fun ⟨i, vs, st, sv⟩ => [(0, (.slice _A_l l.length _C_l)), (1, (.slice _A_wd wd.length _C_wd)), (4, (.bool false)), (5, (.int .i64 (((wd.length : Nat) : Int) + 1))), (6, sv), (7, (.int .i64 ((i : Nat) : Int)))]) (fun ⟨i, vs, st, sv⟩ wx => Ch [] w wx ∧ _w_4.heap.size ≤ wx.heap.size ∧ (i ≤ l.length) ∧ (vs.length = st.length) ∧ (st.length ≤ i) ∧ (prs [] (l.take i) = some st) ∧ Ol Sv.cs 194 1 wx sv vs ∧ Lo w.heap.size sv ∧ RT wx wx.heap.size (bl sv) wd vs st) (fun ⟨i, vs, st, sv⟩ => l.length - i) (0, ([] : List Sv), ([] : List Tr), (.slice _Av17 (([] : List Sv)).length _Cv17)) (Sub.cons rfl (Sub.cons rfl (Sub.cons rfl (Sub.cons rfl (Sub.cons rfl (Sub.cons rfl (Sub.nil _))))))) ⟨E, (Nat.le_refl _), (by omega), rfl, (Nat.le_refl _), rfl, _oi_7, _lo17, RT.nil⟩ ?_
  rintro ⟨i, vs, st, sv⟩ _wr_8 ⟨E, _zz0, hi, hl, hs, hp, _o0_6, _lo0_6, ms⟩
  have _E0h := E
  have _E0hz := _E0h.size
  obtain ⟨Asv, Csv, esv⟩ := _o0_6.val
  subst esv
  have lsv := _o0_6.len
  have hisv := _o0_6.lt
  refine W_seq fun _K_9 _hK_9 => ?_
  refine W_seq fun _K_10 _hK_10 => ?_
  refine W_region ?_
  refine WL_step rfl rfl (r_move rfl) ?_
  refine WL_step rfl rfl (r_move rfl) ?_
  refine WL_step rfl rfl (r_len (by rw [el65]; rfl) rfl) ?_
  refine WL_step rfl rfl (r_lss rfl rfl) ?_
  refine WL_nil ?_
  refine thn_nrm (_hK_10 _ _ ?_)
  clear _hK_10
  refine W_cond rfl (fun _h21 => ?_) (fun _h21 => ?_)
  · have _kb_11 := _h21
    have _h21 := bt_d _h21
    refine W_skip ?_
    refine thn_nrm (_hK_9 _ _ ?_)
    clear _hK_9
    refine W_seq fun _K_12 _hK_12 => ?_
    refine W_block ?_
    refine W_seq fun _K_13 _hK_13 => ?_
    refine W_region ?_
    refine WL_step rfl rfl (r_move rfl) ?_
    refine WL_step rfl rfl (r_len (by rw [el196]; rfl) rfl) ?_
    refine WL_step rfl rfl (r_assign rfl) ?_
    refine WL_nil ?_
    refine thn_nrm (_hK_13 _ _ ?_)
    clear _hK_13
    refine W_seq fun _K_14 _hK_14 => ?_
    refine W_region ?_
    refine WL_step rfl rfl (r_move rfl) ?_
    refine WL_step rfl rfl (r_move rfl) ?_
    refine WL_s rfl rfl ?_
    have _f_15 := (_h_l.ch0 _E0h)
    refine (s_index _f_15 Token.len el65 sz126 rfl rfl rfl (by omega) fun _p28 _y28 _hy28 _a28 => ?_)
    obtain ⟨s2, _p1, _p2⟩ := prs_go _ht hp _hy28
    refine WL_step rfl rfl (r_loadAtA0 _a28 agg126 sz126 rfl) ?_
    refine WL_s rfl rfl ?_
    refine s_alloc zr126 fun _b9 _w_16 _m9 _cw_16 _e9 => ?_
    have _cw_16z := _cw_16.size
    have E := E.trans _cw_16
    have _z9 := _m9.lt
    replace _m9 : Blk _w_16 _b9 126 [(.int .i64 0), (.int .i64 0), (.int .i64 0), (.int .i64 0)] := _m9
    refine WL_s rfl rfl ?_
    refine s_storeA (off := 0) 4 _m9 sz126 rfl (us := [(.int .i64 _y28.kind), (.int .i64 _y28.letter), (.int .i64 _y28.low), (.int .i64 _y28.high)]) rfl rfl rfl rfl fun _w_17 _m_18 _cw_17 => ?_
    have _cw_17z := _cw_17.size
    have E := E.step _cw_17 (fun i hi => .inl (by have _h1 := List.mem_singleton.1 hi; omega))
    replace _m_18 : Blk _w_17 _b9 126 [(.int .i64 _y28.kind), (.int .i64 _y28.letter), (.int .i64 _y28.low), (.int .i64 _y28.high)] := _m_18
    refine WL_nil ?_
    refine thn_nrm (_hK_14 _ _ ?_)
    clear _hK_14
    refine W_seq fun _K_19 _hK_19 => ?_
    refine W_region ?_
    refine WL_step rfl rfl (r_fieldAddr fa126_0 rfl) ?_
    refine WL_step rfl rfl (r_loadAt _m_18.at_ agg3 rfl rfl) ?_
    refine WL_nil ?_
    refine thn_nrm (_hK_19 _ _ ?_)
    clear _hK_19
    refine W_block ?_
    refine W_seq fun _K_20 _hK_20 => ?_
    refine W_region ?_
    refine WL_step rfl rfl (r_eql rfl rfl) ?_
    refine WL_step rfl rfl (r_assign rfl) ?_
    refine WL_nil ?_
    refine thn_nrm (_hK_20 _ _ ?_)
    clear _hK_20
    refine W_cond rfl (fun _h37 => ?_) (fun _h37 => ?_)
    · have _kb_21 := _h37
      have _h37 := bt_d _h37
      have es9 := push_k0 _p1 (by unfold arK; rw [if_neg (by omega), if_neg (by omega)])
      have em2 := ml2 (w := wd) (y := _y28) (by omega)
      refine W_region ?_
      refine WL_step rfl rfl (r_move rfl) ?_
      refine WL_step rfl rfl (r_move rfl) ?_
      refine WL_s rfl rfl ?_
      refine Step.call (r_call (xs := [.tmp 40, .const (Go.Value.bool true)]) fk180 rfl) (c_spec_l9Grid (wd.length + 1) _ (by omega)) fun _v41 _w_22 _q41 => ?_
      obtain ⟨u41_0, _vs41_0, rfl, _q_u41_0, _lo_u41_0, _od_vs41_0, _sep_vs41_0, _cw_22⟩ := _q41
      have _cw_22z := _cw_22.size
      have E := E.trans _cw_22
      obtain ⟨Au41_0, Cu41_0, eu41_0⟩ := _q_u41_0.val
      subst eu41_0
      have lu41_0 := _q_u41_0.len
      have _hiu41_0 := _q_u41_0.lt
      refine WL_s rfl rfl ?_
      refine s_buildSlice (cs := Sv.cs) (parts := [(0, .tmp 41)]) (⟨none, 0, 0⟩ : Sv) [(⟨Au41_0, (_vs41_0).length, Cu41_0⟩ : Sv)] el196 sz194 zr194 Sv.len (by decide) rfl rfl rfl (by decide) (by decide) rfl fun _v42 _w_23 _q42 _lo42 _cw_23 => ?_
      have _cw_23z := _cw_23.size
      have E := E.trans _cw_23
      obtain ⟨_Av42, _Cv42, _ev42⟩ := _q42.val
      subst _ev42
      have _lv42 := _q42.len
      have _hiv42 := _q42.lt
      refine WL_s rfl rfl ?_
      have _f_25 := ((((_o0_6.ch0 _cw_16).ch _cw_17 (fun g hg hm => by have _h0 := List.mem_singleton.1 hm; have _h2 := _lo0_6 _ hg; have _h3 := hisv _ hg; omega)).ch0 _cw_22).ch0 _cw_23)
      refine s_append (cs := Sv.cs) el196 sz194 by194 zr194 rfl (by decide) Sv.one _f_25 _q42.ls rfl rfl (by simp only [List.length_singleton, List.length_take, List.length_drop]; omega) (by simp only [List.length_singleton, List.length_take, List.length_drop]; omega) _lo0_6 (by omega) fun _v43 _w_24 _q43 _lo43 _ap43 _cw_24 => ?_
      have _cw_24z := _cw_24.size
      have E := E.step _cw_24 (fun i hi => .inl (by have _h1 := _lo0_6 _ hi; omega))
      obtain ⟨_Av43, _Cv43, _ev43⟩ := _q43.val
      subst _ev43
      have _lv43 := _q43.len
      have _hiv43 := _q43.lt
      refine WL_step rfl rfl (r_assign rfl) ?_
      refine WL_nil ?_
      refine inB_nrm ?_
      refine inB_nrm ?_
      refine thn_nrm (_hK_12 _ _ ?_)
      clear _hK_12
      refine W_region ?_
      refine WL_step rfl rfl (r_move rfl) ?_
      refine WL_step rfl rfl (r_add (by omega) rfl rfl) ?_
      refine WL_step rfl rfl (r_assign rfl) ?_
      refine WL_nil ?_
      have _on_26 : Ol Sv.cs 194 1 _w_24 (.slice _Av43 ((vs ++ [(⟨Au41_0, (_vs41_0).length, Cu41_0⟩ : Sv)])).length _Cv43) ((vs ++ [(⟨Au41_0, (_vs41_0).length, Cu41_0⟩ : Sv)])) := by
        have hx := _q43
        exact hx
      have _f_27 := (((((ms.ch0 _cw_16).ch _cw_17 (fun i hm => by have _h1 := List.mem_singleton.1 hm; left; omega)).ch0 _cw_22).ch0 _cw_23).ch _cw_24 (fun i hm => by right; exact hm))
      have _f_28 := ((_q_u41_0.ch0 _cw_23).ch _cw_24 (fun g hg hm => by have _h1 := _lo0_6 _ hm; have _h2 := hisv _ hm; have _h3 := _lo_u41_0 _ hg; have _h4 := _hiu41_0 _ hg; omega))
      have _f_29 := ((_od_vs41_0.ch0 _cw_23).ch _cw_24 (fun i hm => by have _h1 := _lo0_6 _ hm; have _h2 := hisv _ hm; omega))
      exact thn_nrm (Exists.intro ((i + 1), (vs ++ [(⟨Au41_0, (_vs41_0).length, Cu41_0⟩ : Sv)]), s2, (.slice _Av43 ((vs ++ [(⟨Au41_0, (_vs41_0).length, Cu41_0⟩ : Sv)])).length _Cv43)) ⟨⟨E, (by omega), (by omega), (by rw [es9]; simp; omega), (by rw [es9]; simp; omega), _p2, _on_26, (Lo.down _lo43 (by omega)), (by rw [es9]; exact (RT.add _f_27 (v := (⟨Au41_0, (_vs41_0).length, Cu41_0⟩ : Sv)) (Ol.lsR _f_28 (Lo.down _lo_u41_0 (by omega)) (lo := _w_17.heap.size) (hi := _w_22.heap.size) (fun g hg => by have _h1 := _hiu41_0 g hg; omega)) (Od.rdR (_f_29.eq (by rw [em2]))) (by omega) (by omega) (fun g hm => by rcases _ap43 with ea | ea; (rw [ea] at hm; have _h1 := _lo0_6 _ hm; have _h2 := hisv _ hm; omega); (have z2hm := _hiv43 _ hm; rw [ea] at hm; have _z1 := List.mem_singleton.1 hm; omega)) (fun g hm => by rcases _ap43 with ea | ea; (rw [ea] at hm; left; exact hm); (have z2hm := _hiv43 _ hm; rw [ea] at hm; have _z1 := List.mem_singleton.1 hm; right; omega))).eq (by simp_all <;> omega))⟩, Sub.cons rfl (Sub.cons rfl (Sub.cons rfl (Sub.cons rfl (Sub.cons rfl (Sub.cons rfl (Sub.nil _)))))), (by first | omega | (dsimp only; omega))⟩)
    · have _kb_21 := _h37
      have _h37 := bf_d _h37
      refine W_seq fun _K_30 _hK_30 => ?_
      refine W_region ?_
      refine WL_step rfl rfl (r_eql rfl rfl) ?_
      refine WL_step rfl rfl (r_assign rfl) ?_
      refine WL_nil ?_
      refine thn_nrm (_hK_30 _ _ ?_)
      clear _hK_30
      refine W_cond rfl (fun _h44 => ?_) (fun _h44 => ?_)
      · have _kb_31 := _h44
        have _h44 := bt_d _h44
        have es9 := push_k0 _p1 (by unfold arK; rw [if_neg (by omega), if_neg (by omega)])
        have em3 := ml3 (w := wd) (y := _y28) (by omega)
        refine W_seq fun _K_32 _hK_32 => ?_
        refine W_region ?_
        refine WL_step rfl rfl (r_move rfl) ?_
        refine WL_s rfl rfl ?_
        refine Step.call (r_call (xs := [.tmp 46, .const (Go.Value.bool false)]) fk180 rfl) (c_spec_l9Grid (wd.length + 1) _ (by omega)) fun _v47 _w_33 _q47 => ?_
        obtain ⟨u47_0, _vs47_0, rfl, _q_u47_0, _lo_u47_0, _od_vs47_0, _sep_vs47_0, _cw_33⟩ := _q47
        have _cw_33z := _cw_33.size
        have E := E.trans _cw_33
        obtain ⟨Au47_0, Cu47_0, eu47_0⟩ := _q_u47_0.val
        subst eu47_0
        have lu47_0 := _q_u47_0.len
        have _hiu47_0 := _q_u47_0.lt
        refine WL_step rfl rfl (r_assign rfl) ?_
        refine WL_nil ?_
        refine thn_nrm (_hK_32 _ _ ?_)
        clear _hK_32
        refine W_seq fun _K_34 _hK_34 => ?_
        refine W_seq fun _K_35 _hK_35 => ?_
        refine W_region ?_
        refine WL_step rfl rfl (r_assign rfl) ?_
        refine WL_nil ?_
        refine thn_nrm (_hK_35 _ _ ?_)
        clear _hK_35
        refine W_block ?_
        have _f_36 := (((_f_15.ch0 _cw_16).ch _cw_17 (fun i hi => by have _h1 := List.mem_singleton.1 hi; omega)).ch0 _cw_33)
        have _f_37 := (((_o0_6.ch0 _cw_16).ch _cw_17 (fun g hg hm => by have _h0 := List.mem_singleton.1 hm; have _h2 := _lo0_6 _ hg; have _h3 := hisv _ hg; omega)).ch0 _cw_33)
        have _f_38 := (_m_18.ch0 _cw_33)
        have _f_39 := (((ms.ch0 _cw_16).ch _cw_17 (fun i hm => by have _h1 := List.mem_singleton.1 hm; left; omega)).ch0 _cw_33)
        refine W_loop (σ := Nat) (fun (k : Nat) => [(0, (.slice _A_l l.length _C_l)), (1, (.slice _A_wd wd.length _C_wd)), (4, (.bool false)), (5, (.int .i64 (((wd.length : Nat) : Int) + 1))), (6, (.slice Asv (vs).length Csv)), (7, (.int .i64 ((i : Nat) : Int))), (8, (.int .i64 ((vs.length : Nat) : Int))), (9, (.pointer (some ⟨_b9, 0, none⟩))), (10, (.slice Au47_0 (_vs47_0).length Cu47_0)), (11, (.int .i64 ((k : Nat) : Int))), (21, (.bool (decide (((i : Nat) : Int) < ((l.length : Nat) : Int))))), (31, (.int .i64 _y28.kind)), (37, (.bool (decide (_y28.kind = 2)))), (44, (.bool (decide (_y28.kind = 3))))]) (fun (k : Nat) wx => Ch [] w wx ∧ _w_33.heap.size ≤ wx.heap.size ∧ (k ≤ wd.length) ∧ Ls Token.cs 4 wx LL_l w.heap.size (.slice _A_l l.length _C_l) l ∧ Ol Sv.cs 194 1 wx (.slice Asv (vs).length Csv) vs ∧ Blk wx _b9 126 [(.int .i64 _y28.kind), (.int .i64 _y28.letter), (.int .i64 _y28.low), (.int .i64 _y28.high)] ∧ Ol Sv.cs 24 1 wx (.slice Au47_0 (_vs47_0).length Cu47_0) _vs47_0 ∧ RT wx _wr_8.heap.size (bl (.slice Asv (vs).length Csv)) wd vs st ∧ Od bcs 4 1 wx _w_17.heap.size _w_33.heap.size _vs47_0 (grd (wd.length + 1) (lupt _y28.letter wd k))) (fun (k : Nat) => wd.length - k) 0 (Sub.cons rfl (Sub.cons rfl (Sub.cons rfl (Sub.cons rfl (Sub.cons rfl (Sub.cons rfl (Sub.cons rfl (Sub.cons rfl (Sub.cons rfl (Sub.cons rfl (Sub.cons rfl (Sub.cons rfl (Sub.cons rfl (Sub.cons rfl (Sub.nil _))))))))))))))) ⟨E, (Nat.le_refl _), (by omega), _f_36, _f_37, _f_38, _q_u47_0, _f_39, (_od_vs47_0.eq lupt_zero)⟩ ?_
        rintro k _wr_40 ⟨E, _zz1, _hk, _F1_0, _F1_2, _F1_3, _F1_4, _F1_6, od⟩
        have _E1h := E
        have _E1hz := _E1h.size
        have _F1_3z := _F1_3.lt
        refine W_seq fun _K_41 _hK_41 => ?_
        refine W_seq fun _K_42 _hK_42 => ?_
        refine W_region ?_
        refine WL_step rfl rfl (r_move rfl) ?_
        refine WL_step rfl rfl (r_move rfl) ?_
        refine WL_step rfl rfl (r_len (by rw [el30]; rfl) rfl) ?_
        refine WL_step rfl rfl (r_lss rfl rfl) ?_
        refine WL_nil ?_
        refine thn_nrm (_hK_42 _ _ ?_)
        clear _hK_42
        refine W_cond rfl (fun _h51 => ?_) (fun _h51 => ?_)
        · have _kb_43 := _h51
          have _h51 := bt_d _h51
          refine W_skip ?_
          refine thn_nrm (_hK_41 _ _ ?_)
          clear _hK_41
          refine W_seq fun _K_44 _hK_44 => ?_
          refine W_block ?_
          have _ln954 := (od).1
          rw [grd_len] at _ln954
          obtain ⟨go954, hgo954, lso954⟩ := Ol.lsE _F1_4 (by omega)
          obtain ⟨_y954, _hy954⟩ := get_some (xs := _vs47_0) (j := k) (by omega)
          have _sm954 := _sep_vs47_0 _ (mem_of_get _hy954)
          obtain ⟨_ys954, _hys954, _fs954, _rs954⟩ := od.ownget _hy954
          obtain ⟨_A954, _n954, _C954⟩ := _y954
          obtain rfl := _fs954.ls.eqn
          have _l954 := _fs954.len
          have _lo954 : Lo _w_17.heap.size (.slice _A954 _ys954.length _C954) := fun g hg => (_rs954 g hg).1
          have hi954 : ∀ g ∈ bl (.slice _A954 _ys954.length _C954), g < _w_33.heap.size := fun g hg => (_rs954 g hg).2
          replace _fs954 : Ol bcs 4 1 _wr_40 (.slice _A954 _ys954.length _C954) _ys954 := _fs954
          have rl954 := row_len rfl _hys954
          refine W_drawC (bl (.slice _A954 _ys954.length _C954)) 15 mixed rfl fun _w_45 _cw_45 => ?_
          have _cw_45z := _cw_45.size
          have E := E.trans _cw_45
          refine DR_s 0 rfl (by kernel_rfl) rfl rfl (t_v (fun _ => (r_move rfl)) ?_)
          refine DR_s 1 rfl (by kernel_rfl) rfl rfl (t_v (fun _ => (r_move rfl)) ?_)
          have _f_46 := (lso954.ch0 _cw_45)
          refine DR_s 2 rfl (by kernel_rfl) rfl rfl (t_index _f_46 Sv.len el194 sz24 rfl rfl rfl (by omega) fun _p56 _y56 _hy56 _a56 => ?_)
          obtain rfl := get_uniq _hy954 _hy56
          replace _a56 : At _w_45 go954 (go954 + 1) _p56 ([(.slice _A954 _ys954.length _C954)]) := _a56
          refine DR_s 3 rfl (by kernel_rfl) rfl rfl (t_loadAt0 _a56 (fun i hm => ne_blk (_sm954 i hm) hgo954) agg24 rfl rfl ?_)
          refine DR_s 4 rfl (by kernel_rfl) rfl rfl (t_v (fun _ => (r_move rfl)) ?_)
          refine DR_s 5 rfl (by kernel_rfl) rfl rfl (t_v (fun _ => (r_add (by omega) rfl rfl)) ?_)
          refine DR_s 6 rfl (by kernel_rfl) rfl rfl (t_v (fun _ => (r_move rfl)) ?_)
          refine DR_s 7 rfl (by kernel_rfl) rfl rfl (t_v (fun _ => (r_move rfl)) ?_)
          have _f_47 := ((_h_wd.ch0 _E1h).ch0 _cw_45)
          refine DR_s 8 rfl (by kernel_rfl) rfl rfl (t_index _f_47 ics_len el30 sz3 rfl rfl rfl (by omega) fun _p62 _y62 _hy62 _a62 => ?_)
          refine DR_s 9 rfl (by kernel_rfl) rfl rfl (t_loadAt0 _a62 (fun i hm => by have _h1 := _lo954 _ hm; have _h2 := hi954 _ hm; omega) agg3 rfl rfl ?_)
          refine DR_s 10 rfl (by kernel_rfl) rfl rfl (t_v (fun _ => (r_fieldAddr fa126_1 rfl)) ?_)
          have _f_48 := (_F1_3.ch0 _cw_45)
          refine DR_s 11 rfl (by kernel_rfl) rfl rfl (t_loadAt _f_48.at_ (fun i hm => by have _h1 := _lo954 _ hm; have _h2 := hi954 _ hm; omega) agg3 rfl rfl ?_)
          refine DR_s 12 rfl (by kernel_rfl) rfl rfl (t_v (fun _ => (r_eql rfl rfl)) ?_)
          refine DR_one 13 (by kernel_rfl) ?_
          refine DO_s rfl rfl rfl ?_
          have _f_49 := (_fs954.ch0 _cw_45)
          refine s_indexO (j := (k + 1)) _f_49 el24 sz4 rfl rfl rfl (by first | omega | (simp; omega)) fun _g67 _o67 _cp67 _q67 => ?_
          refine ⟨(Ch.refl _ _), ?_⟩
          refine DR_one 14 (by kernel_rfl) ?_
          refine DO_s rfl rfl rfl ?_
          refine s_storeO (j := (k + 1)) (decide (_y62 = _y28.letter)) _f_49 _q67 bcs_len sz4 rfl rfl rfl rfl (by first | omega | (simp; omega)) fun _w_50 _o_51 _cw_50 => ?_
          have _f_52 := (od.ch0 _cw_45)
          have _cw_50z := _cw_50.size
          have E := E.step _cw_50 (fun i hi => .inl (by have _h1 := _lo954 _ hi; omega))
          have _od_53 := Od.set _f_52 _hy954 _hys954 _cw_50 _o_51
          have _S_54 : Ch (bl (.slice _A954 _ys954.length _C954)) _w_45 _w_50 := ((Ch.refl _ _).step _cw_50 (fun i hm => by exact .inr hm))
          refine ⟨_S_54, ?_⟩
          refine DR_done (by kernel_rfl) ?_
          refine inB_nrm ?_
          refine thn_nrm (_hK_44 _ _ ?_)
          clear _hK_44
          refine W_region ?_
          refine WL_step rfl rfl (r_move rfl) ?_
          refine WL_step rfl rfl (r_add (by omega) rfl rfl) ?_
          refine WL_step rfl rfl (r_assign rfl) ?_
          refine WL_nil ?_
          have _f_55 := ((_F1_0.ch0 _cw_45).ch _cw_50 (fun i hi => by have _h1 := _lo954 _ hi; omega))
          have _f_56 := ((_F1_2.ch0 _cw_45).ch _cw_50 (fun g hg hm => by have _h1 := _lo954 _ hm; have _h2 := hi954 _ hm; have _h3 := _lo0_6 _ hg; have _h4 := hisv _ hg; omega))
          have _f_57 := (_f_48.ch _cw_50 (fun hm => by have _h1 := _lo954 _ hm; have _h2 := hi954 _ hm; omega))
          have _f_58 := ((_F1_4.ch0 _cw_45).ch _cw_50 (fun g hg hm => by exact _sm954 _ hm hg))
          have _f_59 := ((_F1_6.ch0 _cw_45).ch _cw_50 (fun i hm => by have _h1 := _lo954 _ hm; have _h2 := hi954 _ hm; left; omega))
          exact thn_nrm (Exists.intro (k + 1) ⟨⟨E, (by omega), (by omega), _f_55, _f_56, _f_57, _f_58, _f_59, (_od_53.eq (lupt_step rfl _hys954 _hy62 rfl))⟩, Sub.cons rfl (Sub.cons rfl (Sub.cons rfl (Sub.cons rfl (Sub.cons rfl (Sub.cons rfl (Sub.cons rfl (Sub.cons rfl (Sub.cons rfl (Sub.cons rfl (Sub.cons rfl (Sub.cons rfl (Sub.cons rfl (Sub.cons rfl (Sub.nil _)))))))))))))), (by first | omega | (dsimp only; omega))⟩)
        · have _kb_43 := _h51
          have _h51 := bf_d _h51
          refine W_exit (thn_exit (thn_exit (inB_hit ?_)))
          refine thn_nrm (_hK_34 _ _ ?_)
          clear _hK_34
          refine W_region ?_
          refine WL_step rfl rfl (r_move rfl) ?_
          refine WL_step rfl rfl (r_move rfl) ?_
          refine WL_s rfl rfl ?_
          refine s_buildSlice (cs := Sv.cs) (parts := [(0, .tmp 69)]) (⟨none, 0, 0⟩ : Sv) [(⟨Au47_0, (_vs47_0).length, Cu47_0⟩ : Sv)] el196 sz194 zr194 Sv.len (by decide) rfl rfl rfl (by decide) (by decide) rfl fun _v70 _w_60 _q70 _lo70 _cw_60 => ?_
          have _cw_60z := _cw_60.size
          have E := E.trans _cw_60
          obtain ⟨_Av70, _Cv70, _ev70⟩ := _q70.val
          subst _ev70
          have _lv70 := _q70.len
          have _hiv70 := _q70.lt
          refine WL_s rfl rfl ?_
          have _f_62 := (_F1_2.ch0 _cw_60)
          refine s_append (cs := Sv.cs) el196 sz194 by194 zr194 rfl (by decide) Sv.one _f_62 _q70.ls rfl rfl (by simp only [List.length_singleton, List.length_take, List.length_drop]; omega) (by simp only [List.length_singleton, List.length_take, List.length_drop]; omega) _lo0_6 (by omega) fun _v71 _w_61 _q71 _lo71 _ap71 _cw_61 => ?_
          have _cw_61z := _cw_61.size
          have E := E.step _cw_61 (fun i hi => .inl (by have _h1 := _lo0_6 _ hi; omega))
          obtain ⟨_Av71, _Cv71, _ev71⟩ := _q71.val
          subst _ev71
          have _lv71 := _q71.len
          have _hiv71 := _q71.lt
          refine WL_step rfl rfl (r_assign rfl) ?_
          refine WL_nil ?_
          refine inB_nrm ?_
          refine inB_nrm ?_
          refine thn_nrm (_hK_12 _ _ ?_)
          clear _hK_12
          refine W_region ?_
          refine WL_step rfl rfl (r_move rfl) ?_
          refine WL_step rfl rfl (r_add (by omega) rfl rfl) ?_
          refine WL_step rfl rfl (r_assign rfl) ?_
          refine WL_nil ?_
          have _on_63 : Ol Sv.cs 194 1 _w_61 (.slice _Av71 ((vs ++ [(⟨Au47_0, (_vs47_0).length, Cu47_0⟩ : Sv)])).length _Cv71) ((vs ++ [(⟨Au47_0, (_vs47_0).length, Cu47_0⟩ : Sv)])) := by
            have hx := _q71
            exact hx
          have _f_64 := ((_F1_6.ch0 _cw_60).ch _cw_61 (fun i hm => by right; exact hm))
          have _f_65 := ((_F1_4.ch0 _cw_60).ch _cw_61 (fun g hg hm => by have _h1 := _lo0_6 _ hm; have _h2 := hisv _ hm; have _h3 := _lo_u47_0 _ hg; have _h4 := _hiu47_0 _ hg; omega))
          have _f_66 := ((od.ch0 _cw_60).ch _cw_61 (fun i hm => by have _h1 := _lo0_6 _ hm; have _h2 := hisv _ hm; omega))
          exact thn_nrm (Exists.intro ((i + 1), (vs ++ [(⟨Au47_0, (_vs47_0).length, Cu47_0⟩ : Sv)]), s2, (.slice _Av71 ((vs ++ [(⟨Au47_0, (_vs47_0).length, Cu47_0⟩ : Sv)])).length _Cv71)) ⟨⟨E, (by omega), (by omega), (by rw [es9]; simp; omega), (by rw [es9]; simp; omega), _p2, _on_63, (Lo.down _lo71 (by omega)), (by rw [es9]; exact (RT.add _f_64 (v := (⟨Au47_0, (_vs47_0).length, Cu47_0⟩ : Sv)) (Ol.lsR _f_65 (Lo.down _lo_u47_0 (by omega)) (lo := _w_17.heap.size) (hi := _w_33.heap.size) (fun g hg => by have _h1 := _hiu47_0 g hg; omega)) (Od.rdR (_f_66.eq (by rw [em3]; exact lupt_all rfl (by omega)))) (by omega) (by omega) (fun g hm => by rcases _ap71 with ea | ea; (rw [ea] at hm; have _h1 := _lo0_6 _ hm; have _h2 := hisv _ hm; omega); (have z2hm := _hiv71 _ hm; rw [ea] at hm; have _z1 := List.mem_singleton.1 hm; omega)) (fun g hm => by rcases _ap71 with ea | ea; (rw [ea] at hm; left; exact hm); (have z2hm := _hiv71 _ hm; rw [ea] at hm; have _z1 := List.mem_singleton.1 hm; right; omega))).eq (by simp_all <;> omega))⟩, Sub.cons rfl (Sub.cons rfl (Sub.cons rfl (Sub.cons rfl (Sub.cons rfl (Sub.cons rfl (Sub.nil _)))))), (by first | omega | (dsimp only; omega))⟩)
      · have _kb_31 := _h44
        have _h44 := bf_d _h44
        refine W_seq fun _K_67 _hK_67 => ?_
        refine W_region ?_
        refine WL_step rfl rfl (r_eql rfl rfl) ?_
        refine WL_step rfl rfl (r_assign rfl) ?_
        refine WL_nil ?_
        refine thn_nrm (_hK_67 _ _ ?_)
        clear _hK_67
        refine W_cond rfl (fun _h72 => ?_) (fun _h72 => ?_)
        · have _kb_68 := _h72
          have _h72 := bt_d _h72
          obtain ⟨ta, tb, r9, _e9, es9⟩ := push_k2 _p1 (by unfold arK; rw [if_pos (by omega)])
          subst _e9
          simp only [List.length_cons] at hl hs
          have em4 := ml4 (w := wd) (a := ta) (b := tb) (y := _y28) (by omega)
          refine W_seq fun _K_69 _hK_69 => ?_
          refine W_drawC [] 12 mixed rfl fun _w_70 _cw_70 => ?_
          have _cw_70z := _cw_70.size
          have E := E.trans _cw_70
          refine DR_s 0 rfl (by kernel_rfl) rfl rfl (t_v (fun _ => (r_move rfl)) ?_)
          refine DR_s 1 rfl (by kernel_rfl) rfl rfl (t_v (fun _ => (r_move rfl)) ?_)
          refine DR_s 2 rfl (by kernel_rfl) rfl rfl (t_v (fun _ => (r_sub (by omega) rfl rfl)) ?_)
          have _f_71 := (((_o0_6.ch0 _cw_16).ch _cw_17 (fun g hg hm => by have _h0 := List.mem_singleton.1 hm; have _h2 := _lo0_6 _ hg; have _h3 := hisv _ hg; omega)).ch0 _cw_70)
          have _f_72 := (((ms.ch0 _cw_16).ch _cw_17 (fun i hm => by have _h1 := List.mem_singleton.1 hm; left; omega)).ch0 _cw_70)
          refine DR_s 3 rfl (by kernel_rfl) rfl rfl (t_index (j := (((vs.length : Nat) : Int) - 2).toNat) _f_71.ls Sv.len el196 sz194 rfl rfl (by omega) (by omega) fun _p77 _y77 _hy77 _a77 => ?_)
          obtain ⟨tm77, us77, ml77, mh77, ht77, _fs77, _rd77, mb77⟩ := RT.get _f_72 _hy77
          obtain ⟨_A77, _n77, _C77⟩ := _y77
          obtain rfl := _fs77.eqn
          have _l77 := _fs77.len
          replace _fs77 : Ls Sv.cs 1 _w_70 ml77 mh77 (.slice _A77 us77.length _C77) us77 := _fs77
          obtain rfl := (top2 (by omega) ht77).symm
          replace _a77 : At _w_70 0 _w_70.heap.size _p77 ([(.slice _A77 us77.length _C77)]) := _a77
          refine DR_s 4 rfl (by kernel_rfl) rfl rfl (t_loadAt0 _a77 (fun i hi => absurd hi List.not_mem_nil) agg194 rfl rfl ?_)
          refine DR_s 5 rfl (by kernel_rfl) rfl rfl (t_v (fun _ => (r_move rfl)) ?_)
          refine DR_s 6 rfl (by kernel_rfl) rfl rfl (t_v (fun _ => (r_move rfl)) ?_)
          refine DR_s 7 rfl (by kernel_rfl) rfl rfl (t_v (fun _ => (r_sub (by omega) rfl rfl)) ?_)
          refine DR_s 8 rfl (by kernel_rfl) rfl rfl (t_index (j := (((vs.length : Nat) : Int) - 1).toNat) _f_71.ls Sv.len el196 sz194 rfl rfl (by omega) (by omega) fun _p82 _y82 _hy82 _a82 => ?_)
          obtain ⟨tm82, us82, ml82, mh82, ht82, _fs82, _rd82, mb82⟩ := RT.get _f_72 _hy82
          obtain ⟨_A82, _n82, _C82⟩ := _y82
          obtain rfl := _fs82.eqn
          have _l82 := _fs82.len
          replace _fs82 : Ls Sv.cs 1 _w_70 ml82 mh82 (.slice _A82 us82.length _C82) us82 := _fs82
          obtain rfl := (top1 (by first | omega | (simp only [List.length_cons]; omega)) ht82).symm
          replace _a82 : At _w_70 0 _w_70.heap.size _p82 ([(.slice _A82 us82.length _C82)]) := _a82
          refine DR_s 9 rfl (by kernel_rfl) rfl rfl (t_loadAt0 _a82 (fun i hi => absurd hi List.not_mem_nil) agg194 rfl rfl ?_)
          refine DR_one 10 (by kernel_rfl) ?_
          refine DO_s rfl rfl rfl ?_
          refine Step.call (r_call (xs := [.tmp 78, .tmp 83]) fk181 rfl) (c_spec_l9Joined _fs77 _rd77 _fs82 _rd82 (wd.length + 1) (mtT wd ta) (mtT wd tb) rfl rfl (mt_tri _ _) (mt_tri _ _) (by omega)) fun _v84 _w_73 _q84 => ?_
          obtain ⟨u84_0, _vs84_0, rfl, _q_u84_0, _lo_u84_0, _od_vs84_0, _sep_vs84_0, _cw_73⟩ := _q84
          have _cw_73z := _cw_73.size
          have E := E.trans _cw_73
          obtain ⟨Au84_0, Cu84_0, eu84_0⟩ := _q_u84_0.val
          subst eu84_0
          have lu84_0 := _q_u84_0.len
          have _hiu84_0 := _q_u84_0.lt
          have _S_74 : Ch [] _w_70 _w_73 := ((Ch.refl _ _).trans _cw_73)
          refine ⟨_S_74, ?_⟩
          refine DR_s 11 rfl (by kernel_rfl) rfl rfl (t_v (fun _ => (r_assign rfl)) ?_)
          refine DR_done (by kernel_rfl) ?_
          refine thn_nrm (_hK_69 _ _ ?_)
          clear _hK_69
          refine W_region ?_
          refine WL_step rfl rfl (r_move rfl) ?_
          refine WL_step rfl rfl (r_move rfl) ?_
          refine WL_step rfl rfl (r_sub (by omega) rfl rfl) ?_
          refine WL_s rfl rfl ?_
          have _f_75 := (_f_71.ch0 _cw_73)
          refine (s_cutO (ys := (vs.take ((((vs.length : Nat) : Int) - 2).toNat))) 0 ((((vs.length : Nat) : Int) - 2).toNat) _f_75 Sv.len el196 sz194 rfl rfl ⟨_, _, rfl, by omega⟩ (by omega) (by omega) rfl fun _v88 _q88 _bb88 _ln88 => ?_)
          obtain ⟨_A88, _C88, _e88⟩ := _q88.val
          subst _e88
          have _l88 := _q88.len
          have hi88 := _q88.lt
          refine WL_step rfl rfl (r_move rfl) ?_
          refine WL_s rfl rfl ?_
          refine s_buildSlice (cs := Sv.cs) (parts := [(0, .tmp 89)]) (⟨none, 0, 0⟩ : Sv) [(⟨Au84_0, (_vs84_0).length, Cu84_0⟩ : Sv)] el196 sz194 zr194 Sv.len (by decide) rfl rfl rfl (by decide) (by decide) rfl fun _v90 _w_76 _q90 _lo90 _cw_76 => ?_
          have _cw_76z := _cw_76.size
          have E := E.trans _cw_76
          obtain ⟨_Av90, _Cv90, _ev90⟩ := _q90.val
          subst _ev90
          have _lv90 := _q90.len
          have _hiv90 := _q90.lt
          refine WL_s rfl rfl ?_
          have _f_78 := (_q88.ch0 _cw_76)
          refine s_append (cs := Sv.cs) el196 sz194 by194 zr194 rfl (by decide) Sv.one _f_78 _q90.ls rfl rfl (by simp only [List.length_singleton, List.length_take, List.length_drop]; omega) (by simp only [List.length_singleton, List.length_take, List.length_drop]; omega) (fun g hg => _lo0_6 g (_bb88 ▸ hg)) (by omega) fun _v91 _w_77 _q91 _lo91 _ap91 _cw_77 => ?_
          have _cw_77z := _cw_77.size
          have E := E.step _cw_77 (fun i hi => .inl (by have _h1 := (fun g hg => _lo0_6 g (_bb88 ▸ hg)) _ hi; omega))
          obtain ⟨_Av91, _Cv91, _ev91⟩ := _q91.val
          subst _ev91
          have _lv91 := _q91.len
          have _hiv91 := _q91.lt
          refine WL_step rfl rfl (r_assign rfl) ?_
          refine WL_nil ?_
          refine inB_nrm ?_
          refine inB_nrm ?_
          refine thn_nrm (_hK_12 _ _ ?_)
          clear _hK_12
          refine W_region ?_
          refine WL_step rfl rfl (r_move rfl) ?_
          refine WL_step rfl rfl (r_add (by omega) rfl rfl) ?_
          refine WL_step rfl rfl (r_assign rfl) ?_
          refine WL_nil ?_
          have _on_79 : Ol Sv.cs 194 1 _w_77 (.slice _Av91 (((vs.take ((((vs.length : Nat) : Int) - 2).toNat)) ++ [(⟨Au84_0, (_vs84_0).length, Cu84_0⟩ : Sv)])).length _Cv91) (((vs.take ((((vs.length : Nat) : Int) - 2).toNat)) ++ [(⟨Au84_0, (_vs84_0).length, Cu84_0⟩ : Sv)])) := by
            have hx := _q91
            exact hx
          have _f_80 := (((_f_72.ch0 _cw_73).ch0 _cw_76).ch _cw_77 (fun i hm => by rw [_bb88] at hm; right; exact hm))
          have _f_81 := ((_q_u84_0.ch0 _cw_76).ch _cw_77 (fun g hg hm => by rw [_bb88] at hm; have _h1 := _lo0_6 _ hm; have _h2 := hisv _ hm; have _h3 := _lo_u84_0 _ hg; have _h4 := _hiu84_0 _ hg; omega))
          have _f_82 := ((_od_vs84_0.ch0 _cw_76).ch _cw_77 (fun i hm => by rw [_bb88] at hm; have _h1 := _lo0_6 _ hm; have _h2 := hisv _ hm; omega))
          exact thn_nrm (Exists.intro ((i + 1), ((vs.take ((((vs.length : Nat) : Int) - 2).toNat)) ++ [(⟨Au84_0, (_vs84_0).length, Cu84_0⟩ : Sv)]), s2, (.slice _Av91 (((vs.take ((((vs.length : Nat) : Int) - 2).toNat)) ++ [(⟨Au84_0, (_vs84_0).length, Cu84_0⟩ : Sv)])).length _Cv91)) ⟨⟨E, (by omega), (by omega), (by rw [es9]; simp; omega), (by rw [es9]; simp; omega), _p2, _on_79, (Lo.down _lo91 (by omega)), (by rw [es9]; exact (RT.add (RT.take _f_80 (k := 2) (by simp)) (v := (⟨Au84_0, (_vs84_0).length, Cu84_0⟩ : Sv)) (Ol.lsR _f_81 (Lo.down _lo_u84_0 (by omega)) (lo := _w_70.heap.size) (hi := _w_73.heap.size) (fun g hg => by have _h1 := _hiu84_0 g hg; omega)) (Od.rdR (_f_82.eq (by rw [em4]))) (by omega) (by omega) (fun g hm => by rcases _ap91 with ea | ea; (rw [ea] at hm; rw [_bb88] at hm; have _h1 := _lo0_6 _ hm; have _h2 := hisv _ hm; omega); (have z2hm := _hiv91 _ hm; rw [ea] at hm; have _z1 := List.mem_singleton.1 hm; omega)) (fun g hm => by rcases _ap91 with ea | ea; (rw [ea] at hm; rw [_bb88] at hm; left; exact hm); (have z2hm := _hiv91 _ hm; rw [ea] at hm; have _z1 := List.mem_singleton.1 hm; right; omega))).eq (by simp_all <;> omega))⟩, Sub.cons rfl (Sub.cons rfl (Sub.cons rfl (Sub.cons rfl (Sub.cons rfl (Sub.cons rfl (Sub.nil _)))))), (by first | omega | (dsimp only; omega))⟩)
        · have _kb_68 := _h72
          have _h72 := bf_d _h72
          refine W_seq fun _K_83 _hK_83 => ?_
          refine W_region ?_
          refine WL_step rfl rfl (r_eql rfl rfl) ?_
          refine WL_step rfl rfl (r_assign rfl) ?_
          refine WL_nil ?_
          refine thn_nrm (_hK_83 _ _ ?_)
          clear _hK_83
          refine W_cond rfl (fun _h92 => ?_) (fun _h92 => ?_)
          · have _kb_84 := _h92
            have _h92 := bt_d _h92
            obtain ⟨ta, tb, r9, _e9, es9⟩ := push_k2 _p1 (by unfold arK; rw [if_pos (by omega)])
            subst _e9
            simp only [List.length_cons] at hl hs
            have em5 := ml5 (w := wd) (a := ta) (b := tb) (y := _y28) (by omega)
            refine W_seq fun _K_85 _hK_85 => ?_
            refine W_drawC [] 12 mixed rfl fun _w_86 _cw_86 => ?_
            have _cw_86z := _cw_86.size
            have E := E.trans _cw_86
            refine DR_s 0 rfl (by kernel_rfl) rfl rfl (t_v (fun _ => (r_move rfl)) ?_)
            refine DR_s 1 rfl (by kernel_rfl) rfl rfl (t_v (fun _ => (r_move rfl)) ?_)
            refine DR_s 2 rfl (by kernel_rfl) rfl rfl (t_v (fun _ => (r_sub (by omega) rfl rfl)) ?_)
            have _f_87 := (((_o0_6.ch0 _cw_16).ch _cw_17 (fun g hg hm => by have _h0 := List.mem_singleton.1 hm; have _h2 := _lo0_6 _ hg; have _h3 := hisv _ hg; omega)).ch0 _cw_86)
            have _f_88 := (((ms.ch0 _cw_16).ch _cw_17 (fun i hm => by have _h1 := List.mem_singleton.1 hm; left; omega)).ch0 _cw_86)
            refine DR_s 3 rfl (by kernel_rfl) rfl rfl (t_index (j := (((vs.length : Nat) : Int) - 2).toNat) _f_87.ls Sv.len el196 sz194 rfl rfl (by omega) (by omega) fun _p97 _y97 _hy97 _a97 => ?_)
            obtain ⟨tm97, us97, ml97, mh97, ht97, _fs97, _rd97, mb97⟩ := RT.get _f_88 _hy97
            obtain ⟨_A97, _n97, _C97⟩ := _y97
            obtain rfl := _fs97.eqn
            have _l97 := _fs97.len
            replace _fs97 : Ls Sv.cs 1 _w_86 ml97 mh97 (.slice _A97 us97.length _C97) us97 := _fs97
            obtain rfl := (top2 (by omega) ht97).symm
            replace _a97 : At _w_86 0 _w_86.heap.size _p97 ([(.slice _A97 us97.length _C97)]) := _a97
            refine DR_s 4 rfl (by kernel_rfl) rfl rfl (t_loadAt0 _a97 (fun i hi => absurd hi List.not_mem_nil) agg194 rfl rfl ?_)
            refine DR_s 5 rfl (by kernel_rfl) rfl rfl (t_v (fun _ => (r_move rfl)) ?_)
            refine DR_s 6 rfl (by kernel_rfl) rfl rfl (t_v (fun _ => (r_move rfl)) ?_)
            refine DR_s 7 rfl (by kernel_rfl) rfl rfl (t_v (fun _ => (r_sub (by omega) rfl rfl)) ?_)
            refine DR_s 8 rfl (by kernel_rfl) rfl rfl (t_index (j := (((vs.length : Nat) : Int) - 1).toNat) _f_87.ls Sv.len el196 sz194 rfl rfl (by omega) (by omega) fun _p102 _y102 _hy102 _a102 => ?_)
            obtain ⟨tm102, us102, ml102, mh102, ht102, _fs102, _rd102, mb102⟩ := RT.get _f_88 _hy102
            obtain ⟨_A102, _n102, _C102⟩ := _y102
            obtain rfl := _fs102.eqn
            have _l102 := _fs102.len
            replace _fs102 : Ls Sv.cs 1 _w_86 ml102 mh102 (.slice _A102 us102.length _C102) us102 := _fs102
            obtain rfl := (top1 (by first | omega | (simp only [List.length_cons]; omega)) ht102).symm
            replace _a102 : At _w_86 0 _w_86.heap.size _p102 ([(.slice _A102 us102.length _C102)]) := _a102
            refine DR_s 9 rfl (by kernel_rfl) rfl rfl (t_loadAt0 _a102 (fun i hi => absurd hi List.not_mem_nil) agg194 rfl rfl ?_)
            refine DR_one 10 (by kernel_rfl) ?_
            refine DO_s rfl rfl rfl ?_
            refine Step.call (r_call (xs := [.tmp 98, .tmp 103]) fk182 rfl) (c_spec_l9Either _fs97 _rd97 _fs102 _rd102 (wd.length + 1) (mtT wd ta) (mtT wd tb) rfl rfl (mt_tri _ _) (mt_tri _ _) (by omega)) fun _v104 _w_89 _q104 => ?_
            obtain ⟨u104_0, _vs104_0, rfl, _q_u104_0, _lo_u104_0, _od_vs104_0, _sep_vs104_0, _cw_89⟩ := _q104
            have _cw_89z := _cw_89.size
            have E := E.trans _cw_89
            obtain ⟨Au104_0, Cu104_0, eu104_0⟩ := _q_u104_0.val
            subst eu104_0
            have lu104_0 := _q_u104_0.len
            have _hiu104_0 := _q_u104_0.lt
            have _S_90 : Ch [] _w_86 _w_89 := ((Ch.refl _ _).trans _cw_89)
            refine ⟨_S_90, ?_⟩
            refine DR_s 11 rfl (by kernel_rfl) rfl rfl (t_v (fun _ => (r_assign rfl)) ?_)
            refine DR_done (by kernel_rfl) ?_
            refine thn_nrm (_hK_85 _ _ ?_)
            clear _hK_85
            refine W_region ?_
            refine WL_step rfl rfl (r_move rfl) ?_
            refine WL_step rfl rfl (r_move rfl) ?_
            refine WL_step rfl rfl (r_sub (by omega) rfl rfl) ?_
            refine WL_s rfl rfl ?_
            have _f_91 := (_f_87.ch0 _cw_89)
            refine (s_cutO (ys := (vs.take ((((vs.length : Nat) : Int) - 2).toNat))) 0 ((((vs.length : Nat) : Int) - 2).toNat) _f_91 Sv.len el196 sz194 rfl rfl ⟨_, _, rfl, by omega⟩ (by omega) (by omega) rfl fun _v108 _q108 _bb108 _ln108 => ?_)
            obtain ⟨_A108, _C108, _e108⟩ := _q108.val
            subst _e108
            have _l108 := _q108.len
            have hi108 := _q108.lt
            refine WL_step rfl rfl (r_move rfl) ?_
            refine WL_s rfl rfl ?_
            refine s_buildSlice (cs := Sv.cs) (parts := [(0, .tmp 109)]) (⟨none, 0, 0⟩ : Sv) [(⟨Au104_0, (_vs104_0).length, Cu104_0⟩ : Sv)] el196 sz194 zr194 Sv.len (by decide) rfl rfl rfl (by decide) (by decide) rfl fun _v110 _w_92 _q110 _lo110 _cw_92 => ?_
            have _cw_92z := _cw_92.size
            have E := E.trans _cw_92
            obtain ⟨_Av110, _Cv110, _ev110⟩ := _q110.val
            subst _ev110
            have _lv110 := _q110.len
            have _hiv110 := _q110.lt
            refine WL_s rfl rfl ?_
            have _f_94 := (_q108.ch0 _cw_92)
            refine s_append (cs := Sv.cs) el196 sz194 by194 zr194 rfl (by decide) Sv.one _f_94 _q110.ls rfl rfl (by simp only [List.length_singleton, List.length_take, List.length_drop]; omega) (by simp only [List.length_singleton, List.length_take, List.length_drop]; omega) (fun g hg => _lo0_6 g (_bb108 ▸ hg)) (by omega) fun _v111 _w_93 _q111 _lo111 _ap111 _cw_93 => ?_
            have _cw_93z := _cw_93.size
            have E := E.step _cw_93 (fun i hi => .inl (by have _h1 := (fun g hg => _lo0_6 g (_bb108 ▸ hg)) _ hi; omega))
            obtain ⟨_Av111, _Cv111, _ev111⟩ := _q111.val
            subst _ev111
            have _lv111 := _q111.len
            have _hiv111 := _q111.lt
            refine WL_step rfl rfl (r_assign rfl) ?_
            refine WL_nil ?_
            refine inB_nrm ?_
            refine inB_nrm ?_
            refine thn_nrm (_hK_12 _ _ ?_)
            clear _hK_12
            refine W_region ?_
            refine WL_step rfl rfl (r_move rfl) ?_
            refine WL_step rfl rfl (r_add (by omega) rfl rfl) ?_
            refine WL_step rfl rfl (r_assign rfl) ?_
            refine WL_nil ?_
            have _on_95 : Ol Sv.cs 194 1 _w_93 (.slice _Av111 (((vs.take ((((vs.length : Nat) : Int) - 2).toNat)) ++ [(⟨Au104_0, (_vs104_0).length, Cu104_0⟩ : Sv)])).length _Cv111) (((vs.take ((((vs.length : Nat) : Int) - 2).toNat)) ++ [(⟨Au104_0, (_vs104_0).length, Cu104_0⟩ : Sv)])) := by
              have hx := _q111
              exact hx
            have _f_96 := (((_f_88.ch0 _cw_89).ch0 _cw_92).ch _cw_93 (fun i hm => by rw [_bb108] at hm; right; exact hm))
            have _f_97 := ((_q_u104_0.ch0 _cw_92).ch _cw_93 (fun g hg hm => by rw [_bb108] at hm; have _h1 := _lo0_6 _ hm; have _h2 := hisv _ hm; have _h3 := _lo_u104_0 _ hg; have _h4 := _hiu104_0 _ hg; omega))
            have _f_98 := ((_od_vs104_0.ch0 _cw_92).ch _cw_93 (fun i hm => by rw [_bb108] at hm; have _h1 := _lo0_6 _ hm; have _h2 := hisv _ hm; omega))
            exact thn_nrm (Exists.intro ((i + 1), ((vs.take ((((vs.length : Nat) : Int) - 2).toNat)) ++ [(⟨Au104_0, (_vs104_0).length, Cu104_0⟩ : Sv)]), s2, (.slice _Av111 (((vs.take ((((vs.length : Nat) : Int) - 2).toNat)) ++ [(⟨Au104_0, (_vs104_0).length, Cu104_0⟩ : Sv)])).length _Cv111)) ⟨⟨E, (by omega), (by omega), (by rw [es9]; simp; omega), (by rw [es9]; simp; omega), _p2, _on_95, (Lo.down _lo111 (by omega)), (by rw [es9]; exact (RT.add (RT.take _f_96 (k := 2) (by simp)) (v := (⟨Au104_0, (_vs104_0).length, Cu104_0⟩ : Sv)) (Ol.lsR _f_97 (Lo.down _lo_u104_0 (by omega)) (lo := _w_86.heap.size) (hi := _w_89.heap.size) (fun g hg => by have _h1 := _hiu104_0 g hg; omega)) (Od.rdR (_f_98.eq (by rw [em5]))) (by omega) (by omega) (fun g hm => by rcases _ap111 with ea | ea; (rw [ea] at hm; rw [_bb108] at hm; have _h1 := _lo0_6 _ hm; have _h2 := hisv _ hm; omega); (have z2hm := _hiv111 _ hm; rw [ea] at hm; have _z1 := List.mem_singleton.1 hm; omega)) (fun g hm => by rcases _ap111 with ea | ea; (rw [ea] at hm; rw [_bb108] at hm; left; exact hm); (have z2hm := _hiv111 _ hm; rw [ea] at hm; have _z1 := List.mem_singleton.1 hm; right; omega))).eq (by simp_all <;> omega))⟩, Sub.cons rfl (Sub.cons rfl (Sub.cons rfl (Sub.cons rfl (Sub.cons rfl (Sub.cons rfl (Sub.nil _)))))), (by first | omega | (dsimp only; omega))⟩)
          · have _kb_84 := _h92
            have _h92 := bf_d _h92
            refine W_seq fun _K_99 _hK_99 => ?_
            refine W_region ?_
            refine WL_step rfl rfl (r_eql rfl rfl) ?_
            refine WL_step rfl rfl (r_assign rfl) ?_
            refine WL_nil ?_
            refine thn_nrm (_hK_99 _ _ ?_)
            clear _hK_99
            refine W_cond rfl (fun _h112 => ?_) (fun _h112 => ?_)
            · have _kb_100 := _h112
              have _h112 := bt_d _h112
              obtain ⟨ta, r9, _e9, es9⟩ := push_k1 _p1 (by unfold arK; rw [if_neg (by omega), if_pos (by omega)])
              subst _e9
              simp only [List.length_cons] at hl hs
              have em6 := ml6 (w := wd) (a := ta) (y := _y28) (by omega)
              refine W_region ?_
              refine WL_step rfl rfl (r_move rfl) ?_
              refine WL_step rfl rfl (r_move rfl) ?_
              refine WL_step rfl rfl (r_sub (by omega) rfl rfl) ?_
              refine WL_step rfl rfl (r_move rfl) ?_
              refine WL_step rfl rfl (r_move rfl) ?_
              refine WL_step rfl rfl (r_sub (by omega) rfl rfl) ?_
              refine WL_s rfl rfl ?_
              have _f_101 := ((_o0_6.ch0 _cw_16).ch _cw_17 (fun g hg hm => by have _h0 := List.mem_singleton.1 hm; have _h2 := _lo0_6 _ hg; have _h3 := hisv _ hg; omega))
              refine (s_index (j := (((vs.length : Nat) : Int) - 1).toNat) _f_101.ls Sv.len el196 sz194 rfl rfl (by omega) (by omega) fun _p120 _y120 _hy120 _a120 => ?_)
              have _f_102 := ((ms.ch0 _cw_16).ch _cw_17 (fun i hm => by have _h1 := List.mem_singleton.1 hm; left; omega))
              obtain ⟨tm120, us120, ml120, mh120, ht120, _fs120, _rd120, mb120⟩ := RT.get _f_102 _hy120
              obtain ⟨_A120, _n120, _C120⟩ := _y120
              obtain rfl := _fs120.eqn
              have _l120 := _fs120.len
              replace _fs120 : Ls Sv.cs 1 _w_17 ml120 mh120 (.slice _A120 us120.length _C120) us120 := _fs120
              obtain rfl := (top1 (by first | omega | (simp only [List.length_cons]; omega)) ht120).symm
              replace _a120 : At _w_17 0 _w_17.heap.size _p120 ([(.slice _A120 us120.length _C120)]) := _a120
              refine WL_step rfl rfl (r_loadAt0 _a120 agg194 rfl rfl) ?_
              refine WL_step rfl rfl (r_move rfl) ?_
              refine WL_step rfl rfl (r_len (by rw [el30]; rfl) rfl) ?_
              refine WL_s rfl rfl ?_
              refine Step.call (r_call (xs := [.tmp 121, .const (Go.Value.int Go.IntKind.i64 0), .tmp 123]) fk183 rfl) (c_spec_l9Repeated _fs120 _rd120 _ _ (wd.length + 1) (mtT wd ta) rfl (mt_tri _ _) (by omega) (by omega)) fun _v124 _w_103 _q124 => ?_
              obtain ⟨u124_0, _vs124_0, rfl, _q_u124_0, _lo_u124_0, _od_vs124_0, _sep_vs124_0, _cw_103⟩ := _q124
              have _cw_103z := _cw_103.size
              have E := E.trans _cw_103
              obtain ⟨Au124_0, Cu124_0, eu124_0⟩ := _q_u124_0.val
              subst eu124_0
              have lu124_0 := _q_u124_0.len
              have _hiu124_0 := _q_u124_0.lt
              refine WL_s rfl rfl ?_
              have _f_104 := (_f_101.ch0 _cw_103)
              refine s_indexO (j := (((vs.length : Nat) : Int) - 1).toNat) _f_104 el196 sz194 rfl rfl (by omega) (by first | omega | (simp; omega)) fun _g125 _o125 _cp125 _q125 => ?_
              refine WL_s rfl rfl ?_
              refine s_storeO (j := (((vs.length : Nat) : Int) - 1).toNat) (⟨Au124_0, (_vs124_0).length, Cu124_0⟩ : Sv) _f_104 _q125 Sv.len sz194 rfl rfl rfl rfl (by first | omega | (simp; omega)) fun _w_105 _o_106 _cw_105 => ?_
              have _cw_105z := _cw_105.size
              have E := E.step _cw_105 (fun i hi => .inl (by have _h1 := _lo0_6 _ hi; omega))
              refine WL_nil ?_
              refine inB_nrm ?_
              refine inB_nrm ?_
              refine thn_nrm (_hK_12 _ _ ?_)
              clear _hK_12
              refine W_region ?_
              refine WL_step rfl rfl (r_move rfl) ?_
              refine WL_step rfl rfl (r_add (by omega) rfl rfl) ?_
              refine WL_step rfl rfl (r_assign rfl) ?_
              refine WL_nil ?_
              have _on_107 : Ol Sv.cs 194 1 _w_105 (.slice Asv (vs).length Csv) ((vs.set ((((vs.length : Nat) : Int) - 1).toNat) (⟨Au124_0, (_vs124_0).length, Cu124_0⟩ : Sv))) := by
                have hx := _o_106
                exact hx
              have _f_108 := ((_f_102.ch0 _cw_103).ch _cw_105 (fun i hm => by right; exact hm))
              have _f_109 := (_q_u124_0.ch _cw_105 (fun g hg hm => by have _h1 := _lo0_6 _ hm; have _h2 := hisv _ hm; have _h3 := _lo_u124_0 _ hg; have _h4 := _hiu124_0 _ hg; omega))
              have _f_110 := (_od_vs124_0.ch _cw_105 (fun i hm => by have _h1 := _lo0_6 _ hm; have _h2 := hisv _ hm; omega))
              exact thn_nrm (Exists.intro ((i + 1), (vs.set ((((vs.length : Nat) : Int) - 1).toNat) (⟨Au124_0, (_vs124_0).length, Cu124_0⟩ : Sv)), s2, (.slice Asv (vs).length Csv)) ⟨⟨E, (by omega), (by omega), (by rw [es9]; simp; omega), (by rw [es9]; simp; omega), _p2, _on_107, (Lo.down _lo0_6 (by omega)), (by rw [es9]; exact (RT.add (RT.take _f_108 (k := 1) (by simp)) (v := (⟨Au124_0, (_vs124_0).length, Cu124_0⟩ : Sv)) (Ol.lsR _f_109 (Lo.down _lo_u124_0 (by omega)) (lo := _w_17.heap.size) (hi := _w_103.heap.size) (fun g hg => by have _h1 := _hiu124_0 g hg; omega)) (Od.rdR (_f_110.eq (by rw [em6]; exact congrArg (fun z => grd (wd.length + 1) (repM (wd.length + 1) (mtT wd ta) 0 z)) (by omega)))) (by omega) (by omega) (fun g hm => by have _h1 := _lo0_6 _ hm; have _h2 := hisv _ hm; omega) (fun g hm => by left; exact hm)).eq (set_last (by omega)))⟩, Sub.cons rfl (Sub.cons rfl (Sub.cons rfl (Sub.cons rfl (Sub.cons rfl (Sub.cons rfl (Sub.nil _)))))), (by first | omega | (dsimp only; omega))⟩)
            · have _kb_100 := _h112
              have _h112 := bf_d _h112
              refine W_seq fun _K_111 _hK_111 => ?_
              refine W_region ?_
              refine WL_step rfl rfl (r_eql rfl rfl) ?_
              refine WL_step rfl rfl (r_assign rfl) ?_
              refine WL_nil ?_
              refine thn_nrm (_hK_111 _ _ ?_)
              clear _hK_111
              refine W_cond rfl (fun _h126 => ?_) (fun _h126 => ?_)
              · have _kb_112 := _h126
                have _h126 := bt_d _h126
                obtain ⟨ta, r9, _e9, es9⟩ := push_k1 _p1 (by unfold arK; rw [if_neg (by omega), if_pos (by omega)])
                subst _e9
                simp only [List.length_cons] at hl hs
                have em7 := ml7 (w := wd) (a := ta) (y := _y28) (by omega)
                have hh9 := push_hi _p1 (by omega)
                refine W_drawC (bl (.slice Asv (vs).length Csv)) 15 mixed rfl fun _w_113 _cw_113 => ?_
                have _cw_113z := _cw_113.size
                have E := E.trans _cw_113
                refine DR_s 0 rfl (by kernel_rfl) rfl rfl (t_v (fun _ => (r_move rfl)) ?_)
                refine DR_s 1 rfl (by kernel_rfl) rfl rfl (t_v (fun _ => (r_move rfl)) ?_)
                refine DR_s 2 rfl (by kernel_rfl) rfl rfl (t_v (fun _ => (r_sub (by omega) rfl rfl)) ?_)
                refine DR_s 3 rfl (by kernel_rfl) rfl rfl (t_v (fun _ => (r_move rfl)) ?_)
                refine DR_s 4 rfl (by kernel_rfl) rfl rfl (t_v (fun _ => (r_move rfl)) ?_)
                refine DR_s 5 rfl (by kernel_rfl) rfl rfl (t_v (fun _ => (r_sub (by omega) rfl rfl)) ?_)
                refine DR_s 8 rfl (by kernel_rfl) rfl rfl (t_v (fun _ => (r_fieldAddr fa126_2 rfl)) ?_)
                have _f_114 := (_m_18.ch0 _cw_113)
                refine DR_s 9 rfl (by kernel_rfl) rfl rfl (t_loadAt _f_114.at_ (fun i hm => by have _h1 := _lo0_6 _ hm; have _h2 := hisv _ hm; omega) agg3 rfl rfl ?_)
                refine DR_s 10 rfl (by kernel_rfl) rfl rfl (t_v (fun _ => (r_fieldAddr fa126_3 rfl)) ?_)
                refine DR_s 11 rfl (by kernel_rfl) rfl rfl (t_loadAt _f_114.at_ (fun i hm => by have _h1 := _lo0_6 _ hm; have _h2 := hisv _ hm; omega) agg3 rfl rfl ?_)
                refine DR_one 6 (by kernel_rfl) ?_
                refine DO_s rfl rfl rfl ?_
                have _f_115 := (((_o0_6.ch0 _cw_16).ch _cw_17 (fun g hg hm => by have _h0 := List.mem_singleton.1 hm; have _h2 := _lo0_6 _ hg; have _h3 := hisv _ hg; omega)).ch0 _cw_113)
                refine (s_index (j := (((vs.length : Nat) : Int) - 1).toNat) _f_115.ls Sv.len el196 sz194 rfl rfl (by omega) (by omega) fun _p134 _y134 _hy134 _a134 => ?_)
                have _f_116 := (((ms.ch0 _cw_16).ch _cw_17 (fun i hm => by have _h1 := List.mem_singleton.1 hm; left; omega)).ch0 _cw_113)
                obtain ⟨tm134, us134, ml134, mh134, ht134, _fs134, _rd134, mb134⟩ := RT.get _f_116 _hy134
                obtain ⟨_A134, _n134, _C134⟩ := _y134
                obtain rfl := _fs134.eqn
                have _l134 := _fs134.len
                replace _fs134 : Ls Sv.cs 1 _w_113 ml134 mh134 (.slice _A134 us134.length _C134) us134 := _fs134
                obtain rfl := (top1 (by first | omega | (simp only [List.length_cons]; omega)) ht134).symm
                replace _a134 : At _w_113 0 _w_113.heap.size _p134 ([(.slice _A134 us134.length _C134)]) := _a134
                refine ⟨(Ch.refl _ _), ?_⟩
                refine DR_one 7 (by kernel_rfl) ?_
                refine DO_s rfl rfl rfl ?_
                refine s_v (r_loadAt0 _a134 agg194 rfl rfl) ?_
                refine ⟨(Ch.refl _ _), ?_⟩
                refine DR_one 12 (by kernel_rfl) ?_
                refine DO_s rfl rfl rfl ?_
                refine Step.call (r_call (xs := [.tmp 135, .tmp 137, .tmp 139]) fk183 rfl) (c_spec_l9Repeated _fs134 _rd134 _ _ (wd.length + 1) (mtT wd ta) rfl (mt_tri _ _) (by omega) (by omega)) fun _v140 _w_117 _q140 => ?_
                obtain ⟨u140_0, _vs140_0, rfl, _q_u140_0, _lo_u140_0, _od_vs140_0, _sep_vs140_0, _cw_117⟩ := _q140
                have _cw_117z := _cw_117.size
                have E := E.trans _cw_117
                obtain ⟨Au140_0, Cu140_0, eu140_0⟩ := _q_u140_0.val
                subst eu140_0
                have lu140_0 := _q_u140_0.len
                have _hiu140_0 := _q_u140_0.lt
                have _S_118 : Ch (bl (.slice Asv (vs).length Csv)) _w_113 _w_117 := ((Ch.refl _ _).trans _cw_117.of_nil)
                refine ⟨_S_118, ?_⟩
                refine DR_one 13 (by kernel_rfl) ?_
                refine DO_s rfl rfl rfl ?_
                have _f_119 := (_f_115.ch0 _cw_117)
                refine s_indexO (j := (((vs.length : Nat) : Int) - 1).toNat) _f_119 el196 sz194 rfl rfl (by omega) (by first | omega | (simp; omega)) fun _g141 _o141 _cp141 _q141 => ?_
                refine ⟨_S_118, ?_⟩
                refine DR_one 14 (by kernel_rfl) ?_
                refine DO_s rfl rfl rfl ?_
                refine s_storeO (j := (((vs.length : Nat) : Int) - 1).toNat) (⟨Au140_0, (_vs140_0).length, Cu140_0⟩ : Sv) _f_119 _q141 Sv.len sz194 rfl rfl rfl rfl (by first | omega | (simp; omega)) fun _w_120 _o_121 _cw_120 => ?_
                have _cw_120z := _cw_120.size
                have E := E.step _cw_120 (fun i hi => .inl (by have _h1 := _lo0_6 _ hi; omega))
                have _S_122 : Ch (bl (.slice Asv (vs).length Csv)) _w_113 _w_120 := (_S_118.step _cw_120 (fun i hm => by exact .inr hm))
                refine ⟨_S_122, ?_⟩
                refine DR_done (by kernel_rfl) ?_
                refine inB_nrm ?_
                refine inB_nrm ?_
                refine thn_nrm (_hK_12 _ _ ?_)
                clear _hK_12
                refine W_region ?_
                refine WL_step rfl rfl (r_move rfl) ?_
                refine WL_step rfl rfl (r_add (by omega) rfl rfl) ?_
                refine WL_step rfl rfl (r_assign rfl) ?_
                refine WL_nil ?_
                have _on_123 : Ol Sv.cs 194 1 _w_120 (.slice Asv (vs).length Csv) ((vs.set ((((vs.length : Nat) : Int) - 1).toNat) (⟨Au140_0, (_vs140_0).length, Cu140_0⟩ : Sv))) := by
                  have hx := _o_121
                  exact hx
                have _f_124 := ((_f_116.ch0 _cw_117).ch _cw_120 (fun i hm => by right; exact hm))
                have _f_125 := (_q_u140_0.ch _cw_120 (fun g hg hm => by have _h1 := _lo0_6 _ hm; have _h2 := hisv _ hm; have _h3 := _lo_u140_0 _ hg; have _h4 := _hiu140_0 _ hg; omega))
                have _f_126 := (_od_vs140_0.ch _cw_120 (fun i hm => by have _h1 := _lo0_6 _ hm; have _h2 := hisv _ hm; omega))
                exact thn_nrm (Exists.intro ((i + 1), (vs.set ((((vs.length : Nat) : Int) - 1).toNat) (⟨Au140_0, (_vs140_0).length, Cu140_0⟩ : Sv)), s2, (.slice Asv (vs).length Csv)) ⟨⟨E, (by omega), (by omega), (by rw [es9]; simp; omega), (by rw [es9]; simp; omega), _p2, _on_123, (Lo.down _lo0_6 (by omega)), (by rw [es9]; exact (RT.add (RT.take _f_124 (k := 1) (by simp)) (v := (⟨Au140_0, (_vs140_0).length, Cu140_0⟩ : Sv)) (Ol.lsR _f_125 (Lo.down _lo_u140_0 (by omega)) (lo := _w_113.heap.size) (hi := _w_117.heap.size) (fun g hg => by have _h1 := _hiu140_0 g hg; omega)) (Od.rdR (_f_126.eq (by rw [em7]))) (by omega) (by omega) (fun g hm => by have _h1 := _lo0_6 _ hm; have _h2 := hisv _ hm; omega) (fun g hm => by left; exact hm)).eq (set_last (by omega)))⟩, Sub.cons rfl (Sub.cons rfl (Sub.cons rfl (Sub.cons rfl (Sub.cons rfl (Sub.cons rfl (Sub.nil _)))))), (by first | omega | (dsimp only; omega))⟩)
              · have _kb_112 := _h126
                have _h126 := bf_d _h126
                have es9 := push_k0 _p1 (by unfold arK; rw [if_neg (by omega), if_neg (by omega)])
                have em0 := ml0 (w := wd) (y := _y28) ⟨by omega, by omega⟩
                refine W_region ?_
                refine WL_step rfl rfl (r_move rfl) ?_
                refine WL_step rfl rfl (r_move rfl) ?_
                refine WL_s rfl rfl ?_
                refine Step.call (r_call (xs := [.tmp 33, .const (Go.Value.bool false)]) fk180 rfl) (c_spec_l9Grid (wd.length + 1) _ (by omega)) fun _v34 _w_127 _q34 => ?_
                obtain ⟨u34_0, _vs34_0, rfl, _q_u34_0, _lo_u34_0, _od_vs34_0, _sep_vs34_0, _cw_127⟩ := _q34
                have _cw_127z := _cw_127.size
                have E := E.trans _cw_127
                obtain ⟨Au34_0, Cu34_0, eu34_0⟩ := _q_u34_0.val
                subst eu34_0
                have lu34_0 := _q_u34_0.len
                have _hiu34_0 := _q_u34_0.lt
                refine WL_s rfl rfl ?_
                refine s_buildSlice (cs := Sv.cs) (parts := [(0, .tmp 34)]) (⟨none, 0, 0⟩ : Sv) [(⟨Au34_0, (_vs34_0).length, Cu34_0⟩ : Sv)] el196 sz194 zr194 Sv.len (by decide) rfl rfl rfl (by decide) (by decide) rfl fun _v35 _w_128 _q35 _lo35 _cw_128 => ?_
                have _cw_128z := _cw_128.size
                have E := E.trans _cw_128
                obtain ⟨_Av35, _Cv35, _ev35⟩ := _q35.val
                subst _ev35
                have _lv35 := _q35.len
                have _hiv35 := _q35.lt
                refine WL_s rfl rfl ?_
                have _f_130 := ((((_o0_6.ch0 _cw_16).ch _cw_17 (fun g hg hm => by have _h0 := List.mem_singleton.1 hm; have _h2 := _lo0_6 _ hg; have _h3 := hisv _ hg; omega)).ch0 _cw_127).ch0 _cw_128)
                refine s_append (cs := Sv.cs) el196 sz194 by194 zr194 rfl (by decide) Sv.one _f_130 _q35.ls rfl rfl (by simp only [List.length_singleton, List.length_take, List.length_drop]; omega) (by simp only [List.length_singleton, List.length_take, List.length_drop]; omega) _lo0_6 (by omega) fun _v36 _w_129 _q36 _lo36 _ap36 _cw_129 => ?_
                have _cw_129z := _cw_129.size
                have E := E.step _cw_129 (fun i hi => .inl (by have _h1 := _lo0_6 _ hi; omega))
                obtain ⟨_Av36, _Cv36, _ev36⟩ := _q36.val
                subst _ev36
                have _lv36 := _q36.len
                have _hiv36 := _q36.lt
                refine WL_step rfl rfl (r_assign rfl) ?_
                refine WL_nil ?_
                refine inB_nrm ?_
                refine inB_nrm ?_
                refine thn_nrm (_hK_12 _ _ ?_)
                clear _hK_12
                refine W_region ?_
                refine WL_step rfl rfl (r_move rfl) ?_
                refine WL_step rfl rfl (r_add (by omega) rfl rfl) ?_
                refine WL_step rfl rfl (r_assign rfl) ?_
                refine WL_nil ?_
                have _on_131 : Ol Sv.cs 194 1 _w_129 (.slice _Av36 ((vs ++ [(⟨Au34_0, (_vs34_0).length, Cu34_0⟩ : Sv)])).length _Cv36) ((vs ++ [(⟨Au34_0, (_vs34_0).length, Cu34_0⟩ : Sv)])) := by
                  have hx := _q36
                  exact hx
                have _f_132 := (((((ms.ch0 _cw_16).ch _cw_17 (fun i hm => by have _h1 := List.mem_singleton.1 hm; left; omega)).ch0 _cw_127).ch0 _cw_128).ch _cw_129 (fun i hm => by right; exact hm))
                have _f_133 := ((_q_u34_0.ch0 _cw_128).ch _cw_129 (fun g hg hm => by have _h1 := _lo0_6 _ hm; have _h2 := hisv _ hm; have _h3 := _lo_u34_0 _ hg; have _h4 := _hiu34_0 _ hg; omega))
                have _f_134 := ((_od_vs34_0.ch0 _cw_128).ch _cw_129 (fun i hm => by have _h1 := _lo0_6 _ hm; have _h2 := hisv _ hm; omega))
                exact thn_nrm (Exists.intro ((i + 1), (vs ++ [(⟨Au34_0, (_vs34_0).length, Cu34_0⟩ : Sv)]), s2, (.slice _Av36 ((vs ++ [(⟨Au34_0, (_vs34_0).length, Cu34_0⟩ : Sv)])).length _Cv36)) ⟨⟨E, (by omega), (by omega), (by rw [es9]; simp; omega), (by rw [es9]; simp; omega), _p2, _on_131, (Lo.down _lo36 (by omega)), (by rw [es9]; exact (RT.add _f_132 (v := (⟨Au34_0, (_vs34_0).length, Cu34_0⟩ : Sv)) (Ol.lsR _f_133 (Lo.down _lo_u34_0 (by omega)) (lo := _w_17.heap.size) (hi := _w_127.heap.size) (fun g hg => by have _h1 := _hiu34_0 g hg; omega)) (Od.rdR (_f_134.eq (by rw [em0]))) (by omega) (by omega) (fun g hm => by rcases _ap36 with ea | ea; (rw [ea] at hm; have _h1 := _lo0_6 _ hm; have _h2 := hisv _ hm; omega); (have z2hm := _hiv36 _ hm; rw [ea] at hm; have _z1 := List.mem_singleton.1 hm; omega)) (fun g hm => by rcases _ap36 with ea | ea; (rw [ea] at hm; left; exact hm); (have z2hm := _hiv36 _ hm; rw [ea] at hm; have _z1 := List.mem_singleton.1 hm; right; omega))).eq (by simp_all <;> omega))⟩, Sub.cons rfl (Sub.cons rfl (Sub.cons rfl (Sub.cons rfl (Sub.cons rfl (Sub.cons rfl (Sub.nil _)))))), (by first | omega | (dsimp only; omega))⟩)
  · have _kb_11 := _h21
    have _h21 := bf_d _h21
    have ef9 := prs_fin _ht hp (by omega)
    subst ef9
    simp only [List.length_cons, List.length_nil] at hl
    refine W_exit (thn_exit (thn_exit (inB_hit ?_)))
    refine thn_nrm (_hK_5 _ _ ?_)
    clear _hK_5
    refine W_seq fun _K_135 _hK_135 => ?_
    refine W_region ?_
    refine WL_step rfl rfl (r_move rfl) ?_
    refine WL_s rfl rfl ?_
    refine (s_index (j := 0) _o0_6.ls Sv.len el196 sz194 rfl rfl rfl (by omega) fun _p143 _y143 _hy143 _a143 => ?_)
    obtain ⟨tm143, us143, ml143, mh143, ht143, _fs143, _rd143, mb143⟩ := RT.get ms _hy143
    obtain ⟨_A143, _n143, _C143⟩ := _y143
    obtain rfl := _fs143.eqn
    have _l143 := _fs143.len
    replace _fs143 : Ls Sv.cs 1 _wr_8 ml143 mh143 (.slice _A143 us143.length _C143) us143 := _fs143
    have _ln143 := _rd143.1
    rw [grd_len] at _ln143
    replace _a143 : At _wr_8 0 _wr_8.heap.size _p143 ([(.slice _A143 us143.length _C143)]) := _a143
    refine WL_step rfl rfl (r_loadAt0 _a143 agg194 rfl rfl) ?_
    refine WL_s rfl rfl ?_
    refine (s_index (j := 0) _fs143 Sv.len el194 sz24 rfl rfl rfl (by omega) fun _p145 _y145 _hy145 _a145 => ?_)
    obtain ⟨_ys145, _hys145, _fs145⟩ := _rd143.get _hy145
    obtain ⟨_A145, _n145, _C145⟩ := _y145
    obtain rfl := _fs145.eqn
    have _l145 := _fs145.len
    replace _fs145 : Ls bcs 1 _wr_8 ml143 mh143 (.slice _A145 _ys145.length _C145) _ys145 := _fs145
    replace _a145 : At _wr_8 ml143 mh143 _p145 ([(.slice _A145 _ys145.length _C145)]) := _a145
    have rl145 := row_len rfl _hys145
    refine WL_step rfl rfl (r_loadAt0 _a145 agg24 rfl rfl) ?_
    refine WL_step rfl rfl (r_move rfl) ?_
    refine WL_step rfl rfl (r_len (by rw [el30]; rfl) rfl) ?_
    refine WL_s rfl rfl ?_
    refine (s_index _fs145 bcs_len el24 sz4 rfl rfl rfl (by omega) fun _p149 _y149 _hy149 _a149 => ?_)
    refine WL_step rfl rfl (r_loadAt0 _a149 agg4 rfl rfl) ?_
    refine WL_step rfl rfl (r_assign rfl) ?_
    refine WL_nil ?_
    refine thn_nrm (_hK_135 _ _ ?_)
    clear _hK_135
    refine W_ret ?_
    clear _hK_9
    exact ret_intro [_] ⟨rfl, trivial⟩ ⟨congrArg Value.bool (fin_mt ht143 _hys145 _hy149), E⟩

/-- spec.MatchesWord -/
theorem c_spec_MatchesWord {w : World} {LL_e _B_e : Nat} {_v_e : Value} {e : List Token} (_h_e : Ls Token.cs 4 w LL_e _B_e _v_e e) {LL_word _B_word : Nat} {_v_word : Value} {word : List Int} (_h_word : Ls ics 1 w LL_word _B_word _v_word word) (hb : e.length ≤ 1048576) :
    Ctr Try.prog 59 #[(.agg #[_v_e]), _v_word] w (fun v w' => v = .bool (mwE e word) ∧ Ch [] w w') := by
  obtain ⟨_A_e, _C_e, _e1_e⟩ := _h_e.val
  subst _e1_e
  have _l_e := _h_e.len
  have _h_e := _h_e.here (by decide)
  obtain ⟨_A_word, _C_word, _e1_word⟩ := _h_word.val
  subst _e1_word
  have _l_word := _h_word.len
  have _h_word := _h_word.here (by decide)
  have E := Ch.refl [] w
  refine Ctr_of_W (N := 17) (vs0 := [(.agg #[(.slice _A_e e.length _C_e)]), (.slice _A_word word.length _C_word)]) Try.func59 rfl rfl rfl ?_
  refine W_seq fun _K_1 _hK_1 => ?_
  refine W_region ?_
  refine WL_s rfl rfl ?_
  refine s_box rfl fun _b2 _w_2 _m2 _cw_2 _e2 => ?_
  have _cw_2z := _cw_2.size
  have E := E.trans _cw_2
  have _z2 := _m2.lt
  replace _m2 : Blk _w_2 _b2 67 [(.slice _A_e e.length _C_e)] := _m2
  refine WL_step rfl rfl (r_assign rfl) ?_
  refine WL_nil ?_
  refine thn_nrm (_hK_1 _ _ ?_)
  clear _hK_1
  refine W_seq fun _K_3 _hK_3 => ?_
  refine W_region ?_
  refine WL_step rfl rfl (r_loadAtA0 _m2.at_ agg67 sz67 rfl) ?_
  refine WL_s rfl rfl ?_
  have _f_4 := (_h_e.ch0 _cw_2)
  refine Step.call (r_call (xs := [.tmp 5]) fk52 rfl) (c_spec_IsValidExpr _f_4 ) fun _v6 _w_5 _q6 => ?_
  obtain ⟨rfl, _cw_5⟩ := _q6
  have _cw_5z := _cw_5.size
  have E := E.trans _cw_5
  refine WL_step rfl rfl (r_move rfl) ?_
  refine WL_split (d := 7) rfl (fun _h7 => ?_) (fun _h7 => ?_)
  · have _kb_6 := _h7
    obtain ⟨_t9, ht9, ok9, f9, _n9⟩ := ivE_y _h7
    refine WL_step rfl rfl (r_move rfl) ?_
    refine WL_s rfl rfl ?_
    have _f_7 := ((_h_word.ch0 _cw_2).ch0 _cw_5)
    refine Step.call (r_call (xs := [.tmp 8]) fk57 rfl) (c_spec_IsWord _f_7 ) fun _v9 _w_8 _q9 => ?_
    obtain ⟨rfl, _cw_8⟩ := _q9
    have _cw_8z := _cw_8.size
    have E := E.trans _cw_8
    refine WL_step rfl rfl (r_pickT rfl rfl) ?_
    refine WL_step rfl rfl (r_move rfl) ?_
    refine WL_split (d := 11) rfl (fun _h11 => ?_) (fun _h11 => ?_)
    · have _kb_9 := _h11
      have _h11 := bt_t _h11
      have _h10 := _h11
      refine WL_step rfl rfl (r_fieldAddr fa67_0 rfl) ?_
      have _f_10 := ((_m2.ch0 _cw_5).ch0 _cw_8)
      refine WL_step rfl rfl (r_loadAt _f_10.at_ agg65 rfl rfl) ?_
      refine WL_step rfl rfl (r_move rfl) ?_
      refine WL_s rfl rfl ?_
      have _f_11 := ((_f_4.ch0 _cw_5).ch0 _cw_8)
      have _f_12 := (_f_7.ch0 _cw_8)
      refine Step.call (r_call (xs := [.tmp 13, .tmp 14]) fk131 rfl) (c_spec_l9Match _f_11 _f_12 _t9 ht9 (by have q := _h10.2; omega) (by omega)) fun _v15 _w_13 _q15 => ?_
      obtain ⟨rfl, _cw_13⟩ := _q15
      have _cw_13z := _cw_13.size
      have E := E.trans _cw_13
      refine WL_step rfl rfl (r_pickT rfl rfl) ?_
      refine WL_step rfl rfl (r_assign rfl) ?_
      refine WL_nil ?_
      refine thn_nrm (_hK_3 _ _ ?_)
      clear _hK_3
      refine W_ret ?_
      exact ret_intro [_] ⟨rfl, trivial⟩ ⟨congrArg Value.bool (by first | (rw [mwE_y _h7 _h10 ht9]; done) | (rw [mwE_n1 _h7]; done) | (rw [mwE_n2 _h11]; done)), E⟩
    · have _kb_9 := _h11
      have _h11 := bf_t _h11
      refine WL_skip rfl rfl ?_
      refine WL_skip rfl rfl ?_
      refine WL_skip rfl rfl ?_
      refine WL_skip rfl rfl ?_
      refine WL_step rfl rfl (r_pickF rfl rfl) ?_
      refine WL_step rfl rfl (r_assign rfl) ?_
      refine WL_nil ?_
      refine thn_nrm (_hK_3 _ _ ?_)
      clear _hK_3
      refine W_ret ?_
      exact ret_intro [_] ⟨rfl, trivial⟩ ⟨congrArg Value.bool (by first | (rw [mwE_y _h7 _h10 ht9]; done) | (rw [mwE_n1 _h7]; done) | (rw [mwE_n2 _h11]; done)), E⟩
  · have _kb_6 := _h7
    refine WL_skip rfl rfl ?_
    refine WL_skip rfl rfl ?_
    refine WL_step rfl rfl (r_pickF rfl rfl) ?_
    refine WL_step rfl rfl (r_move rfl) ?_
    refine WL_skip rfl rfl ?_
    refine WL_skip rfl rfl ?_
    refine WL_skip rfl rfl ?_
    refine WL_skip rfl rfl ?_
    refine WL_step rfl rfl (r_pickF rfl rfl) ?_
    refine WL_step rfl rfl (r_assign rfl) ?_
    refine WL_nil ?_
    refine thn_nrm (_hK_3 _ _ ?_)
    clear _hK_3
    refine W_ret ?_
    exact ret_intro [_] ⟨rfl, trivial⟩ ⟨congrArg Value.bool (by first | (rw [mwE_y _h7 _h10 ht9]; done) | (rw [mwE_n1 _h7]; done) | (rw [mwE_n2 _h11]; done)), E⟩

/-- spec.l8Start -/
theorem c_spec_l8Start {w : World} {LL_l _B_l : Nat} {_v_l : Value} {l : List Token} (_h_l : Ls Token.cs 4 w LL_l _B_l _v_l l) (p : List Token) (t : Tr) (hok : Okd t) (hl : l = p ++ t.flat) :
    Ctr Try.prog 176 #[_v_l] w (fun v w' => v = .int .i64 (((p.length : Nat) : Int)) ∧ Ch [] w w') := by
  obtain ⟨_A_l, _C_l, _e1_l⟩ := _h_l.val
  subst _e1_l
  have _l_l := _h_l.len
  have _h_l := _h_l.here (by decide)
  have E := Ch.refl [] w
  refine Ctr_of_W (N := 20) (vs0 := [(.slice _A_l l.length _C_l)]) Try.func176 rfl rfl rfl ?_
  refine W_seq fun _K_1 _hK_1 => ?_
  refine W_region ?_
  refine WL_step rfl rfl (r_assign rfl) ?_
  refine WL_nil ?_
  refine thn_nrm (_hK_1 _ _ ?_)
  clear _hK_1
  refine W_seq fun _K_2 _hK_2 => ?_
  refine W_region ?_
  refine WL_step rfl rfl (r_assign rfl) ?_
  refine WL_nil ?_
  refine thn_nrm (_hK_2 _ _ ?_)
  clear _hK_2
  refine W_seq fun _K_3 _hK_3 => ?_
  refine W_region ?_
  refine WL_step rfl rfl (r_move rfl) ?_
  refine WL_step rfl rfl (r_len (by rw [el65]; rfl) rfl) ?_
  refine WL_step rfl rfl (r_assign rfl) ?_
  refine WL_nil ?_
  refine thn_nrm (_hK_3 _ _ ?_)
  clear _hK_3
  refine W_seq fun _K_4 _hK_4 => ?_
  refine W_block ?_
  refine W_loop (σ := Int × Int × List Tr) (fun ⟨n, k, ts⟩ => [(0, (.slice _A_l l.length _C_l)), (2, (.int .i64 0)), (3, (.int .i64 n)), (4, (.int .i64 k))]) (fun ⟨n, k, ts⟩ wx => Ch [] w wx ∧ w.heap.size ≤ wx.heap.size ∧ (0 ≤ k) ∧ (k ≤ l.length) ∧ (n = ts.length) ∧ (l.take k.toNat = p ++ flats ts) ∧ (∀ x ∈ ts, Okd x)) (fun ⟨n, k, ts⟩ => k.toNat) (1, (l.length : Int), [t]) (Sub.cons rfl (Sub.cons rfl (Sub.cons rfl (Sub.cons rfl (Sub.nil _))))) ⟨E, (Nat.le_refl _), (by omega), (by omega), rfl, (by rw [show ((l.length : Int)).toNat = l.length from by omega, List.take_length, hl]; simp [flats]), (fun x hx => by rw [List.mem_singleton.1 hx]; exact hok)⟩ ?_
  rintro ⟨n, k, ts⟩ _wr_5 ⟨E, _zz0, _h0, _hk, hn, hp, ho⟩
  have _E0h := E
  have _E0hz := _E0h.size
  have s1 := start_len hp _h0
  refine W_seq fun _K_6 _hK_6 => ?_
  refine W_seq fun _K_7 _hK_7 => ?_
  refine W_region ?_
  refine WL_step rfl rfl (r_move rfl) ?_
  refine WL_step rfl rfl (r_gtr rfl rfl) ?_
  refine WL_nil ?_
  refine thn_nrm (_hK_7 _ _ ?_)
  clear _hK_7
  refine W_cond rfl (fun _h8 => ?_) (fun _h8 => ?_)
  · have _kb_8 := _h8
    have _h8 := bt_d _h8
    refine W_skip ?_
    refine thn_nrm (_hK_6 _ _ ?_)
    clear _hK_6
    refine W_block ?_
    refine W_seq fun _K_9 _hK_9 => ?_
    refine W_region ?_
    refine WL_step rfl rfl (r_move rfl) ?_
    refine WL_step rfl rfl (r_sub (by omega) rfl rfl) ?_
    refine WL_step rfl rfl (r_assign rfl) ?_
    refine WL_nil ?_
    refine thn_nrm (_hK_9 _ _ ?_)
    clear _hK_9
    refine W_region ?_
    refine WL_step rfl rfl (r_move rfl) ?_
    refine WL_step rfl rfl (r_sub (by omega) rfl rfl) ?_
    refine WL_step rfl rfl (r_move rfl) ?_
    refine WL_step rfl rfl (r_move rfl) ?_
    refine WL_s rfl rfl ?_
    have _f_10 := (_h_l.ch0 _E0h)
    refine (s_index (j := (k - 1).toNat) _f_10 Token.len el65 sz126 rfl rfl (by omega) (by omega) fun _p15 _y15 _hy15 _a15 => ?_)
    refine WL_step rfl rfl (r_loadAtA0 _a15 agg126 sz126 rfl) ?_
    refine WL_s rfl rfl ?_
    refine Step.call (r_call (xs := [.tmp 16]) fk173 rfl) (c_spec_l8Arity _y15 ) fun _v17 _w_11 _q17 => ?_
    obtain ⟨rfl, _cw_11⟩ := _q17
    have _cw_11z := _cw_11.size
    have E := E.trans _cw_11
    have _a17 := arT_cases _y15
    obtain ⟨s2, _p2, _l2, _o2⟩ := start_step hp ho (by omega) _h0 _hk _hy15
    have s3 := start_len _p2 (by omega)
    refine WL_step rfl rfl (r_add (by omega) rfl rfl) ?_
    refine WL_step rfl rfl (r_assign rfl) ?_
    refine WL_nil ?_
    refine inB_nrm ?_
    exact thn_nrm (Exists.intro (((n - 1) + arT _y15), (k - 1), s2) ⟨⟨E, (by omega), (by omega), (by omega), (by omega), _p2, _o2⟩, Sub.cons rfl (Sub.cons rfl (Sub.cons rfl (Sub.cons rfl (Sub.nil _)))), (by first | omega | (dsimp only; omega))⟩)
  · have _kb_8 := _h8
    have _h8 := bf_d _h8
    refine W_exit (thn_exit (thn_exit (inB_hit ?_)))
    refine thn_nrm (_hK_4 _ _ ?_)
    clear _hK_4
    refine W_seq fun _K_12 _hK_12 => ?_
    refine W_region ?_
    refine WL_step rfl rfl (r_move rfl) ?_
    refine WL_step rfl rfl (r_assign rfl) ?_
    refine WL_nil ?_
    refine thn_nrm (_hK_12 _ _ ?_)
    clear _hK_12
    refine W_ret ?_
    clear _hK_6
    exact ret_intro [_] ⟨rfl, trivial⟩ ⟨congrArg (Value.int .i64) (start_end hp hn (by omega) _h0 _hk), E⟩

/-- spec.l9Null -/
theorem c_spec_l9Null_n : ∀ (n : Nat) {w : World} {LL_l _B_l : Nat} {_v_l : Value} {l : List Token} (_h_l : Ls Token.cs 4 w LL_l _B_l _v_l l) (t : Tr) (hok : Okd t) (hl : l = t.flat) (hsz : l.length < n),
    Ctr Try.prog 124 #[_v_l] w (fun v w' => v = .bool (nullT t) ∧ Ch [] w w') := by
  intro n
  induction n with
  | zero => intros; omega
  | succ n ih =>
  intro w LL_l _B_l _v_l l _h_l t hok hl hsz
  obtain ⟨_A_l, _C_l, _e1_l⟩ := _h_l.val
  subst _e1_l
  have _l_l := _h_l.len
  have _h_l := _h_l.here (by decide)
  have E := Ch.refl [] w
  have hn1 := t.flat_pos; rw [← hl] at hn1
  refine Ctr_of_W (N := 64) (vs0 := [(.slice _A_l l.length _C_l)]) Try.func124 rfl rfl rfl ?_
  refine W_seq fun _K_1 _hK_1 => ?_
  refine W_region ?_
  refine WL_step rfl rfl (r_assign rfl) ?_
  refine WL_nil ?_
  refine thn_nrm (_hK_1 _ _ ?_)
  clear _hK_1
  refine W_seq fun _K_2 _hK_2 => ?_
  refine W_region ?_
  refine WL_step rfl rfl (r_move rfl) ?_
  refine WL_step rfl rfl (r_len (by rw [el65]; rfl) rfl) ?_
  refine WL_step rfl rfl (r_sub (by omega) rfl rfl) ?_
  refine WL_step rfl rfl (r_assign rfl) ?_
  refine WL_nil ?_
  refine thn_nrm (_hK_2 _ _ ?_)
  clear _hK_2
  refine W_seq fun _K_3 _hK_3 => ?_
  refine W_region ?_
  refine WL_step rfl rfl (r_move rfl) ?_
  refine WL_step rfl rfl (r_move rfl) ?_
  refine WL_s rfl rfl ?_
  refine (s_index (j := (((l.length : Nat) : Int) - 1).toNat) _h_l Token.len el65 sz126 rfl rfl (by omega) (by omega) fun _p12 _y12 _hy12 _a12 => ?_)
  have _ht := last_tok hl (by omega) _hy12
  have htk := congrArg Token.kind _ht
  have htl := congrArg Token.low _ht
  have hth := congrArg Token.high _ht
  refine WL_step rfl rfl (r_loadAtA0 _a12 agg126 sz126 rfl) ?_
  refine WL_s rfl rfl ?_
  refine s_alloc zr126 fun _b4 _w_4 _m4 _cw_4 _e4 => ?_
  have _cw_4z := _cw_4.size
  have E := E.trans _cw_4
  have _z4 := _m4.lt
  replace _m4 : Blk _w_4 _b4 126 [(.int .i64 0), (.int .i64 0), (.int .i64 0), (.int .i64 0)] := _m4
  refine WL_s rfl rfl ?_
  refine s_storeA (off := 0) 4 _m4 sz126 rfl (us := [(.int .i64 _y12.kind), (.int .i64 _y12.letter), (.int .i64 _y12.low), (.int .i64 _y12.high)]) rfl rfl rfl rfl fun _w_5 _m_6 _cw_5 => ?_
  have _cw_5z := _cw_5.size
  have E := E.step _cw_5 (fun i hi => .inl (by have _h1 := List.mem_singleton.1 hi; omega))
  replace _m_6 : Blk _w_5 _b4 126 [(.int .i64 _y12.kind), (.int .i64 _y12.letter), (.int .i64 _y12.low), (.int .i64 _y12.high)] := _m_6
  refine WL_nil ?_
  refine thn_nrm (_hK_3 _ _ ?_)
  clear _hK_3
  refine W_seq fun _K_7 _hK_7 => ?_
  refine W_seq fun _K_8 _hK_8 => ?_
  refine W_region ?_
  refine WL_step rfl rfl (r_fieldAddr fa126_0 rfl) ?_
  refine WL_step rfl rfl (r_loadAt _m_6.at_ agg3 rfl rfl) ?_
  refine WL_nil ?_
  refine thn_nrm (_hK_8 _ _ ?_)
  clear _hK_8
  refine W_block ?_
  refine W_seq fun _K_9 _hK_9 => ?_
  refine W_seq fun _K_10 _hK_10 => ?_
  refine W_region ?_
  refine WL_step rfl rfl (r_eql rfl rfl) ?_
  refine WL_step rfl rfl (r_assign rfl) ?_
  refine WL_nil ?_
  refine thn_nrm (_hK_10 _ _ ?_)
  clear _hK_10
  refine W_cond rfl (fun _h16 => ?_) (fun _h16 => ?_)
  · have _kb_11 := _h16
    have _h16 := bt_d _h16
    refine W_skip ?_
    refine thn_nrm (_hK_9 _ _ ?_)
    clear _hK_9
    refine W_condTk rfl _kb_11 ?_
    refine W_seq fun _K_12 _hK_12 => ?_
    refine W_region ?_
    refine WL_step rfl rfl (r_assign rfl) ?_
    refine WL_nil ?_
    refine thn_nrm (_hK_12 _ _ ?_)
    clear _hK_12
    refine W_ret (inB_ret (thn_ret ?_))
    clear _hK_7
    exact ret_intro [_] ⟨rfl, trivial⟩ ⟨congrArg Value.bool (by first | exact null26 hok (by omega) | exact null0 hok (by omega) | exact null4f hok (by omega) rfl _h29 | exact null4t hok (by omega) rfl rfl _h29 | exact null5t hok (by omega) rfl _h46 | exact null5f hok (by omega) rfl rfl _h46 | exact null7t hok (by omega) (by omega) | exact null7f hok (by omega) rfl (by omega)), E⟩
  · have _kb_11 := _h16
    have _h16 := bf_d _h16
    refine W_region ?_
    refine WL_step rfl rfl (r_eql rfl rfl) ?_
    refine WL_step rfl rfl (r_assign rfl) ?_
    refine WL_nil ?_
    refine thn_nrm (_hK_9 _ _ ?_)
    clear _hK_9
    refine W_cond rfl (fun _h16 => ?_) (fun _h16 => ?_)
    · have _kb_13 := _h16
      have _h16 := bt_d _h16
      refine W_seq fun _K_14 _hK_14 => ?_
      refine W_region ?_
      refine WL_step rfl rfl (r_assign rfl) ?_
      refine WL_nil ?_
      refine thn_nrm (_hK_14 _ _ ?_)
      clear _hK_14
      refine W_ret (inB_ret (thn_ret ?_))
      clear _hK_7
      exact ret_intro [_] ⟨rfl, trivial⟩ ⟨congrArg Value.bool (by first | exact null26 hok (by omega) | exact null0 hok (by omega) | exact null4f hok (by omega) rfl _h29 | exact null4t hok (by omega) rfl rfl _h29 | exact null5t hok (by omega) rfl _h46 | exact null5f hok (by omega) rfl rfl _h46 | exact null7t hok (by omega) (by omega) | exact null7f hok (by omega) rfl (by omega)), E⟩
    · have _kb_13 := _h16
      have _h16 := bf_d _h16
      refine W_seq fun _K_15 _hK_15 => ?_
      refine W_region ?_
      refine WL_step rfl rfl (r_eql rfl rfl) ?_
      refine WL_step rfl rfl (r_assign rfl) ?_
      refine WL_nil ?_
      refine thn_nrm (_hK_15 _ _ ?_)
      clear _hK_15
      refine W_cond rfl (fun _h19 => ?_) (fun _h19 => ?_)
      · have _kb_16 := _h19
        have _h19 := bt_d _h19
        obtain ⟨kt, ta, tb, rfl⟩ := hok.two (by omega)
        have hla : l = ta.flat ++ tb.flat ++ [kt] := hl
        have hn2 := len_2 hla
        refine W_seq fun _K_17 _hK_17 => ?_
        refine W_region ?_
        refine WL_step rfl rfl (r_move rfl) ?_
        refine WL_step rfl rfl (r_move rfl) ?_
        refine WL_s rfl rfl ?_
        have _f_18 := ((_h_l.ch0 _cw_4).ch _cw_5 (fun i hi => by have _h1 := List.mem_singleton.1 hi; omega))
        refine (s_cut (ys := (l.take ((((l.length : Nat) : Int) - 1).toNat))) 0 ((((l.length : Nat) : Int) - 1).toNat) _f_18 Token.len el65 sz126 rfl rfl ⟨_, _, rfl, by omega⟩ (by omega) (by omega) rfl fun _v23 _q23 _bb23 _ln23 => ?_)
        obtain ⟨_A23, _C23, _e23⟩ := _q23.val
        subst _e23
        have _l23 := _q23.len
        refine WL_s rfl rfl ?_
        refine Step.call (r_call (xs := [.tmp 23]) fk176 rfl) (c_spec_l8Start _q23 ta.flat tb hok.2.2 (cut_ab hla (by omega))) fun _v24 _w_19 _q24 => ?_
        obtain ⟨rfl, _cw_19⟩ := _q24
        have _cw_19z := _cw_19.size
        have E := E.trans _cw_19
        refine WL_step rfl rfl (r_assign rfl) ?_
        refine WL_nil ?_
        refine thn_nrm (_hK_17 _ _ ?_)
        clear _hK_17
        refine W_seq fun _K_20 _hK_20 => ?_
        refine W_region ?_
        refine WL_step rfl rfl (r_move rfl) ?_
        refine WL_step rfl rfl (r_move rfl) ?_
        refine WL_s rfl rfl ?_
        have _f_21 := (_f_18.ch0 _cw_19)
        refine (s_cut (ys := (l.take ta.flat.length)) 0 ta.flat.length _f_21 Token.len el65 sz126 rfl rfl ⟨_, _, rfl, by omega⟩ (by omega) (by omega) rfl fun _v27 _q27 _bb27 _ln27 => ?_)
        obtain ⟨_A27, _C27, _e27⟩ := _q27.val
        subst _e27
        have _l27 := _q27.len
        refine WL_s rfl rfl ?_
        refine Step.call (r_call (xs := [.tmp 27]) fk124 rfl) (ih _q27 ta hok.2.1 (cut_a hla (by omega)) (by simp only [List.length_take, List.length_drop]; omega)) fun _v28 _w_22 _q28 => ?_
        obtain ⟨rfl, _cw_22⟩ := _q28
        have _cw_22z := _cw_22.size
        have E := E.trans _cw_22
        refine WL_step rfl rfl (r_move rfl) ?_
        refine WL_split (d := 29) rfl (fun _h29 => ?_) (fun _h29 => ?_)
        · have _kb_23 := _h29
          refine WL_step rfl rfl (r_move rfl) ?_
          refine WL_step rfl rfl (r_move rfl) ?_
          refine WL_step rfl rfl (r_move rfl) ?_
          refine WL_s rfl rfl ?_
          have _f_24 := (_f_21.ch0 _cw_22)
          refine (s_cut (ys := ((l.drop ta.flat.length).take ((((l.length : Nat) : Int) - 1).toNat - ta.flat.length))) ta.flat.length ((((l.length : Nat) : Int) - 1).toNat) _f_24 Token.len el65 sz126 rfl ⟨_, _, rfl, by omega⟩ ⟨_, _, rfl, by omega⟩ (by omega) (by omega) rfl fun _v33 _q33 _bb33 _ln33 => ?_)
          obtain ⟨_A33, _C33, _e33⟩ := _q33.val
          subst _e33
          have _l33 := _q33.len
          refine WL_s rfl rfl ?_
          refine Step.call (r_call (xs := [.tmp 33]) fk124 rfl) (ih _q33 tb hok.2.2 (cut_b hla (by omega) (by omega)) (by simp only [List.length_take, List.length_drop]; omega)) fun _v34 _w_25 _q34 => ?_
          obtain ⟨rfl, _cw_25⟩ := _q34
          have _cw_25z := _cw_25.size
          have E := E.trans _cw_25
          refine WL_step rfl rfl (r_pickT rfl rfl) ?_
          refine WL_step rfl rfl (r_assign rfl) ?_
          refine WL_nil ?_
          refine thn_nrm (_hK_20 _ _ ?_)
          clear _hK_20
          refine W_ret (inB_ret (thn_ret ?_))
          clear _hK_7
          exact ret_intro [_] ⟨rfl, trivial⟩ ⟨congrArg Value.bool (by first | exact null26 hok (by omega) | exact null0 hok (by omega) | exact null4f hok (by omega) rfl _h29 | exact null4t hok (by omega) rfl rfl _h29 | exact null5t hok (by omega) rfl _h46 | exact null5f hok (by omega) rfl rfl _h46 | exact null7t hok (by omega) (by omega) | exact null7f hok (by omega) rfl (by omega)), E⟩
        · have _kb_23 := _h29
          refine WL_skip rfl rfl ?_
          refine WL_skip rfl rfl ?_
          refine WL_skip rfl rfl ?_
          refine WL_skip rfl rfl ?_
          refine WL_skip rfl rfl ?_
          refine WL_step rfl rfl (r_pickF rfl rfl) ?_
          refine WL_step rfl rfl (r_assign rfl) ?_
          refine WL_nil ?_
          refine thn_nrm (_hK_20 _ _ ?_)
          clear _hK_20
          refine W_ret (inB_ret (thn_ret ?_))
          clear _hK_7
          exact ret_intro [_] ⟨rfl, trivial⟩ ⟨congrArg Value.bool (by first | exact null26 hok (by omega) | exact null0 hok (by omega) | exact null4f hok (by omega) rfl _h29 | exact null4t hok (by omega) rfl rfl _h29 | exact null5t hok (by omega) rfl _h46 | exact null5f hok (by omega) rfl rfl _h46 | exact null7t hok (by omega) (by omega) | exact null7f hok (by omega) rfl (by omega)), E⟩
      · have _kb_16 := _h19
        have _h19 := bf_d _h19
        refine W_seq fun _K_26 _hK_26 => ?_
        refine W_region ?_
        refine WL_step rfl rfl (r_eql rfl rfl) ?_
        refine WL_step rfl rfl (r_assign rfl) ?_
        refine WL_nil ?_
        refine thn_nrm (_hK_26 _ _ ?_)
        clear _hK_26
        refine W_cond rfl (fun _h36 => ?_) (fun _h36 => ?_)
        · have _kb_27 := _h36
          have _h36 := bt_d _h36
          obtain ⟨kt, ta, tb, rfl⟩ := hok.two (by omega)
          have hla : l = ta.flat ++ tb.flat ++ [kt] := hl
          have hn2 := len_2 hla
          refine W_seq fun _K_28 _hK_28 => ?_
          refine W_region ?_
          refine WL_step rfl rfl (r_move rfl) ?_
          refine WL_step rfl rfl (r_move rfl) ?_
          refine WL_s rfl rfl ?_
          have _f_29 := ((_h_l.ch0 _cw_4).ch _cw_5 (fun i hi => by have _h1 := List.mem_singleton.1 hi; omega))
          refine (s_cut (ys := (l.take ((((l.length : Nat) : Int) - 1).toNat))) 0 ((((l.length : Nat) : Int) - 1).toNat) _f_29 Token.len el65 sz126 rfl rfl ⟨_, _, rfl, by omega⟩ (by omega) (by omega) rfl fun _v40 _q40 _bb40 _ln40 => ?_)
          obtain ⟨_A40, _C40, _e40⟩ := _q40.val
          subst _e40
          have _l40 := _q40.len
          refine WL_s rfl rfl ?_
          refine Step.call (r_call (xs := [.tmp 40]) fk176 rfl) (c_spec_l8Start _q40 ta.flat tb hok.2.2 (cut_ab hla (by omega))) fun _v41 _w_30 _q41 => ?_
          obtain ⟨rfl, _cw_30⟩ := _q41
          have _cw_30z := _cw_30.size
          have E := E.trans _cw_30
          refine WL_step rfl rfl (r_assign rfl) ?_
          refine WL_nil ?_
          refine thn_nrm (_hK_28 _ _ ?_)
          clear _hK_28
          refine W_seq fun _K_31 _hK_31 => ?_
          refine W_region ?_
          refine WL_step rfl rfl (r_move rfl) ?_
          refine WL_step rfl rfl (r_move rfl) ?_
          refine WL_s rfl rfl ?_
          have _f_32 := (_f_29.ch0 _cw_30)
          refine (s_cut (ys := (l.take ta.flat.length)) 0 ta.flat.length _f_32 Token.len el65 sz126 rfl rfl ⟨_, _, rfl, by omega⟩ (by omega) (by omega) rfl fun _v44 _q44 _bb44 _ln44 => ?_)
          obtain ⟨_A44, _C44, _e44⟩ := _q44.val
          subst _e44
          have _l44 := _q44.len
          refine WL_s rfl rfl ?_
          refine Step.call (r_call (xs := [.tmp 44]) fk124 rfl) (ih _q44 ta hok.2.1 (cut_a hla (by omega)) (by simp only [List.length_take, List.length_drop]; omega)) fun _v45 _w_33 _q45 => ?_
          obtain ⟨rfl, _cw_33⟩ := _q45
          have _cw_33z := _cw_33.size
          have E := E.trans _cw_33
          refine WL_step rfl rfl (r_move rfl) ?_
          refine WL_split (d := 46) rfl (fun _h46 => ?_) (fun _h46 => ?_)
          · have _kb_34 := _h46
            refine WL_skip rfl rfl ?_
            refine WL_skip rfl rfl ?_
            refine WL_skip rfl rfl ?_
            refine WL_skip rfl rfl ?_
            refine WL_skip rfl rfl ?_
            refine WL_step rfl rfl (r_pickT rfl rfl) ?_
            refine WL_step rfl rfl (r_assign rfl) ?_
            refine WL_nil ?_
            refine thn_nrm (_hK_31 _ _ ?_)
            clear _hK_31
            refine W_ret (inB_ret (thn_ret ?_))
            clear _hK_7
            exact ret_intro [_] ⟨rfl, trivial⟩ ⟨congrArg Value.bool (by first | exact null26 hok (by omega) | exact null0 hok (by omega) | exact null4f hok (by omega) rfl _h29 | exact null4t hok (by omega) rfl rfl _h29 | exact null5t hok (by omega) rfl _h46 | exact null5f hok (by omega) rfl rfl _h46 | exact null7t hok (by omega) (by omega) | exact null7f hok (by omega) rfl (by omega)), E⟩
          · have _kb_34 := _h46
            refine WL_step rfl rfl (r_move rfl) ?_
            refine WL_step rfl rfl (r_move rfl) ?_
            refine WL_step rfl rfl (r_move rfl) ?_
            refine WL_s rfl rfl ?_
            have _f_35 := (_f_32.ch0 _cw_33)
            refine (s_cut (ys := ((l.drop ta.flat.length).take ((((l.length : Nat) : Int) - 1).toNat - ta.flat.length))) ta.flat.length ((((l.length : Nat) : Int) - 1).toNat) _f_35 Token.len el65 sz126 rfl ⟨_, _, rfl, by omega⟩ ⟨_, _, rfl, by omega⟩ (by omega) (by omega) rfl fun _v50 _q50 _bb50 _ln50 => ?_)
            obtain ⟨_A50, _C50, _e50⟩ := _q50.val
            subst _e50
            have _l50 := _q50.len
            refine WL_s rfl rfl ?_
            refine Step.call (r_call (xs := [.tmp 50]) fk124 rfl) (ih _q50 tb hok.2.2 (cut_b hla (by omega) (by omega)) (by simp only [List.length_take, List.length_drop]; omega)) fun _v51 _w_36 _q51 => ?_
            obtain ⟨rfl, _cw_36⟩ := _q51
            have _cw_36z := _cw_36.size
            have E := E.trans _cw_36
            refine WL_step rfl rfl (r_pickF rfl rfl) ?_
            refine WL_step rfl rfl (r_assign rfl) ?_
            refine WL_nil ?_
            refine thn_nrm (_hK_31 _ _ ?_)
            clear _hK_31
            refine W_ret (inB_ret (thn_ret ?_))
            clear _hK_7
            exact ret_intro [_] ⟨rfl, trivial⟩ ⟨congrArg Value.bool (by first | exact null26 hok (by omega) | exact null0 hok (by omega) | exact null4f hok (by omega) rfl _h29 | exact null4t hok (by omega) rfl rfl _h29 | exact null5t hok (by omega) rfl _h46 | exact null5f hok (by omega) rfl rfl _h46 | exact null7t hok (by omega) (by omega) | exact null7f hok (by omega) rfl (by omega)), E⟩
        · have _kb_27 := _h36
          have _h36 := bf_d _h36
          refine W_seq fun _K_37 _hK_37 => ?_
          refine W_region ?_
          refine WL_step rfl rfl (r_eql rfl rfl) ?_
          refine WL_step rfl rfl (r_assign rfl) ?_
          refine WL_nil ?_
          refine thn_nrm (_hK_37 _ _ ?_)
          clear _hK_37
          refine W_cond rfl (fun _h53 => ?_) (fun _h53 => ?_)
          · have _kb_38 := _h53
            have _h53 := bt_d _h53
            obtain ⟨kt, ta, rfl⟩ := hok.one (by omega)
            have hla : l = ta.flat ++ [kt] := hl
            have hn2 := len_1 hla
            refine W_seq fun _K_39 _hK_39 => ?_
            refine W_region ?_
            refine WL_step rfl rfl (r_fieldAddr fa126_2 rfl) ?_
            refine WL_step rfl rfl (r_loadAt _m_6.at_ agg3 rfl rfl) ?_
            refine WL_step rfl rfl (r_eql rfl rfl) ?_
            refine WL_step rfl rfl (r_move rfl) ?_
            refine WL_split (d := 58) rfl (fun _h58 => ?_) (fun _h58 => ?_)
            · have _kb_40 := _h58
              have _h58 := bt_d _h58
              refine WL_skip rfl rfl ?_
              refine WL_skip rfl rfl ?_
              refine WL_skip rfl rfl ?_
              refine WL_skip rfl rfl ?_
              refine WL_step rfl rfl (r_pickT rfl rfl) ?_
              refine WL_step rfl rfl (r_assign rfl) ?_
              refine WL_nil ?_
              refine thn_nrm (_hK_39 _ _ ?_)
              clear _hK_39
              refine W_ret (inB_ret (thn_ret ?_))
              clear _hK_7
              exact ret_intro [_] ⟨rfl, trivial⟩ ⟨congrArg Value.bool (by first | exact null26 hok (by omega) | exact null0 hok (by omega) | exact null4f hok (by omega) rfl _h29 | exact null4t hok (by omega) rfl rfl _h29 | exact null5t hok (by omega) rfl _h46 | exact null5f hok (by omega) rfl rfl _h46 | exact null7t hok (by omega) (by omega) | exact null7f hok (by omega) rfl (by omega)), E⟩
            · have _kb_40 := _h58
              have _h58 := bf_d _h58
              refine WL_step rfl rfl (r_move rfl) ?_
              refine WL_step rfl rfl (r_move rfl) ?_
              refine WL_s rfl rfl ?_
              have _f_41 := ((_h_l.ch0 _cw_4).ch _cw_5 (fun i hi => by have _h1 := List.mem_singleton.1 hi; omega))
              refine (s_cut (ys := (l.take ((((l.length : Nat) : Int) - 1).toNat))) 0 ((((l.length : Nat) : Int) - 1).toNat) _f_41 Token.len el65 sz126 rfl rfl ⟨_, _, rfl, by omega⟩ (by omega) (by omega) rfl fun _v61 _q61 _bb61 _ln61 => ?_)
              obtain ⟨_A61, _C61, _e61⟩ := _q61.val
              subst _e61
              have _l61 := _q61.len
              refine WL_s rfl rfl ?_
              refine Step.call (r_call (xs := [.tmp 61]) fk124 rfl) (ih _q61 ta hok.2 (cut_1 hla (by omega)) (by simp only [List.length_take, List.length_drop]; omega)) fun _v62 _w_42 _q62 => ?_
              obtain ⟨rfl, _cw_42⟩ := _q62
              have _cw_42z := _cw_42.size
              have E := E.trans _cw_42
              refine WL_step rfl rfl (r_pickF rfl rfl) ?_
              refine WL_step rfl rfl (r_assign rfl) ?_
              refine WL_nil ?_
              refine thn_nrm (_hK_39 _ _ ?_)
              clear _hK_39
              refine W_ret (inB_ret (thn_ret ?_))
              clear _hK_7
              exact ret_intro [_] ⟨rfl, trivial⟩ ⟨congrArg Value.bool (by first | exact null26 hok (by omega) | exact null0 hok (by omega) | exact null4f hok (by omega) rfl _h29 | exact null4t hok (by omega) rfl rfl _h29 | exact null5t hok (by omega) rfl _h46 | exact null5f hok (by omega) rfl rfl _h46 | exact null7t hok (by omega) (by omega) | exact null7f hok (by omega) rfl (by omega)), E⟩
          · have _kb_38 := _h53
            have _h53 := bf_d _h53
            refine W_skip ?_
            refine inB_nrm ?_
            refine thn_nrm (_hK_7 _ _ ?_)
            clear _hK_7
            refine W_seq fun _K_43 _hK_43 => ?_
            refine W_region ?_
            refine WL_step rfl rfl (r_assign rfl) ?_
            refine WL_nil ?_
            refine thn_nrm (_hK_43 _ _ ?_)
            clear _hK_43
            refine W_ret ?_
            exact ret_intro [_] ⟨rfl, trivial⟩ ⟨congrArg Value.bool (by first | exact null26 hok (by omega) | exact null0 hok (by omega) | exact null4f hok (by omega) rfl _h29 | exact null4t hok (by omega) rfl rfl _h29 | exact null5t hok (by omega) rfl _h46 | exact null5f hok (by omega) rfl rfl _h46 | exact null7t hok (by omega) (by omega) | exact null7f hok (by omega) rfl (by omega)), E⟩
theorem c_spec_l9Null {w : World} {LL_l _B_l : Nat} {_v_l : Value} {l : List Token} (_h_l : Ls Token.cs 4 w LL_l _B_l _v_l l) (t : Tr) (hok : Okd t) (hl : l = t.flat) :
    Ctr Try.prog 124 #[_v_l] w (fun v w' => v = .bool (nullT t) ∧ Ch [] w w') := c_spec_l9Null_n _ _h_l t hok hl (Nat.lt_succ_self _)

/-- spec.Nullable -/
theorem c_spec_Nullable {w : World} {LL_e _B_e : Nat} {_v_e : Value} {e : List Token} (_h_e : Ls Token.cs 4 w LL_e _B_e _v_e e) :
    Ctr Try.prog 55 #[(.agg #[_v_e])] w (fun v w' => v = .bool (nullE e) ∧ Ch [] w w') := by
  obtain ⟨_A_e, _C_e, _e1_e⟩ := _h_e.val
  subst _e1_e
  have _l_e := _h_e.len
  have _h_e := _h_e.here (by decide)
  have E := Ch.refl [] w
  refine Ctr_of_W (N := 10) (vs0 := [(.agg #[(.slice _A_e e.length _C_e)])]) Try.func55 rfl rfl rfl ?_
  refine W_seq fun _K_1 _hK_1 => ?_
  refine W_region ?_
  refine WL_s rfl rfl ?_
  refine s_box rfl fun _b1 _w_2 _m1 _cw_2 _e1 => ?_
  have _cw_2z := _cw_2.size
  have E := E.trans _cw_2
  have _z1 := _m1.lt
  replace _m1 : Blk _w_2 _b1 67 [(.slice _A_e e.length _C_e)] := _m1
  refine WL_step rfl rfl (r_assign rfl) ?_
  refine WL_nil ?_
  refine thn_nrm (_hK_1 _ _ ?_)
  clear _hK_1
  refine W_seq fun _K_3 _hK_3 => ?_
  refine W_region ?_
  refine WL_step rfl rfl (r_loadAtA0 _m1.at_ agg67 sz67 rfl) ?_
  refine WL_s rfl rfl ?_
  have _f_4 := (_h_e.ch0 _cw_2)
  refine Step.call (r_call (xs := [.tmp 3]) fk121 rfl) (c_spec_IsExpr _f_4 ) fun _v4 _w_5 _q4 => ?_
  obtain ⟨rfl, _cw_5⟩ := _q4
  have _cw_5z := _cw_5.size
  have E := E.trans _cw_5
  refine WL_step rfl rfl (r_move rfl) ?_
  refine WL_split (d := 5) rfl (fun _h5 => ?_) (fun _h5 => ?_)
  · have _kb_6 := _h5
    obtain ⟨_t5, _e5, _o5, f5⟩ := isE_y _h5
    refine WL_step rfl rfl (r_fieldAddr fa67_0 rfl) ?_
    have _f_7 := (_m1.ch0 _cw_5)
    refine WL_step rfl rfl (r_loadAt _f_7.at_ agg65 rfl rfl) ?_
    refine WL_s rfl rfl ?_
    have _f_8 := (_f_4.ch0 _cw_5)
    refine Step.call (r_call (xs := [.tmp 7]) fk124 rfl) (c_spec_l9Null _f_8 _t5 _o5 f5) fun _v8 _w_9 _q8 => ?_
    obtain ⟨rfl, _cw_9⟩ := _q8
    have _cw_9z := _cw_9.size
    have E := E.trans _cw_9
    refine WL_step rfl rfl (r_pickT rfl rfl) ?_
    refine WL_step rfl rfl (r_assign rfl) ?_
    refine WL_nil ?_
    refine thn_nrm (_hK_3 _ _ ?_)
    clear _hK_3
    refine W_ret ?_
    exact ret_intro [_] ⟨rfl, trivial⟩ ⟨congrArg Value.bool (by first | exact nullE_y _e5 | exact nullE_n (isE_n _h5)), E⟩
  · have _kb_6 := _h5
    refine WL_skip rfl rfl ?_
    refine WL_skip rfl rfl ?_
    refine WL_skip rfl rfl ?_
    refine WL_step rfl rfl (r_pickF rfl rfl) ?_
    refine WL_step rfl rfl (r_assign rfl) ?_
    refine WL_nil ?_
    refine thn_nrm (_hK_3 _ _ ?_)
    clear _hK_3
    refine W_ret ?_
    exact ret_intro [_] ⟨rfl, trivial⟩ ⟨congrArg Value.bool (by first | exact nullE_y _e5 | exact nullE_n (isE_n _h5)), E⟩

/-- spec.StarExpr -/
theorem c_spec_StarExpr {w : World} {LL_e _B_e : Nat} {_v_e : Value} {e : List Token} (_h_e : Ls Token.cs 4 w LL_e _B_e _v_e e) (hb : e.length ≤ 1048576) :
    Ctr Try.prog 51 #[(.agg #[_v_e])] w (fun v w' => ∃ u, v = .agg #[u] ∧ Ol Token.cs 126 4 w' u (starE e) ∧ Lo w.heap.size u ∧ Ch [] w w') := by
  obtain ⟨_A_e, _C_e, _e1_e⟩ := _h_e.val
  subst _e1_e
  have _l_e := _h_e.len
  have _h_e := _h_e.here (by decide)
  have E := Ch.refl [] w
  refine Ctr_of_W (N := 40) (vs0 := [(.agg #[(.slice _A_e e.length _C_e)])]) Try.func51 rfl rfl rfl ?_
  refine W_seq fun _K_1 _hK_1 => ?_
  refine W_region ?_
  refine WL_s rfl rfl ?_
  refine s_box rfl fun _b1 _w_2 _m1 _cw_2 _e1 => ?_
  have _cw_2z := _cw_2.size
  have E := E.trans _cw_2
  have _z1 := _m1.lt
  replace _m1 : Blk _w_2 _b1 67 [(.slice _A_e e.length _C_e)] := _m1
  refine WL_s rfl rfl ?_
  refine s_alloc zr67 fun _b2 _w_3 _m2 _cw_3 _e2 => ?_
  have _cw_3z := _cw_3.size
  have E := E.trans _cw_3
  have _z2 := _m2.lt
  replace _m2 : Blk _w_3 _b2 67 [(.slice none 0 0)] := _m2
  refine WL_nil ?_
  refine thn_nrm (_hK_1 _ _ ?_)
  clear _hK_1
  refine W_seq fun _K_4 _hK_4 => ?_
  refine W_seq fun _K_5 _hK_5 => ?_
  refine W_region ?_
  have _f_6 := (_m1.ch0 _cw_3)
  refine WL_step rfl rfl (r_loadAtA0 _f_6.at_ agg67 sz67 rfl) ?_
  refine WL_s rfl rfl ?_
  have _f_7 := ((_h_e.ch0 _cw_2).ch0 _cw_3)
  refine Step.call (r_call (xs := [.tmp 4, .const (Go.Value.int Go.IntKind.i64 1)]) fk117 rfl) (c_spec_l8Is _f_7 _ ) fun _v5 _w_8 _q5 => ?_
  obtain ⟨rfl, _cw_8⟩ := _q5
  have _cw_8z := _cw_8.size
  have E := E.trans _cw_8
  refine WL_step rfl rfl (r_move rfl) ?_
  refine WL_split (d := 6) rfl (fun _h6 => ?_) (fun _h6 => ?_)
  · have _kb_9 := _h6
    refine WL_skip rfl rfl ?_
    refine WL_skip rfl rfl ?_
    refine WL_step rfl rfl (r_pickT rfl rfl) ?_
    refine WL_nil ?_
    refine thn_nrm (_hK_5 _ _ ?_)
    clear _hK_5
    refine W_condT rfl ?_
    refine W_seq fun _K_10 _hK_10 => ?_
    refine W_region ?_
    refine WL_s rfl rfl ?_
    refine Step.call (r_call (xs := [.const (Go.Value.int Go.IntKind.i64 2)]) fk118 rfl) (c_spec_l8Leaf _ ) fun _v10 _w_11 _q10 => ?_
    obtain ⟨_u10, rfl, _q10, _lo10, _cw_11⟩ := _q10
    have _cw_11z := _cw_11.size
    have E := E.trans _cw_11
    obtain ⟨_Au10, _Cu10, _eu10⟩ := _q10.val
    subst _eu10
    have _lu10 := _q10.len
    have _hiu10 := _q10.lt
    refine WL_s rfl rfl ?_
    have _f_12 := ((_m2.ch0 _cw_8).ch0 _cw_11)
    refine s_storeA (off := 0) 1 _f_12 sz67 rfl (us := [(.slice _Au10 ([(⟨2, 0, 0, 0⟩ : Token)]).length _Cu10)]) rfl rfl rfl rfl fun _w_13 _m_14 _cw_13 => ?_
    have _cw_13z := _cw_13.size
    have E := E.step _cw_13 (fun i hi => .inl (by have _h1 := List.mem_singleton.1 hi; omega))
    replace _m_14 : Blk _w_13 _b2 67 [(.slice _Au10 ([(⟨2, 0, 0, 0⟩ : Token)]).length _Cu10)] := _m_14
    refine WL_nil ?_
    refine thn_nrm (_hK_10 _ _ ?_)
    clear _hK_10
    refine W_ret (thn_ret ?_)
    clear _hK_4
    have _f_16 := (_q10.ch _cw_13 (fun g hg hm => by have _h0 := List.mem_singleton.1 hm; have _h2 := _lo10 _ hg; have _h3 := _hiu10 _ hg; omega))
    have _o_15 : Ol Token.cs 126 4 _w_13 (.slice _Au10 ([(⟨2, 0, 0, 0⟩ : Token)]).length _Cu10) (starE e) := by
      have hx := _f_16
      first | (have hl := star_last (z := ⟨0, 0, 0, 0⟩) _h15 _hy22; unfold starE; simp_all; done) | (unfold starE; simp_all; done)
    exact ret_intro [_] (resOf_loadA _m_14 rfl agg67 sz67 trivial) ⟨_, rfl, _o_15, Lo.down _lo10 (by omega), E⟩
  · have _kb_9 := _h6
    have _f_17 := (_f_6.ch0 _cw_8)
    refine WL_step rfl rfl (r_loadAtA0 _f_17.at_ agg67 sz67 rfl) ?_
    refine WL_s rfl rfl ?_
    have _f_18 := (_f_7.ch0 _cw_8)
    refine Step.call (r_call (xs := [.tmp 7, .const (Go.Value.int Go.IntKind.i64 2)]) fk117 rfl) (c_spec_l8Is _f_18 _ ) fun _v8 _w_19 _q8 => ?_
    obtain ⟨rfl, _cw_19⟩ := _q8
    have _cw_19z := _cw_19.size
    have E := E.trans _cw_19
    refine WL_step rfl rfl (r_pickF rfl rfl) ?_
    refine WL_nil ?_
    refine thn_nrm (_hK_5 _ _ ?_)
    clear _hK_5
    refine W_cond rfl (fun _h9 => ?_) (fun _h9 => ?_)
    · have _kb_20 := _h9
      refine W_seq fun _K_21 _hK_21 => ?_
      refine W_region ?_
      refine WL_s rfl rfl ?_
      refine Step.call (r_call (xs := [.const (Go.Value.int Go.IntKind.i64 2)]) fk118 rfl) (c_spec_l8Leaf _ ) fun _v10 _w_22 _q10 => ?_
      obtain ⟨_u10, rfl, _q10, _lo10, _cw_22⟩ := _q10
      have _cw_22z := _cw_22.size
      have E := E.trans _cw_22
      obtain ⟨_Au10, _Cu10, _eu10⟩ := _q10.val
      subst _eu10
      have _lu10 := _q10.len
      have _hiu10 := _q10.lt
      refine WL_s rfl rfl ?_
      have _f_23 := (((_m2.ch0 _cw_8).ch0 _cw_19).ch0 _cw_22)
      refine s_storeA (off := 0) 1 _f_23 sz67 rfl (us := [(.slice _Au10 ([(⟨2, 0, 0, 0⟩ : Token)]).length _Cu10)]) rfl rfl rfl rfl fun _w_24 _m_25 _cw_24 => ?_
      have _cw_24z := _cw_24.size
      have E := E.step _cw_24 (fun i hi => .inl (by have _h1 := List.mem_singleton.1 hi; omega))
      replace _m_25 : Blk _w_24 _b2 67 [(.slice _Au10 ([(⟨2, 0, 0, 0⟩ : Token)]).length _Cu10)] := _m_25
      refine WL_nil ?_
      refine thn_nrm (_hK_21 _ _ ?_)
      clear _hK_21
      refine W_ret (thn_ret ?_)
      clear _hK_4
      have _f_27 := (_q10.ch _cw_24 (fun g hg hm => by have _h0 := List.mem_singleton.1 hm; have _h2 := _lo10 _ hg; have _h3 := _hiu10 _ hg; omega))
      have _o_26 : Ol Token.cs 126 4 _w_24 (.slice _Au10 ([(⟨2, 0, 0, 0⟩ : Token)]).length _Cu10) (starE e) := by
        have hx := _f_27
        first | (have hl := star_last (z := ⟨0, 0, 0, 0⟩) _h15 _hy22; unfold starE; simp_all; done) | (unfold starE; simp_all; done)
      exact ret_intro [_] (resOf_loadA _m_25 rfl agg67 sz67 trivial) ⟨_, rfl, _o_26, Lo.down _lo10 (by omega), E⟩
    · have _kb_20 := _h9
      refine W_skip ?_
      refine thn_nrm (_hK_4 _ _ ?_)
      clear _hK_4
      refine W_seq fun _K_28 _hK_28 => ?_
      refine W_seq fun _K_29 _hK_29 => ?_
      refine W_region ?_
      refine WL_step rfl rfl (r_fieldAddr fa67_0 rfl) ?_
      have _f_30 := (_f_17.ch0 _cw_19)
      refine WL_step rfl rfl (r_loadAt _f_30.at_ agg65 rfl rfl) ?_
      refine WL_step rfl rfl (r_len (by rw [el65]; rfl) rfl) ?_
      refine WL_step rfl rfl (r_gtr rfl rfl) ?_
      refine WL_step rfl rfl (r_move rfl) ?_
      refine WL_split (d := 15) rfl (fun _h15 => ?_) (fun _h15 => ?_)
      · have _kb_31 := _h15
        have _h15 := bt_d _h15
        refine WL_step rfl rfl (r_fieldAddr fa67_0 rfl) ?_
        refine WL_step rfl rfl (r_loadAt _f_30.at_ agg65 rfl rfl) ?_
        refine WL_step rfl rfl (r_fieldAddr fa67_0 rfl) ?_
        refine WL_step rfl rfl (r_loadAt _f_30.at_ agg65 rfl rfl) ?_
        refine WL_step rfl rfl (r_len (by rw [el65]; rfl) rfl) ?_
        refine WL_step rfl rfl (r_sub (by omega) rfl rfl) ?_
        refine WL_s rfl rfl ?_
        have _f_32 := (_f_18.ch0 _cw_19)
        refine (s_index (j := (((e.length : Nat) : Int) - 1).toNat) _f_32 Token.len el65 sz126 rfl rfl (by omega) (by omega) fun _p22 _y22 _hy22 _a22 => ?_)
        refine WL_step rfl rfl (r_fieldAddr fa126_0 rfl) ?_
        refine WL_step rfl rfl (r_loadAt _a22 agg3 rfl rfl) ?_
        refine WL_step rfl rfl (r_eql rfl rfl) ?_
        refine WL_step rfl rfl (r_pickT rfl rfl) ?_
        refine WL_nil ?_
        refine thn_nrm (_hK_29 _ _ ?_)
        clear _hK_29
        refine W_cond rfl (fun _h26 => ?_) (fun _h26 => ?_)
        · have _kb_33 := _h26
          have _h26 := bt_d _h26
          refine W_seq fun _K_34 _hK_34 => ?_
          refine W_region ?_
          refine WL_step rfl rfl (r_fieldAddr fa67_0 rfl) ?_
          refine WL_step rfl rfl (r_loadAt _f_30.at_ agg65 rfl rfl) ?_
          refine WL_s rfl rfl ?_
          refine Step.call (r_call (xs := [.tmp 28]) fk119 rfl) (c_spec_l8Copy _f_32 (by omega)) fun _v29 _w_35 _q29 => ?_
          obtain ⟨_u29, rfl, _q29, _lo29, _cw_35⟩ := _q29
          have _cw_35z := _cw_35.size
          have E := E.trans _cw_35
          obtain ⟨_Au29, _Cu29, _eu29⟩ := _q29.val
          subst _eu29
          have _lu29 := _q29.len
          have _hiu29 := _q29.lt
          refine WL_s rfl rfl ?_
          have _f_36 := (((_m2.ch0 _cw_8).ch0 _cw_19).ch0 _cw_35)
          refine s_storeA (off := 0) 1 _f_36 sz67 rfl (us := [(.slice _Au29 (e).length _Cu29)]) rfl rfl rfl rfl fun _w_37 _m_38 _cw_37 => ?_
          have _cw_37z := _cw_37.size
          have E := E.step _cw_37 (fun i hi => .inl (by have _h1 := List.mem_singleton.1 hi; omega))
          replace _m_38 : Blk _w_37 _b2 67 [(.slice _Au29 (e).length _Cu29)] := _m_38
          refine WL_nil ?_
          refine thn_nrm (_hK_34 _ _ ?_)
          clear _hK_34
          refine W_ret (thn_ret ?_)
          clear _hK_28
          have _f_40 := (_q29.ch _cw_37 (fun g hg hm => by have _h0 := List.mem_singleton.1 hm; have _h2 := _lo29 _ hg; have _h3 := _hiu29 _ hg; omega))
          have _o_39 : Ol Token.cs 126 4 _w_37 (.slice _Au29 (e).length _Cu29) (starE e) := by
            have hx := _f_40
            first | (have hl := star_last (z := ⟨0, 0, 0, 0⟩) _h15 _hy22; unfold starE; simp_all; done) | (unfold starE; simp_all; done)
          exact ret_intro [_] (resOf_loadA _m_38 rfl agg67 sz67 trivial) ⟨_, rfl, _o_39, Lo.down _lo29 (by omega), E⟩
        · have _kb_33 := _h26
          have _h26 := bf_d _h26
          refine W_skip ?_
          refine thn_nrm (_hK_28 _ _ ?_)
          clear _hK_28
          refine W_seq fun _K_41 _hK_41 => ?_
          refine W_region ?_
          refine WL_step rfl rfl (r_fieldAddr fa67_0 rfl) ?_
          refine WL_step rfl rfl (r_loadAt _f_30.at_ agg65 rfl rfl) ?_
          refine WL_s rfl rfl ?_
          refine Step.call (r_call (xs := [.tmp 31]) fk119 rfl) (c_spec_l8Copy _f_32 (by omega)) fun _v32 _w_42 _q32 => ?_
          obtain ⟨_u32, rfl, _q32, _lo32, _cw_42⟩ := _q32
          have _cw_42z := _cw_42.size
          have E := E.trans _cw_42
          obtain ⟨_Au32, _Cu32, _eu32⟩ := _q32.val
          subst _eu32
          have _lu32 := _q32.len
          have _hiu32 := _q32.lt
          refine WL_s rfl rfl ?_
          refine s_alloc zr67 fun _b3 _w_43 _m3 _cw_43 _e3 => ?_
          have _cw_43z := _cw_43.size
          have E := E.trans _cw_43
          have _z3 := _m3.lt
          replace _m3 : Blk _w_43 _b3 67 [(.slice none 0 0)] := _m3
          refine WL_s rfl rfl ?_
          refine s_storeA (off := 0) 1 _m3 sz67 rfl (us := [(.slice _Au32 (e).length _Cu32)]) rfl rfl rfl rfl fun _w_44 _m_45 _cw_44 => ?_
          have _cw_44z := _cw_44.size
          have E := E.step _cw_44 (fun i hi => .inl (by have _h1 := List.mem_singleton.1 hi; omega))
          replace _m_45 : Blk _w_44 _b3 67 [(.slice _Au32 (e).length _Cu32)] := _m_45
          refine WL_nil ?_
          refine thn_nrm (_hK_41 _ _ ?_)
          clear _hK_41
          refine W_seq fun _K_46 _hK_46 => ?_
          refine W_region ?_
          refine WL_step rfl rfl (r_fieldAddr fa67_0 rfl) ?_
          refine WL_step rfl rfl (r_loadAt _m_45.at_ agg65 rfl rfl) ?_
          refine WL_step rfl rfl (r_build (parts := [(0, .const (Go.Value.int Go.IntKind.i64 6))]) (cells := [(.int .i64 6), (.int .i64 0), (.int .i64 0), (.int .i64 0)]) zr126 pl126 rfl rfl) ?_
          refine WL_s rfl rfl ?_
          refine s_buildSlice (cs := Token.cs) (parts := [(0, .tmp 35)]) (⟨0, 0, 0, 0⟩ : Token) [(⟨6, 0, 0, 0⟩ : Token)] el65 sz126 zr126 Token.len (by decide) rfl rfl rfl (by decide) (by decide) rfl fun _v36 _w_47 _q36 _lo36 _cw_47 => ?_
          have _cw_47z := _cw_47.size
          have E := E.trans _cw_47
          obtain ⟨_Av36, _Cv36, _ev36⟩ := _q36.val
          subst _ev36
          have _lv36 := _q36.len
          have _hiv36 := _q36.lt
          refine WL_s rfl rfl ?_
          have _f_49 := (((_q32.ch0 _cw_43).ch _cw_44 (fun g hg hm => by have _h0 := List.mem_singleton.1 hm; have _h2 := _lo32 _ hg; have _h3 := _hiu32 _ hg; omega)).ch0 _cw_47)
          refine s_append (cs := Token.cs) el65 sz126 by126 zr126 rfl (by decide) Token.one _f_49 _q36.ls rfl rfl (by first | omega | (simp only [List.length_append, List.length_nil, List.length_cons, List.length_replicate, List.length_set, List.length_reverse, List.length_map] at *; omega) | (simp at *; omega)) (by first | omega | (simp only [List.length_append, List.length_nil, List.length_cons, List.length_replicate, List.length_set, List.length_reverse, List.length_map] at *; omega) | (simp at *; omega)) _lo32 (by omega) fun _v37 _w_48 _q37 _lo37 _ap37 _cw_48 => ?_
          have _cw_48z := _cw_48.size
          have E := E.step _cw_48 (fun i hi => .inl (by have _h1 := _lo32 _ hi; omega))
          obtain ⟨_Av37, _Cv37, _ev37⟩ := _q37.val
          subst _ev37
          have _lv37 := _q37.len
          have _hiv37 := _q37.lt
          refine WL_step rfl rfl (r_fieldAddr fa67_0 rfl) ?_
          refine WL_s rfl rfl ?_
          have _f_50 := ((_m_45.ch0 _cw_47).ch _cw_48 (fun hm => by have _h1 := _lo32 _ hm; have _h2 := _hiu32 _ hm; omega))
          refine s_store1 (off := 0) _f_50 sz65 rfl rfl rfl rfl fun _w_51 _m_52 _cw_51 => ?_
          have _cw_51z := _cw_51.size
          have E := E.step _cw_51 (fun i hi => .inl (by have _h1 := List.mem_singleton.1 hi; omega))
          replace _m_52 : Blk _w_51 _b3 67 [(.slice _Av37 ((e ++ [(⟨6, 0, 0, 0⟩ : Token)])).length _Cv37)] := _m_52
          refine WL_nil ?_
          refine thn_nrm (_hK_46 _ _ ?_)
          clear _hK_46
          refine W_seq fun _K_53 _hK_53 => ?_
          refine W_region ?_
          refine WL_step rfl rfl (r_loadAtA0 _m_52.at_ agg67 sz67 rfl) ?_
          refine WL_s rfl rfl ?_
          have _f_54 := ((((((((_m2.ch0 _cw_8).ch0 _cw_19).ch0 _cw_42).ch0 _cw_43).ch _cw_44 (fun hm => by have _h1 := List.mem_singleton.1 hm; omega)).ch0 _cw_47).ch _cw_48 (fun hm => by have _h1 := _lo32 _ hm; have _h2 := _hiu32 _ hm; omega)).ch _cw_51 (fun hm => by have _h1 := List.mem_singleton.1 hm; omega))
          refine s_storeA (off := 0) 1 _f_54 sz67 rfl (us := [(.slice _Av37 ((e ++ [(⟨6, 0, 0, 0⟩ : Token)])).length _Cv37)]) rfl rfl rfl rfl fun _w_55 _m_56 _cw_55 => ?_
          have _cw_55z := _cw_55.size
          have E := E.step _cw_55 (fun i hi => .inl (by have _h1 := List.mem_singleton.1 hi; omega))
          replace _m_56 : Blk _w_55 _b2 67 [(.slice _Av37 ((e ++ [(⟨6, 0, 0, 0⟩ : Token)])).length _Cv37)] := _m_56
          refine WL_nil ?_
          refine thn_nrm (_hK_53 _ _ ?_)
          clear _hK_53
          refine W_ret ?_
          have _f_58 := ((_q37.ch _cw_51 (fun g hg hm => by have _h0 := List.mem_singleton.1 hm; rcases _ap37 with ea | ea; (rw [ea] at hg; have _h2 := _lo32 _ hg; have _h3 := _hiu32 _ hg; omega); (rw [ea] at hg; have _z1 := List.mem_singleton.1 hg; omega))).ch _cw_55 (fun g hg hm => by have _h0 := List.mem_singleton.1 hm; rcases _ap37 with ea | ea; (rw [ea] at hg; have _h2 := _lo32 _ hg; have _h3 := _hiu32 _ hg; omega); (rw [ea] at hg; have _z1 := List.mem_singleton.1 hg; omega)))
          have _o_57 : Ol Token.cs 126 4 _w_55 (.slice _Av37 ((e ++ [(⟨6, 0, 0, 0⟩ : Token)])).length _Cv37) (starE e) := by
            have hx := _f_58
            first | (have hl := star_last (z := ⟨0, 0, 0, 0⟩) _h15 _hy22; unfold starE; simp_all; done) | (unfold starE; simp_all; done)
          exact ret_intro [_] (resOf_loadA _m_56 rfl agg67 sz67 trivial) ⟨_, rfl, _o_57, Lo.down _lo37 (by omega), E⟩
      · have _kb_31 := _h15
        have _h15 := bf_d _h15
        refine WL_skip rfl rfl ?_
        refine WL_skip rfl rfl ?_
        refine WL_skip rfl rfl ?_
        refine WL_skip rfl rfl ?_
        refine WL_skip rfl rfl ?_
        refine WL_skip rfl rfl ?_
        refine WL_skip rfl rfl ?_
        refine WL_skip rfl rfl ?_
        refine WL_skip rfl rfl ?_
        refine WL_skip rfl rfl ?_
        refine WL_step rfl rfl (r_pickF rfl rfl) ?_
        refine WL_nil ?_
        refine thn_nrm (_hK_29 _ _ ?_)
        clear _hK_29
        refine W_condF rfl ?_
        refine W_skip ?_
        refine thn_nrm (_hK_28 _ _ ?_)
        clear _hK_28
        refine W_seq fun _K_59 _hK_59 => ?_
        refine W_region ?_
        refine WL_step rfl rfl (r_fieldAddr fa67_0 rfl) ?_
        refine WL_step rfl rfl (r_loadAt _f_30.at_ agg65 rfl rfl) ?_
        refine WL_s rfl rfl ?_
        have _f_60 := (_f_18.ch0 _cw_19)
        refine Step.call (r_call (xs := [.tmp 31]) fk119 rfl) (c_spec_l8Copy _f_60 (by omega)) fun _v32 _w_61 _q32 => ?_
        obtain ⟨_u32, rfl, _q32, _lo32, _cw_61⟩ := _q32
        have _cw_61z := _cw_61.size
        have E := E.trans _cw_61
        obtain ⟨_Au32, _Cu32, _eu32⟩ := _q32.val
        subst _eu32
        have _lu32 := _q32.len
        have _hiu32 := _q32.lt
        refine WL_s rfl rfl ?_
        refine s_alloc zr67 fun _b3 _w_62 _m3 _cw_62 _e3 => ?_
        have _cw_62z := _cw_62.size
        have E := E.trans _cw_62
        have _z3 := _m3.lt
        replace _m3 : Blk _w_62 _b3 67 [(.slice none 0 0)] := _m3
        refine WL_s rfl rfl ?_
        refine s_storeA (off := 0) 1 _m3 sz67 rfl (us := [(.slice _Au32 (e).length _Cu32)]) rfl rfl rfl rfl fun _w_63 _m_64 _cw_63 => ?_
        have _cw_63z := _cw_63.size
        have E := E.step _cw_63 (fun i hi => .inl (by have _h1 := List.mem_singleton.1 hi; omega))
        replace _m_64 : Blk _w_63 _b3 67 [(.slice _Au32 (e).length _Cu32)] := _m_64
        refine WL_nil ?_
        refine thn_nrm (_hK_59 _ _ ?_)
        clear _hK_59
        refine W_seq fun _K_65 _hK_65 => ?_
        refine W_region ?_
        refine WL_step rfl rfl (r_fieldAddr fa67_0 rfl) ?_
        refine WL_step rfl rfl (r_loadAt _m_64.at_ agg65 rfl rfl) ?_
        refine WL_step rfl rfl (r_build (parts := [(0, .const (Go.Value.int Go.IntKind.i64 6))]) (cells := [(.int .i64 6), (.int .i64 0), (.int .i64 0), (.int .i64 0)]) zr126 pl126 rfl rfl) ?_
        refine WL_s rfl rfl ?_
        refine s_buildSlice (cs := Token.cs) (parts := [(0, .tmp 35)]) (⟨0, 0, 0, 0⟩ : Token) [(⟨6, 0, 0, 0⟩ : Token)] el65 sz126 zr126 Token.len (by decide) rfl rfl rfl (by decide) (by decide) rfl fun _v36 _w_66 _q36 _lo36 _cw_66 => ?_
        have _cw_66z := _cw_66.size
        have E := E.trans _cw_66
        obtain ⟨_Av36, _Cv36, _ev36⟩ := _q36.val
        subst _ev36
        have _lv36 := _q36.len
        have _hiv36 := _q36.lt
        refine WL_s rfl rfl ?_
        have _f_68 := (((_q32.ch0 _cw_62).ch _cw_63 (fun g hg hm => by have _h0 := List.mem_singleton.1 hm; have _h2 := _lo32 _ hg; have _h3 := _hiu32 _ hg; omega)).ch0 _cw_66)
        refine s_append (cs := Token.cs) el65 sz126 by126 zr126 rfl (by decide) Token.one _f_68 _q36.ls rfl rfl (by first | omega | (simp only [List.length_append, List.length_nil, List.length_cons, List.length_replicate, List.length_set, List.length_reverse, List.length_map] at *; omega) | (simp at *; omega)) (by first | omega | (simp only [List.length_append, List.length_nil, List.length_cons, List.length_replicate, List.length_set, List.length_reverse, List.length_map] at *; omega) | (simp at *; omega)) _lo32 (by omega) fun _v37 _w_67 _q37 _lo37 _ap37 _cw_67 => ?_
        have _cw_67z := _cw_67.size
        have E := E.step _cw_67 (fun i hi => .inl (by have _h1 := _lo32 _ hi; omega))
        obtain ⟨_Av37, _Cv37, _ev37⟩ := _q37.val
        subst _ev37
        have _lv37 := _q37.len
        have _hiv37 := _q37.lt
        refine WL_step rfl rfl (r_fieldAddr fa67_0 rfl) ?_
        refine WL_s rfl rfl ?_
        have _f_69 := ((_m_64.ch0 _cw_66).ch _cw_67 (fun hm => by have _h1 := _lo32 _ hm; have _h2 := _hiu32 _ hm; omega))
        refine s_store1 (off := 0) _f_69 sz65 rfl rfl rfl rfl fun _w_70 _m_71 _cw_70 => ?_
        have _cw_70z := _cw_70.size
        have E := E.step _cw_70 (fun i hi => .inl (by have _h1 := List.mem_singleton.1 hi; omega))
        replace _m_71 : Blk _w_70 _b3 67 [(.slice _Av37 ((e ++ [(⟨6, 0, 0, 0⟩ : Token)])).length _Cv37)] := _m_71
        refine WL_nil ?_
        refine thn_nrm (_hK_65 _ _ ?_)
        clear _hK_65
        refine W_seq fun _K_72 _hK_72 => ?_
        refine W_region ?_
        refine WL_step rfl rfl (r_loadAtA0 _m_71.at_ agg67 sz67 rfl) ?_
        refine WL_s rfl rfl ?_
        have _f_73 := ((((((((_m2.ch0 _cw_8).ch0 _cw_19).ch0 _cw_61).ch0 _cw_62).ch _cw_63 (fun hm => by have _h1 := List.mem_singleton.1 hm; omega)).ch0 _cw_66).ch _cw_67 (fun hm => by have _h1 := _lo32 _ hm; have _h2 := _hiu32 _ hm; omega)).ch _cw_70 (fun hm => by have _h1 := List.mem_singleton.1 hm; omega))
        refine s_storeA (off := 0) 1 _f_73 sz67 rfl (us := [(.slice _Av37 ((e ++ [(⟨6, 0, 0, 0⟩ : Token)])).length _Cv37)]) rfl rfl rfl rfl fun _w_74 _m_75 _cw_74 => ?_
        have _cw_74z := _cw_74.size
        have E := E.step _cw_74 (fun i hi => .inl (by have _h1 := List.mem_singleton.1 hi; omega))
        replace _m_75 : Blk _w_74 _b2 67 [(.slice _Av37 ((e ++ [(⟨6, 0, 0, 0⟩ : Token)])).length _Cv37)] := _m_75
        refine WL_nil ?_
        refine thn_nrm (_hK_72 _ _ ?_)
        clear _hK_72
        refine W_ret ?_
        have _f_77 := ((_q37.ch _cw_70 (fun g hg hm => by have _h0 := List.mem_singleton.1 hm; rcases _ap37 with ea | ea; (rw [ea] at hg; have _h2 := _lo32 _ hg; have _h3 := _hiu32 _ hg; omega); (rw [ea] at hg; have _z1 := List.mem_singleton.1 hg; omega))).ch _cw_74 (fun g hg hm => by have _h0 := List.mem_singleton.1 hm; rcases _ap37 with ea | ea; (rw [ea] at hg; have _h2 := _lo32 _ hg; have _h3 := _hiu32 _ hg; omega); (rw [ea] at hg; have _z1 := List.mem_singleton.1 hg; omega)))
        have _o_76 : Ol Token.cs 126 4 _w_74 (.slice _Av37 ((e ++ [(⟨6, 0, 0, 0⟩ : Token)])).length _Cv37) (starE e) := by
          have hx := _f_77
          first | (have hl := star_last (z := ⟨0, 0, 0, 0⟩) _h15 _hy22; unfold starE; simp_all; done) | (unfold starE; simp_all; done)
        exact ret_intro [_] (resOf_loadA _m_75 rfl agg67 sz67 trivial) ⟨_, rfl, _o_76, Lo.down _lo37 (by omega), E⟩

/-- spec.UnionExpr -/
theorem c_spec_UnionExpr {w : World} {LL_a _B_a : Nat} {_v_a : Value} {a : List Token} (_h_a : Ls Token.cs 4 w LL_a _B_a _v_a a) {LL_b _B_b : Nat} {_v_b : Value} {b : List Token} (_h_b : Ls Token.cs 4 w LL_b _B_b _v_b b) (hb : a.length + b.length ≤ 1048576) :
    Ctr Try.prog 50 #[(.agg #[_v_a]), (.agg #[_v_b])] w (fun v w' => ∃ u, v = .agg #[u] ∧ Ol Token.cs 126 4 w' u (uniE a b) ∧ Lo w.heap.size u ∧ Ch [] w w') := by
  obtain ⟨_A_a, _C_a, _e1_a⟩ := _h_a.val
  subst _e1_a
  have _l_a := _h_a.len
  have _h_a := _h_a.here (by decide)
  obtain ⟨_A_b, _C_b, _e1_b⟩ := _h_b.val
  subst _e1_b
  have _l_b := _h_b.len
  have _h_b := _h_b.here (by decide)
  have E := Ch.refl [] w
  refine Ctr_of_W (N := 26) (vs0 := [(.agg #[(.slice _A_a a.length _C_a)]), (.agg #[(.slice _A_b b.length _C_b)])]) Try.func50 rfl rfl rfl ?_
  refine W_seq fun _K_1 _hK_1 => ?_
  refine W_region ?_
  refine WL_s rfl rfl ?_
  refine s_box rfl fun _b2 _w_2 _m2 _cw_2 _e2 => ?_
  have _cw_2z := _cw_2.size
  have E := E.trans _cw_2
  have _z2 := _m2.lt
  replace _m2 : Blk _w_2 _b2 67 [(.slice _A_a a.length _C_a)] := _m2
  refine WL_s rfl rfl ?_
  refine s_box rfl fun _b3 _w_3 _m3 _cw_3 _e3 => ?_
  have _cw_3z := _cw_3.size
  have E := E.trans _cw_3
  have _z3 := _m3.lt
  replace _m3 : Blk _w_3 _b3 67 [(.slice _A_b b.length _C_b)] := _m3
  refine WL_s rfl rfl ?_
  refine s_alloc zr67 fun _b4 _w_4 _m4 _cw_4 _e4 => ?_
  have _cw_4z := _cw_4.size
  have E := E.trans _cw_4
  have _z4 := _m4.lt
  replace _m4 : Blk _w_4 _b4 67 [(.slice none 0 0)] := _m4
  refine WL_nil ?_
  refine thn_nrm (_hK_1 _ _ ?_)
  clear _hK_1
  refine W_seq fun _K_5 _hK_5 => ?_
  refine W_block ?_
  refine W_seq fun _K_6 _hK_6 => ?_
  refine W_region ?_
  have _f_7 := ((_m2.ch0 _cw_3).ch0 _cw_4)
  refine WL_step rfl rfl (r_loadAtA0 _f_7.at_ agg67 sz67 rfl) ?_
  refine WL_s rfl rfl ?_
  have _f_8 := (((_h_a.ch0 _cw_2).ch0 _cw_3).ch0 _cw_4)
  refine Step.call (r_call (xs := [.tmp 6, .const (Go.Value.int Go.IntKind.i64 1)]) fk117 rfl) (c_spec_l8Is _f_8 _ ) fun _v7 _w_9 _q7 => ?_
  obtain ⟨rfl, _cw_9⟩ := _q7
  have _cw_9z := _cw_9.size
  have E := E.trans _cw_9
  refine WL_step rfl rfl (r_move rfl) ?_
  refine WL_split (d := 8) rfl (fun _h8 => ?_) (fun _h8 => ?_)
  · have _kb_10 := _h8
    refine WL_skip rfl rfl ?_
    refine WL_skip rfl rfl ?_
    refine WL_skip rfl rfl ?_
    refine WL_step rfl rfl (r_pickT rfl rfl) ?_
    refine WL_step rfl rfl (r_assign rfl) ?_
    refine WL_nil ?_
    refine thn_nrm (_hK_6 _ _ ?_)
    clear _hK_6
    refine W_condT rfl ?_
    refine W_seq fun _K_11 _hK_11 => ?_
    refine W_region ?_
    refine WL_step rfl rfl (r_fieldAddr fa67_0 rfl) ?_
    have _f_12 := ((_m3.ch0 _cw_4).ch0 _cw_9)
    refine WL_step rfl rfl (r_loadAt _f_12.at_ agg65 rfl rfl) ?_
    refine WL_s rfl rfl ?_
    have _f_13 := ((((_h_b.ch0 _cw_2).ch0 _cw_3).ch0 _cw_4).ch0 _cw_9)
    refine Step.call (r_call (xs := [.tmp 14]) fk119 rfl) (c_spec_l8Copy _f_13 (by omega)) fun _v15 _w_14 _q15 => ?_
    obtain ⟨_u15, rfl, _q15, _lo15, _cw_14⟩ := _q15
    have _cw_14z := _cw_14.size
    have E := E.trans _cw_14
    obtain ⟨_Au15, _Cu15, _eu15⟩ := _q15.val
    subst _eu15
    have _lu15 := _q15.len
    have _hiu15 := _q15.lt
    refine WL_s rfl rfl ?_
    have _f_15 := ((_m4.ch0 _cw_9).ch0 _cw_14)
    refine s_storeA (off := 0) 1 _f_15 sz67 rfl (us := [(.slice _Au15 (b).length _Cu15)]) rfl rfl rfl rfl fun _w_16 _m_17 _cw_16 => ?_
    have _cw_16z := _cw_16.size
    have E := E.step _cw_16 (fun i hi => .inl (by have _h1 := List.mem_singleton.1 hi; omega))
    replace _m_17 : Blk _w_16 _b4 67 [(.slice _Au15 (b).length _Cu15)] := _m_17
    refine WL_nil ?_
    refine thn_nrm (_hK_11 _ _ ?_)
    clear _hK_11
    refine W_ret (inB_ret (thn_ret ?_))
    clear _hK_5
    have _f_19 := (_q15.ch _cw_16 (fun g hg hm => by have _h0 := List.mem_singleton.1 hm; have _h2 := _lo15 _ hg; have _h3 := _hiu15 _ hg; omega))
    have _o_18 : Ol Token.cs 126 4 _w_16 (.slice _Au15 (b).length _Cu15) (uniE a b) := by
      have hx := _f_19
      (unfold uniE; simp_all)
    exact ret_intro [_] (resOf_loadA _m_17 rfl agg67 sz67 trivial) ⟨_, rfl, _o_18, Lo.down _lo15 (by omega), E⟩
  · have _kb_10 := _h8
    have _f_20 := (_f_7.ch0 _cw_9)
    refine WL_step rfl rfl (r_loadAtA0 _f_20.at_ agg67 sz67 rfl) ?_
    have _f_21 := ((_m3.ch0 _cw_4).ch0 _cw_9)
    refine WL_step rfl rfl (r_loadAtA0 _f_21.at_ agg67 sz67 rfl) ?_
    refine WL_s rfl rfl ?_
    have _f_22 := (_f_8.ch0 _cw_9)
    have _f_23 := ((((_h_b.ch0 _cw_2).ch0 _cw_3).ch0 _cw_4).ch0 _cw_9)
    refine Step.call (r_call (xs := [.tmp 9, .tmp 10]) fk48 rfl) (c_spec_EqualExprs _f_22 _f_23 ) fun _v11 _w_24 _q11 => ?_
    obtain ⟨rfl, _cw_24⟩ := _q11
    have _cw_24z := _cw_24.size
    have E := E.trans _cw_24
    refine WL_step rfl rfl (r_pickF rfl rfl) ?_
    refine WL_step rfl rfl (r_assign rfl) ?_
    refine WL_nil ?_
    refine thn_nrm (_hK_6 _ _ ?_)
    clear _hK_6
    refine W_cond rfl (fun _h5 => ?_) (fun _h5 => ?_)
    · have _kb_25 := _h5
      have _h5 := bt_d _h5
      refine W_seq fun _K_26 _hK_26 => ?_
      refine W_region ?_
      refine WL_step rfl rfl (r_fieldAddr fa67_0 rfl) ?_
      have _f_27 := (_f_21.ch0 _cw_24)
      refine WL_step rfl rfl (r_loadAt _f_27.at_ agg65 rfl rfl) ?_
      refine WL_s rfl rfl ?_
      have _f_28 := (_f_23.ch0 _cw_24)
      refine Step.call (r_call (xs := [.tmp 14]) fk119 rfl) (c_spec_l8Copy _f_28 (by omega)) fun _v15 _w_29 _q15 => ?_
      obtain ⟨_u15, rfl, _q15, _lo15, _cw_29⟩ := _q15
      have _cw_29z := _cw_29.size
      have E := E.trans _cw_29
      obtain ⟨_Au15, _Cu15, _eu15⟩ := _q15.val
      subst _eu15
      have _lu15 := _q15.len
      have _hiu15 := _q15.lt
      refine WL_s rfl rfl ?_
      have _f_30 := (((_m4.ch0 _cw_9).ch0 _cw_24).ch0 _cw_29)
      refine s_storeA (off := 0) 1 _f_30 sz67 rfl (us := [(.slice _Au15 (b).length _Cu15)]) rfl rfl rfl rfl fun _w_31 _m_32 _cw_31 => ?_
      have _cw_31z := _cw_31.size
      have E := E.step _cw_31 (fun i hi => .inl (by have _h1 := List.mem_singleton.1 hi; omega))
      replace _m_32 : Blk _w_31 _b4 67 [(.slice _Au15 (b).length _Cu15)] := _m_32
      refine WL_nil ?_
      refine thn_nrm (_hK_26 _ _ ?_)
      clear _hK_26
      refine W_ret (inB_ret (thn_ret ?_))
      clear _hK_5
      have _f_34 := (_q15.ch _cw_31 (fun g hg hm => by have _h0 := List.mem_singleton.1 hm; have _h2 := _lo15 _ hg; have _h3 := _hiu15 _ hg; omega))
      have _o_33 : Ol Token.cs 126 4 _w_31 (.slice _Au15 (b).length _Cu15) (uniE a b) := by
        have hx := _f_34
        (unfold uniE; simp_all)
      exact ret_intro [_] (resOf_loadA _m_32 rfl agg67 sz67 trivial) ⟨_, rfl, _o_33, Lo.down _lo15 (by omega), E⟩
    · have _kb_25 := _h5
      have _h5 := bf_d _h5
      refine W_seq fun _K_35 _hK_35 => ?_
      refine W_region ?_
      have _f_36 := (_f_21.ch0 _cw_24)
      refine WL_step rfl rfl (r_loadAtA0 _f_36.at_ agg67 sz67 rfl) ?_
      refine WL_s rfl rfl ?_
      have _f_37 := (_f_23.ch0 _cw_24)
      refine Step.call (r_call (xs := [.tmp 17, .const (Go.Value.int Go.IntKind.i64 1)]) fk117 rfl) (c_spec_l8Is _f_37 _ ) fun _v18 _w_38 _q18 => ?_
      obtain ⟨rfl, _cw_38⟩ := _q18
      have _cw_38z := _cw_38.size
      have E := E.trans _cw_38
      refine WL_step rfl rfl (r_assign rfl) ?_
      refine WL_nil ?_
      refine thn_nrm (_hK_35 _ _ ?_)
      clear _hK_35
      refine W_cond rfl (fun _h16 => ?_) (fun _h16 => ?_)
      · have _kb_39 := _h16
        refine W_seq fun _K_40 _hK_40 => ?_
        refine W_region ?_
        refine WL_step rfl rfl (r_fieldAddr fa67_0 rfl) ?_
        have _f_41 := ((_f_20.ch0 _cw_24).ch0 _cw_38)
        refine WL_step rfl rfl (r_loadAt _f_41.at_ agg65 rfl rfl) ?_
        refine WL_s rfl rfl ?_
        have _f_42 := ((_f_22.ch0 _cw_24).ch0 _cw_38)
        refine Step.call (r_call (xs := [.tmp 20]) fk119 rfl) (c_spec_l8Copy _f_42 (by omega)) fun _v21 _w_43 _q21 => ?_
        obtain ⟨_u21, rfl, _q21, _lo21, _cw_43⟩ := _q21
        have _cw_43z := _cw_43.size
        have E := E.trans _cw_43
        obtain ⟨_Au21, _Cu21, _eu21⟩ := _q21.val
        subst _eu21
        have _lu21 := _q21.len
        have _hiu21 := _q21.lt
        refine WL_s rfl rfl ?_
        have _f_44 := ((((_m4.ch0 _cw_9).ch0 _cw_24).ch0 _cw_38).ch0 _cw_43)
        refine s_storeA (off := 0) 1 _f_44 sz67 rfl (us := [(.slice _Au21 (a).length _Cu21)]) rfl rfl rfl rfl fun _w_45 _m_46 _cw_45 => ?_
        have _cw_45z := _cw_45.size
        have E := E.step _cw_45 (fun i hi => .inl (by have _h1 := List.mem_singleton.1 hi; omega))
        replace _m_46 : Blk _w_45 _b4 67 [(.slice _Au21 (a).length _Cu21)] := _m_46
        refine WL_nil ?_
        refine thn_nrm (_hK_40 _ _ ?_)
        clear _hK_40
        refine W_ret (inB_ret (thn_ret ?_))
        clear _hK_5
        have _f_48 := (_q21.ch _cw_45 (fun g hg hm => by have _h0 := List.mem_singleton.1 hm; have _h2 := _lo21 _ hg; have _h3 := _hiu21 _ hg; omega))
        have _o_47 : Ol Token.cs 126 4 _w_45 (.slice _Au21 (a).length _Cu21) (uniE a b) := by
          have hx := _f_48
          (unfold uniE; simp_all)
        exact ret_intro [_] (resOf_loadA _m_46 rfl agg67 sz67 trivial) ⟨_, rfl, _o_47, Lo.down _lo21 (by omega), E⟩
      · have _kb_39 := _h16
        refine W_skip ?_
        refine inB_nrm ?_
        refine thn_nrm (_hK_5 _ _ ?_)
        clear _hK_5
        refine W_seq fun _K_49 _hK_49 => ?_
        refine W_region ?_
        have _f_50 := ((_f_20.ch0 _cw_24).ch0 _cw_38)
        refine WL_step rfl rfl (r_loadAtA0 _f_50.at_ agg67 sz67 rfl) ?_
        have _f_51 := (_f_36.ch0 _cw_38)
        refine WL_step rfl rfl (r_loadAtA0 _f_51.at_ agg67 sz67 rfl) ?_
        refine WL_step rfl rfl (r_build (parts := [(0, .const (Go.Value.int Go.IntKind.i64 5))]) (cells := [(.int .i64 5), (.int .i64 0), (.int .i64 0), (.int .i64 0)]) zr126 pl126 rfl rfl) ?_
        refine WL_s rfl rfl ?_
        have _f_52 := ((_f_22.ch0 _cw_24).ch0 _cw_38)
        have _f_53 := (_f_37.ch0 _cw_38)
        refine Step.call (r_call (xs := [.tmp 22, .tmp 23, .tmp 24]) fk120 rfl) (c_spec_l8Join _f_52 _f_53 ⟨5, 0, 0, 0⟩ (by omega)) fun _v25 _w_54 _q25 => ?_
        obtain ⟨_u25, rfl, _q25, _lo25, _cw_54⟩ := _q25
        have _cw_54z := _cw_54.size
        have E := E.trans _cw_54
        obtain ⟨_Au25, _Cu25, _eu25⟩ := _q25.val
        subst _eu25
        have _lu25 := _q25.len
        have _hiu25 := _q25.lt
        refine WL_s rfl rfl ?_
        have _f_55 := ((((_m4.ch0 _cw_9).ch0 _cw_24).ch0 _cw_38).ch0 _cw_54)
        refine s_storeA (off := 0) 1 _f_55 sz67 rfl (us := [(.slice _Au25 (a ++ b ++ [(⟨5, 0, 0, 0⟩ : Token)]).length _Cu25)]) rfl rfl rfl rfl fun _w_56 _m_57 _cw_56 => ?_
        have _cw_56z := _cw_56.size
        have E := E.step _cw_56 (fun i hi => .inl (by have _h1 := List.mem_singleton.1 hi; omega))
        replace _m_57 : Blk _w_56 _b4 67 [(.slice _Au25 (a ++ b ++ [(⟨5, 0, 0, 0⟩ : Token)]).length _Cu25)] := _m_57
        refine WL_nil ?_
        refine thn_nrm (_hK_49 _ _ ?_)
        clear _hK_49
        refine W_ret ?_
        have _f_59 := (_q25.ch _cw_56 (fun g hg hm => by have _h0 := List.mem_singleton.1 hm; have _h2 := _lo25 _ hg; have _h3 := _hiu25 _ hg; omega))
        have _o_58 : Ol Token.cs 126 4 _w_56 (.slice _Au25 (a ++ b ++ [(⟨5, 0, 0, 0⟩ : Token)]).length _Cu25) (uniE a b) := by
          have hx := _f_59
          (unfold uniE; simp_all)
        exact ret_intro [_] (resOf_loadA _m_57 rfl agg67 sz67 trivial) ⟨_, rfl, _o_58, Lo.down _lo25 (by omega), E⟩

end Go.Proofs.Ytholldndjafnpaa
