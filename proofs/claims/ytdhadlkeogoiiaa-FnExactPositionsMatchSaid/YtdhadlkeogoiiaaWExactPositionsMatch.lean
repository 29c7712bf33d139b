/- The walks of all functions that FnExactPositionsMatch reaches: what each returns, and that it leaves the memory that was there alone. -/
import Derived.Test.YtdhadlkeogoiiaaKF
import Derived.Test.YtdhadlkeogoiiaaKG
import Derived.Test.YtdhadlkeogoiiaaKH
import Derived.Test.YtdhadlkeogoiiaaKI
import Derived.Test.YtdhadlkeogoiiaaProg
namespace Go.Proofs.Ytdhadlkeogoiiaa
open Go.KLib
set_option maxRecDepth 20000
theorem agg3 : aggB Try.prog 3 = some false := by kernel_rfl
theorem agg35 : aggB Try.prog 35 = some false := by kernel_rfl
theorem agg4 : aggB Try.prog 4 = some false := by kernel_rfl
theorem agg46 : aggB Try.prog 46 = some true := by kernel_rfl
theorem agg49 : aggB Try.prog 49 = some true := by kernel_rfl
theorem by3 : bytesB Try.prog 3 = some 8 := by kernel_rfl
theorem el35 : elB Try.prog 35 = some 3 := by kernel_rfl
theorem fa46_0 : faB Try.prog 46 0 = some 0 := by kernel_rfl
theorem fa46_1 : faB Try.prog 46 1 = some 1 := by kernel_rfl
theorem fa46_2 : faB Try.prog 46 2 = some 2 := by kernel_rfl
theorem fa46_3 : faB Try.prog 46 3 = some 3 := by kernel_rfl
theorem fa46_4 : faB Try.prog 46 4 = some 4 := by kernel_rfl
theorem fa49_0 : faB Try.prog 49 0 = some 0 := by kernel_rfl
theorem fa49_1 : faB Try.prog 49 1 = some 1 := by kernel_rfl
theorem fa49_2 : faB Try.prog 49 2 = some 2 := by kernel_rfl
theorem fa49_3 : faB Try.prog 49 3 = some 3 := by kernel_rfl
theorem fa49_4 : faB Try.prog 49 4 = some 4 := by kernel_rfl
theorem fk102 : fnB Try.prog 102 = true := by kernel_rfl
theorem fk25 : fnB Try.prog 25 = true := by kernel_rfl
theorem fk27 : fnB Try.prog 27 = true := by kernel_rfl
theorem fk43 : fnB Try.prog 43 = true := by kernel_rfl
theorem fk44 : fnB Try.prog 44 = true := by kernel_rfl
theorem fk45 : fnB Try.prog 45 = true := by kernel_rfl
theorem fk46 : fnB Try.prog 46 = true := by kernel_rfl
theorem fk47 : fnB Try.prog 47 = true := by kernel_rfl
theorem fk55 : fnB Try.prog 55 = true := by kernel_rfl
theorem fk58 : fnB Try.prog 58 = true := by kernel_rfl
theorem fk87 : fnB Try.prog 87 = true := by kernel_rfl
theorem fk88 : fnB Try.prog 88 = true := by kernel_rfl
theorem fk89 : fnB Try.prog 89 = true := by kernel_rfl
theorem fk90 : fnB Try.prog 90 = true := by kernel_rfl
theorem fk91 : fnB Try.prog 91 = true := by kernel_rfl
theorem fk92 : fnB Try.prog 92 = true := by kernel_rfl
theorem fk93 : fnB Try.prog 93 = true := by kernel_rfl
theorem fk94 : fnB Try.prog 94 = true := by kernel_rfl
theorem fk95 : fnB Try.prog 95 = true := by kernel_rfl
theorem fk96 : fnB Try.prog 96 = true := by kernel_rfl
theorem fk97 : fnB Try.prog 97 = true := by kernel_rfl
theorem mixed : Try.prog.follows .mixedOrders = true := by kernel_rfl
theorem sz3 : sizeB Try.prog 3 = some 1 := by kernel_rfl
theorem sz35 : sizeB Try.prog 35 = some 1 := by kernel_rfl
theorem sz4 : sizeB Try.prog 4 = some 1 := by kernel_rfl
theorem sz46 : sizeB Try.prog 46 = some 5 := by kernel_rfl
theorem sz49 : sizeB Try.prog 49 = some 5 := by kernel_rfl
theorem un4 : Try.prog.underlying 4 = some (.bool) := by kernel_rfl
theorem zr3 : zeroB Try.prog 3 = some (.int .i64 0) := by kernel_rfl
theorem zr49 : zeroB Try.prog 49 = some (.agg #[.slice none 0 0, .int .i64 0, .int .i64 0, .slice none 0 0, .bool false]) := by kernel_rfl

/-- impl.within -/
theorem c_impl_within {w : World} (n : Int) (a : Int) (b : Int) :
    Ctr Try.prog 55 #[(.int .i64 n), (.int .i64 a), (.int .i64 b)] w (fun v w' => v = .bool (decide (a ≤ n ∧ n ≤ b)) ∧ Ch [] w w') := by
  have E := Ch.refl [] w
  refine Ctr_of_W (N := 15) (vs0 := [(.int .i64 n), (.int .i64 a), (.int .i64 b)]) Try.func55 rfl rfl rfl ?_
  refine W_seq fun _K_1 _hK_1 => ?_
  refine W_region ?_
  refine WL_step rfl rfl (r_assign rfl) ?_
  refine WL_nil ?_
  refine thn_nrm (_hK_1 _ _ ?_)
  clear _hK_1
  refine W_seq fun _K_2 _hK_2 => ?_
  refine W_region ?_
  refine WL_step rfl rfl (r_move rfl) ?_
  refine WL_step rfl rfl (r_move rfl) ?_
  refine WL_step rfl rfl (r_geq rfl rfl) ?_
  refine WL_step rfl rfl (r_move rfl) ?_
  refine WL_split (d := 10) rfl (fun _h10 => ?_) (fun _h10 => ?_)
  · have _h10 := bt_d _h10
    refine WL_step rfl rfl (r_move rfl) ?_
    refine WL_step rfl rfl (r_move rfl) ?_
    refine WL_step rfl rfl (r_leq rfl rfl) ?_
    refine WL_step rfl rfl (r_pickT rfl rfl) ?_
    refine WL_step rfl rfl (r_assign rfl) ?_
    refine WL_nil ?_
    refine thn_nrm (_hK_2 _ _ ?_)
    clear _hK_2
    refine W_ret ?_
    exact ret_intro [_] ⟨rfl, trivial⟩ ⟨congrArg Value.bool (by first | rfl | (rw [Bool.eq_iff_iff]; simp <;> omega) | (rw [Bool.eq_iff_iff]; simp_all; done) | simp_all), E⟩
  · have _h10 := bf_d _h10
    refine WL_skip rfl rfl ?_
    refine WL_skip rfl rfl ?_
    refine WL_skip rfl rfl ?_
    refine WL_step rfl rfl (r_pickF rfl rfl) ?_
    refine WL_step rfl rfl (r_assign rfl) ?_
    refine WL_nil ?_
    refine thn_nrm (_hK_2 _ _ ?_)
    clear _hK_2
    refine W_ret ?_
    exact ret_intro [_] ⟨rfl, trivial⟩ ⟨congrArg Value.bool (by first | rfl | (rw [Bool.eq_iff_iff]; simp <;> omega) | (rw [Bool.eq_iff_iff]; simp_all; done) | simp_all), E⟩

/-- impl.IsValidPositions$1 -/
theorem c_impl_IsValidPositions_1 {w : World} (s : Int) {b_n t_n : Nat} {n : Int} (_h_n : Blk w b_n t_n [.int .i64 n]) (hn : 0 ≤ n) :
    Ctr Try.prog 102 #[(.int .i64 s), (.pointer (some ⟨b_n, 0, none⟩))] w (fun v w' => v = .bool (tt (inM n s)) ∧ Ch [] w w') := by
  have E := Ch.refl [] w
  refine Ctr_of_W (N := 9) (vs0 := [(.int .i64 s), (.pointer (some ⟨b_n, 0, none⟩))]) Try.func102 rfl rfl rfl ?_
  refine W_seq fun _K_1 _hK_1 => ?_
  refine W_region ?_
  refine WL_step rfl rfl (r_assign rfl) ?_
  refine WL_nil ?_
  refine thn_nrm (_hK_1 _ _ ?_)
  clear _hK_1
  refine W_seq fun _K_2 _hK_2 => ?_
  refine W_region ?_
  refine WL_step rfl rfl (r_move rfl) ?_
  refine WL_step rfl rfl (r_loadAt0 _h_n.at_ agg3 rfl rfl) ?_
  refine WL_step rfl rfl (r_shl (by omega) rfl rfl) ?_
  refine WL_step rfl rfl (r_sub64 rfl rfl) ?_
  refine WL_s rfl rfl ?_
  refine Step.call (r_call (xs := [.tmp 4, .const (Go.Value.int Go.IntKind.i64 0), .tmp 7]) fk55 rfl) (c_impl_within _ _ _ ) fun _v8 _w_3 _q8 => ?_
  obtain ⟨rfl, _cw_3⟩ := _q8
  have _cw_3z := _cw_3.size
  have E := E.trans _cw_3
  refine WL_step rfl rfl (r_assign rfl) ?_
  refine WL_nil ?_
  refine thn_nrm (_hK_2 _ _ ?_)
  clear _hK_2
  refine W_ret ?_
  exact ret_intro [_] ⟨rfl, trivial⟩ ⟨congrArg Value.bool tt_dec, E⟩

/-- impl.isLetter -/
theorem c_impl_isLetter {w : World} (n : Int) :
    Ctr Try.prog 97 #[(.int .i64 n)] w (fun v w' => v = .bool (decide (0 ≤ n ∧ n ≤ 8)) ∧ Ch [] w w') := by
  have E := Ch.refl [] w
  refine Ctr_of_W (N := 5) (vs0 := [(.int .i64 n)]) Try.func97 rfl rfl rfl ?_
  refine W_seq fun _K_1 _hK_1 => ?_
  refine W_region ?_
  refine WL_step rfl rfl (r_assign rfl) ?_
  refine WL_nil ?_
  refine thn_nrm (_hK_1 _ _ ?_)
  clear _hK_1
  refine W_seq fun _K_2 _hK_2 => ?_
  refine W_region ?_
  refine WL_step rfl rfl (r_move rfl) ?_
  refine WL_s rfl rfl ?_
  refine Step.call (r_call (xs := [.tmp 3, .const (Go.Value.int Go.IntKind.i64 0), .const (Go.Value.int Go.IntKind.i64 8)]) fk55 rfl) (c_impl_within _ _ _ ) fun _v4 _w_3 _q4 => ?_
  obtain ⟨rfl, _cw_3⟩ := _q4
  have _cw_3z := _cw_3.size
  have E := E.trans _cw_3
  refine WL_step rfl rfl (r_assign rfl) ?_
  refine WL_nil ?_
  refine thn_nrm (_hK_2 _ _ ?_)
  clear _hK_2
  refine W_ret ?_
  exact ret_intro [_] ⟨rfl, trivial⟩ ⟨congrArg Value.bool rfl, E⟩

/-- impl.IsValidPositions -/
theorem c_impl_IsValidPositions {w : World} {_B_pL : Nat} {_v_pL : Value} {pL : List Int} (_h_pL : Ls ics 1 w _B_pL _v_pL pL) (pfirst : Int) (plast : Int) {_B_pF : Nat} {_v_pF : Value} {pF : List Int} (_h_pF : Ls ics 1 w _B_pF _v_pF pF) (pnull : Bool) :
    Ctr Try.prog 92 #[(.agg #[_v_pL, (.int .i64 pfirst), (.int .i64 plast), _v_pF, (.bool pnull)])] w (fun v w' => v = .bool (tt (ValidP pL pfirst plast pF)) ∧ Ch [] w w') := by
  obtain ⟨_A_pL, _C_pL, _e1_pL⟩ := _h_pL.val
  subst _e1_pL
  have _l_pL := _h_pL.len
  have _h_pL := _h_pL.here (by decide)
  obtain ⟨_A_pF, _C_pF, _e1_pF⟩ := _h_pF.val
  subst _e1_pF
  have _l_pF := _h_pF.len
  have _h_pF := _h_pF.here (by decide)
  have E := Ch.refl [] w
  refine Ctr_of_W (N := 52) (vs0 := [(.agg #[(.slice _A_pL pL.length _C_pL), (.int .i64 pfirst), (.int .i64 plast), (.slice _A_pF pF.length _C_pF), (.bool pnull)])]) Try.func92 rfl rfl rfl ?_
  refine W_seq fun _K_1 _hK_1 => ?_
  refine W_region ?_
  refine WL_s rfl rfl ?_
  refine s_box rfl fun _b1 _w_2 _m1 _cw_2 _e1 => ?_
  have _cw_2z := _cw_2.size
  have E := E.trans _cw_2
  have _z1 := _m1.lt
  replace _m1 : Blk _w_2 _b1 49 [(.slice _A_pL pL.length _C_pL), (.int .i64 pfirst), (.int .i64 plast), (.slice _A_pF pF.length _C_pF), (.bool pnull)] := _m1
  refine WL_step rfl rfl (r_assign rfl) ?_
  refine WL_nil ?_
  refine thn_nrm (_hK_1 _ _ ?_)
  clear _hK_1
  refine W_seq fun _K_3 _hK_3 => ?_
  refine W_region ?_
  refine WL_step rfl rfl (r_fieldAddr fa49_0 rfl) ?_
  refine WL_step rfl rfl (r_loadAt _m1.at_ agg35 rfl rfl) ?_
  refine WL_step rfl rfl (r_len (by rw [el35]; rfl) rfl) ?_
  refine WL_s rfl rfl ?_
  refine s_alloc zr3 fun _b3 _w_4 _m3 _cw_4 _e3 => ?_
  have _cw_4z := _cw_4.size
  have E := E.trans _cw_4
  have _z3 := _m3.lt
  replace _m3 : Blk _w_4 _b3 3 [(.int .i64 0)] := _m3
  refine WL_s rfl rfl ?_
  refine s_store1 (off := 0) _m3 sz3 rfl rfl rfl rfl fun _w_5 _m_6 _cw_5 => ?_
  have _cw_5z := _cw_5.size
  have E := E.step _cw_5 (fun i hi => .inl (by have _h1 := List.mem_singleton.1 hi; omega))
  replace _m_6 : Blk _w_5 _b3 3 [(.int .i64 ((pL.length : Nat) : Int))] := _m_6
  refine WL_nil ?_
  refine thn_nrm (_hK_3 _ _ ?_)
  clear _hK_3
  refine W_seq fun _K_7 _hK_7 => ?_
  refine W_seq fun _K_8 _hK_8 => ?_
  refine W_region ?_
  refine WL_step rfl rfl (r_loadAt0 _m_6.at_ agg3 rfl rfl) ?_
  refine WL_step rfl rfl (r_gtr rfl rfl) ?_
  refine WL_step rfl rfl (r_move rfl) ?_
  refine WL_split (d := 12) rfl (fun _h12 => ?_) (fun _h12 => ?_)
  · have _h12 := bt_d _h12
    refine WL_skip rfl rfl ?_
    refine WL_skip rfl rfl ?_
    refine WL_skip rfl rfl ?_
    refine WL_skip rfl rfl ?_
    refine WL_skip rfl rfl ?_
    refine WL_step rfl rfl (r_pickT rfl rfl) ?_
    refine WL_nil ?_
    refine thn_nrm (_hK_8 _ _ ?_)
    clear _hK_8
    refine W_condT rfl ?_
    refine W_seq fun _K_9 _hK_9 => ?_
    refine W_region ?_
    refine WL_step rfl rfl (r_assign rfl) ?_
    refine WL_nil ?_
    refine thn_nrm (_hK_9 _ _ ?_)
    clear _hK_9
    refine W_ret (thn_ret ?_)
    clear _hK_7
    exact ret_intro [_] ⟨rfl, trivial⟩ ⟨congrArg Value.bool (by first | exact tt_eq ⟨fun e => ⟨by omega, by omega, _h46, e, pos_all _ht (by omega)⟩, fun e => e.2.2.2.1⟩ | exact tt_false (fun e => by first | exact _h46 e.2.2.1 | (have _e1 := e.1; have _e2 := e.2.1; omega) | (have _e2 := val_L e _hy26; unfold isL at _e2; omega) | (have _e2 := val_F e _hy36; exact _h40 _e2))), E⟩
  · have _h12 := bf_d _h12
    refine WL_step rfl rfl (r_fieldAddr fa49_3 rfl) ?_
    have _f_10 := ((_m1.ch0 _cw_4).ch _cw_5 (fun hm => by have _h1 := List.mem_singleton.1 hm; omega))
    refine WL_step rfl rfl (r_loadAt _f_10.at_ agg35 rfl rfl) ?_
    refine WL_step rfl rfl (r_len (by rw [el35]; rfl) rfl) ?_
    refine WL_step rfl rfl (r_loadAt0 _m_6.at_ agg3 rfl rfl) ?_
    refine WL_step rfl rfl (r_neq rfl rfl) ?_
    refine WL_step rfl rfl (r_pickF rfl rfl) ?_
    refine WL_nil ?_
    refine thn_nrm (_hK_8 _ _ ?_)
    clear _hK_8
    refine W_cond rfl (fun _h18 => ?_) (fun _h18 => ?_)
    · have _h18 := bf_d (bt_n _h18)
      refine W_seq fun _K_11 _hK_11 => ?_
      refine W_region ?_
      refine WL_step rfl rfl (r_assign rfl) ?_
      refine WL_nil ?_
      refine thn_nrm (_hK_11 _ _ ?_)
      clear _hK_11
      refine W_ret (thn_ret ?_)
      clear _hK_7
      exact ret_intro [_] ⟨rfl, trivial⟩ ⟨congrArg Value.bool (by first | exact tt_eq ⟨fun e => ⟨by omega, by omega, _h46, e, pos_all _ht (by omega)⟩, fun e => e.2.2.2.1⟩ | exact tt_false (fun e => by first | exact _h46 e.2.2.1 | (have _e1 := e.1; have _e2 := e.2.1; omega) | (have _e2 := val_L e _hy26; unfold isL at _e2; omega) | (have _e2 := val_F e _hy36; exact _h40 _e2))), E⟩
    · have _h18 := bt_d (bf_n _h18)
      refine W_skip ?_
      refine thn_nrm (_hK_7 _ _ ?_)
      clear _hK_7
      refine W_seq fun _K_12 _hK_12 => ?_
      refine W_region ?_
      refine WL_step rfl rfl (r_makeFunc (xs := []) (ys := [.tmp 3]) rfl rfl) ?_
      refine WL_step rfl rfl (r_assign rfl) ?_
      refine WL_nil ?_
      refine thn_nrm (_hK_12 _ _ ?_)
      clear _hK_12
      refine W_seq fun _K_13 _hK_13 => ?_
      refine W_seq fun _K_14 _hK_14 => ?_
      refine W_region ?_
      refine WL_step rfl rfl (r_fieldAddr fa49_0 rfl) ?_
      refine WL_step rfl rfl (r_loadAt _f_10.at_ agg35 rfl rfl) ?_
      refine WL_step rfl rfl (r_len (by rw [el35]; rfl) rfl) ?_
      refine WL_step rfl rfl (r_move rfl) ?_
      refine WL_nil ?_
      refine thn_nrm (_hK_14 _ _ ?_)
      clear _hK_14
      refine W_block ?_
      refine W_loop (σ := Nat) (fun (k : Nat) => [(0, (.agg #[(.slice _A_pL pL.length _C_pL), (.int .i64 pfirst), (.int .i64 plast), (.slice _A_pF pF.length _C_pF), (.bool pnull)])), (1, (.pointer (some ⟨_b1, 0, none⟩))), (3, (.pointer (some ⟨_b3, 0, none⟩))), (4, (.func (.func 102) #[] #[(.pointer (some ⟨_b3, 0, none⟩))])), (7, (.pointer (some (Addr.add ⟨_b1, 0, none⟩ 0)))), (8, (.slice _A_pL pL.length _C_pL)), (9, (.int .i64 ((pL.length : Nat) : Int))), (10, (.int .i64 ((pL.length : Nat) : Int))), (11, (.bool (decide (20 < ((pL.length : Nat) : Int))))), (12, (.bool false)), (13, (.pointer (some (Addr.add ⟨_b1, 0, none⟩ 3)))), (14, (.slice _A_pF pF.length _C_pF)), (15, (.int .i64 ((pF.length : Nat) : Int))), (16, (.int .i64 ((pL.length : Nat) : Int))), (17, (.bool (!decide (((pF.length : Nat) : Int) = ((pL.length : Nat) : Int))))), (18, (.bool (!decide (((pF.length : Nat) : Int) = ((pL.length : Nat) : Int))))), (19, (.func (.func 102) #[] #[(.pointer (some ⟨_b3, 0, none⟩))])), (20, (.pointer (some (Addr.add ⟨_b1, 0, none⟩ 0)))), (21, (.slice _A_pL pL.length _C_pL)), (22, (.int .i64 ((pL.length : Nat) : Int))), (23, (.int .i64 ((k : Nat) : Int)))]) (fun (k : Nat) wx => Ch [] w wx ∧ k ≤ pL.length ∧ PosP pL pF pL.length k ∧ Blk wx _b1 49 [(.slice _A_pL pL.length _C_pL), (.int .i64 pfirst), (.int .i64 plast), (.slice _A_pF pF.length _C_pF), (.bool pnull)] ∧ Blk wx _b3 3 [(.int .i64 ((pL.length : Nat) : Int))]) (fun (k : Nat) => pL.length - k) 0 (Sub.cons rfl (Sub.cons rfl (Sub.cons rfl (Sub.cons rfl (Sub.cons rfl (Sub.cons rfl (Sub.cons rfl (Sub.cons rfl (Sub.cons rfl (Sub.cons rfl (Sub.cons rfl (Sub.cons rfl (Sub.cons rfl (Sub.cons rfl (Sub.cons rfl (Sub.cons rfl (Sub.cons rfl (Sub.cons rfl (Sub.cons rfl (Sub.cons rfl (Sub.cons rfl (Sub.nil _)))))))))))))))))))))) ⟨E, (by omega), (pos_zero _ _ _), _f_10, _m_6⟩ ?_
      rintro k _wr_15 ⟨E, _hk, _ht, _F0_2, _F0_3⟩
      have _E0h := E
      have _E0hz := _E0h.size
      have _F0_2z := _F0_2.lt
      have _F0_3z := _F0_3.lt
      refine W_seq fun _K_16 _hK_16 => ?_
      refine W_region ?_
      refine WL_step rfl rfl (r_lss rfl rfl) ?_
      refine WL_nil ?_
      refine thn_nrm (_hK_16 _ _ ?_)
      clear _hK_16
      refine W_seq fun _K_17 _hK_17 => ?_
      refine W_cond rfl (fun _h24 => ?_) (fun _h24 => ?_)
      · have _h24 := bt_d _h24
        refine W_skip ?_
        refine thn_nrm (_hK_17 _ _ ?_)
        clear _hK_17
        refine W_seq fun _K_18 _hK_18 => ?_
        refine W_block ?_
        refine W_seq fun _K_19 _hK_19 => ?_
        refine W_region ?_
        refine WL_step rfl rfl (r_move rfl) ?_
        refine WL_s rfl rfl ?_
        have _f_20 := (_h_pL.ch0 _E0h)
        refine (s_index _f_20 ics_len el35 sz3 rfl rfl rfl (by omega) fun _p26 _y26 _hy26 _a26 => ?_)
        refine WL_step rfl rfl (r_loadAt0 _a26 agg3 rfl rfl) ?_
        refine WL_step rfl rfl (r_assign rfl) ?_
        refine WL_step rfl rfl (r_assign rfl) ?_
        refine WL_nil ?_
        refine thn_nrm (_hK_19 _ _ ?_)
        clear _hK_19
        refine W_seq fun _K_21 _hK_21 => ?_
        refine W_region ?_
        refine WL_step rfl rfl (r_move rfl) ?_
        refine WL_s rfl rfl ?_
        refine Step.call (r_call (xs := [.tmp 28]) fk97 rfl) (c_impl_isLetter _ ) fun _v29 _w_22 _q29 => ?_
        obtain ⟨rfl, _cw_22⟩ := _q29
        have _cw_22z := _cw_22.size
        have E := E.trans _cw_22
        refine WL_step rfl rfl (r_not rfl) ?_
        refine WL_step rfl rfl (r_move rfl) ?_
        refine WL_split (d := 31) rfl (fun _h31 => ?_) (fun _h31 => ?_)
        · have _h31 := bf_d (bt_n _h31)
          refine WL_skip rfl rfl ?_
          refine WL_skip rfl rfl ?_
          refine WL_skip rfl rfl ?_
          refine WL_skip rfl rfl ?_
          refine WL_skip rfl rfl ?_
          refine WL_skip rfl rfl ?_
          refine WL_skip rfl rfl ?_
          refine WL_skip rfl rfl ?_
          refine WL_step rfl rfl (r_pickT rfl rfl) ?_
          refine WL_nil ?_
          refine thn_nrm (_hK_21 _ _ ?_)
          clear _hK_21
          refine W_condT rfl ?_
          refine W_seq fun _K_23 _hK_23 => ?_
          refine W_region ?_
          refine WL_step rfl rfl (r_assign rfl) ?_
          refine WL_nil ?_
          refine thn_nrm (_hK_23 _ _ ?_)
          clear _hK_23
          refine W_ret (inB_ret (thn_ret (thn_ret (inB_ret (thn_ret ?_)))))
          clear _hK_13 _hK_18
          exact ret_intro [_] ⟨rfl, trivial⟩ ⟨congrArg Value.bool (by first | exact tt_eq ⟨fun e => ⟨by omega, by omega, _h46, e, pos_all _ht (by omega)⟩, fun e => e.2.2.2.1⟩ | exact tt_false (fun e => by first | exact _h46 e.2.2.1 | (have _e1 := e.1; have _e2 := e.2.1; omega) | (have _e2 := val_L e _hy26; unfold isL at _e2; omega) | (have _e2 := val_F e _hy36; exact _h40 _e2))), E⟩
        · have _h31 := bt_d (bf_n _h31)
          refine WL_step rfl rfl (r_move rfl) ?_
          refine WL_step rfl rfl (r_fieldAddr fa49_3 rfl) ?_
          have _f_24 := (_F0_2.ch0 _cw_22)
          refine WL_step rfl rfl (r_loadAt _f_24.at_ agg35 rfl rfl) ?_
          refine WL_step rfl rfl (r_move rfl) ?_
          refine WL_s rfl rfl ?_
          have _f_25 := ((_h_pF.ch0 _E0h).ch0 _cw_22)
          refine (s_index _f_25 ics_len el35 sz3 rfl rfl rfl (by omega) fun _p36 _y36 _hy36 _a36 => ?_)
          refine WL_step rfl rfl (r_loadAt0 _a36 agg3 rfl rfl) ?_
          refine WL_s rfl rfl ?_
          have _f_26 := (_F0_3.ch0 _cw_22)
          refine Step.call (r_callV (xs := [.tmp 37]) (as' := [(.int .i64 _y36), (.pointer (some ⟨_b3, 0, none⟩))]) fk102 rfl rfl rfl) (c_impl_IsValidPositions_1 _ _f_26 (by omega)) fun _v38 _w_27 _q38 => ?_
          obtain ⟨rfl, _cw_27⟩ := _q38
          have _cw_27z := _cw_27.size
          have E := E.trans _cw_27
          refine WL_step rfl rfl (r_not rfl) ?_
          refine WL_step rfl rfl (r_pickF rfl rfl) ?_
          refine WL_nil ?_
          refine thn_nrm (_hK_21 _ _ ?_)
          clear _hK_21
          refine W_cond rfl (fun _h40 => ?_) (fun _h40 => ?_)
          · have _h40 := bf_t (bt_n _h40)
            refine W_seq fun _K_28 _hK_28 => ?_
            refine W_region ?_
            refine WL_step rfl rfl (r_assign rfl) ?_
            refine WL_nil ?_
            refine thn_nrm (_hK_28 _ _ ?_)
            clear _hK_28
            refine W_ret (inB_ret (thn_ret (thn_ret (inB_ret (thn_ret ?_)))))
            clear _hK_13 _hK_18
            exact ret_intro [_] ⟨rfl, trivial⟩ ⟨congrArg Value.bool (by first | exact tt_eq ⟨fun e => ⟨by omega, by omega, _h46, e, pos_all _ht (by omega)⟩, fun e => e.2.2.2.1⟩ | exact tt_false (fun e => by first | exact _h46 e.2.2.1 | (have _e1 := e.1; have _e2 := e.2.1; omega) | (have _e2 := val_L e _hy26; unfold isL at _e2; omega) | (have _e2 := val_F e _hy36; exact _h40 _e2))), E⟩
          · have _h40 := bt_t (bf_n _h40)
            refine W_skip ?_
            refine inB_nrm ?_
            refine thn_nrm (_hK_18 _ _ ?_)
            clear _hK_18
            refine W_region ?_
            refine WL_step rfl rfl (r_add (by omega) rfl rfl) ?_
            refine WL_step rfl rfl (r_move rfl) ?_
            refine WL_nil ?_
            have _f_29 := (_f_24.ch0 _cw_27)
            have _f_30 := (_f_26.ch0 _cw_27)
            exact thn_nrm (Exists.intro (k + 1) ⟨⟨E, (by omega), (pos_step _ht _hy26 _hy36 _h31 _h40), _f_29, _f_30⟩, Sub.cons rfl (Sub.cons rfl (Sub.cons rfl (Sub.cons rfl (Sub.cons rfl (Sub.cons rfl (Sub.cons rfl (Sub.cons rfl (Sub.cons rfl (Sub.cons rfl (Sub.cons rfl (Sub.cons rfl (Sub.cons rfl (Sub.cons rfl (Sub.cons rfl (Sub.cons rfl (Sub.cons rfl (Sub.cons rfl (Sub.cons rfl (Sub.cons rfl (Sub.cons rfl (Sub.nil _))))))))))))))))))))), (by first | omega | (dsimp only; omega))⟩)
      · have _h24 := bf_d _h24
        refine W_exit (thn_exit (thn_exit (inB_hit ?_)))
        refine thn_nrm (_hK_13 _ _ ?_)
        clear _hK_13
        refine W_seq fun _K_31 _hK_31 => ?_
        refine W_region ?_
        refine WL_step rfl rfl (r_move rfl) ?_
        refine WL_step rfl rfl (r_fieldAddr fa49_1 rfl) ?_
        refine WL_step rfl rfl (r_loadAt _F0_2.at_ agg3 rfl rfl) ?_
        refine WL_s rfl rfl ?_
        refine Step.call (r_callV (xs := [.tmp 44]) (as' := [(.int .i64 pfirst), (.pointer (some ⟨_b3, 0, none⟩))]) fk102 rfl rfl rfl) (c_impl_IsValidPositions_1 _ _F0_3 (by omega)) fun _v45 _w_32 _q45 => ?_
        obtain ⟨rfl, _cw_32⟩ := _q45
        have _cw_32z := _cw_32.size
        have E := E.trans _cw_32
        refine WL_step rfl rfl (r_move rfl) ?_
        refine WL_split (d := 46) rfl (fun _h46 => ?_) (fun _h46 => ?_)
        · have _h46 := bt_t _h46
          refine WL_step rfl rfl (r_move rfl) ?_
          refine WL_step rfl rfl (r_fieldAddr fa49_2 rfl) ?_
          have _f_33 := (_F0_2.ch0 _cw_32)
          refine WL_step rfl rfl (r_loadAt _f_33.at_ agg3 rfl rfl) ?_
          refine WL_s rfl rfl ?_
          have _f_34 := (_F0_3.ch0 _cw_32)
          refine Step.call (r_callV (xs := [.tmp 49]) (as' := [(.int .i64 plast), (.pointer (some ⟨_b3, 0, none⟩))]) fk102 rfl rfl rfl) (c_impl_IsValidPositions_1 _ _f_34 (by omega)) fun _v50 _w_35 _q50 => ?_
          obtain ⟨rfl, _cw_35⟩ := _q50
          have _cw_35z := _cw_35.size
          have E := E.trans _cw_35
          refine WL_step rfl rfl (r_pickT rfl rfl) ?_
          refine WL_step rfl rfl (r_assign rfl) ?_
          refine WL_nil ?_
          refine thn_nrm (_hK_31 _ _ ?_)
          clear _hK_31
          refine W_ret ?_
          clear _hK_17
          exact ret_intro [_] ⟨rfl, trivial⟩ ⟨congrArg Value.bool (by first | exact tt_eq ⟨fun e => ⟨by omega, by omega, _h46, e, pos_all _ht (by omega)⟩, fun e => e.2.2.2.1⟩ | exact tt_false (fun e => by first | exact _h46 e.2.2.1 | (have _e1 := e.1; have _e2 := e.2.1; omega) | (have _e2 := val_L e _hy26; unfold isL at _e2; omega) | (have _e2 := val_F e _hy36; exact _h40 _e2))), E⟩
        · have _h46 := bf_t _h46
          refine WL_skip rfl rfl ?_
          refine WL_skip rfl rfl ?_
          refine WL_skip rfl rfl ?_
          refine WL_skip rfl rfl ?_
          refine WL_step rfl rfl (r_pickF rfl rfl) ?_
          refine WL_step rfl rfl (r_assign rfl) ?_
          refine WL_nil ?_
          refine thn_nrm (_hK_31 _ _ ?_)
          clear _hK_31
          refine W_ret ?_
          clear _hK_17
          exact ret_intro [_] ⟨rfl, trivial⟩ ⟨congrArg Value.bool (by first | exact tt_eq ⟨fun e => ⟨by omega, by omega, _h46, e, pos_all _ht (by omega)⟩, fun e => e.2.2.2.1⟩ | exact tt_false (fun e => by first | exact _h46 e.2.2.1 | (have _e1 := e.1; have _e2 := e.2.1; omega) | (have _e2 := val_L e _hy26; unfold isL at _e2; omega) | (have _e2 := val_F e _hy36; exact _h40 _e2))), E⟩

/-- impl.IsWord -/
theorem c_impl_IsWord {w : World} {_B_wd : Nat} {_v_wd : Value} {wd : List Int} (_h_wd : Ls ics 1 w _B_wd _v_wd wd) :
    Ctr Try.prog 93 #[_v_wd] w (fun v w' => v = .bool (tt (IsWd wd)) ∧ Ch [] w w') := by
  obtain ⟨_A_wd, _C_wd, _e1_wd⟩ := _h_wd.val
  subst _e1_wd
  have _l_wd := _h_wd.len
  have _h_wd := _h_wd.here (by decide)
  have E := Ch.refl [] w
  refine Ctr_of_W (N := 18) (vs0 := [(.slice _A_wd wd.length _C_wd)]) Try.func93 rfl rfl rfl ?_
  refine W_seq fun _K_1 _hK_1 => ?_
  refine W_region ?_
  refine WL_step rfl rfl (r_assign rfl) ?_
  refine WL_nil ?_
  refine thn_nrm (_hK_1 _ _ ?_)
  clear _hK_1
  refine W_seq fun _K_2 _hK_2 => ?_
  refine W_seq fun _K_3 _hK_3 => ?_
  refine W_region ?_
  refine WL_step rfl rfl (r_move rfl) ?_
  refine WL_step rfl rfl (r_len (by rw [el35]; rfl) rfl) ?_
  refine WL_step rfl rfl (r_move rfl) ?_
  refine WL_nil ?_
  refine thn_nrm (_hK_3 _ _ ?_)
  clear _hK_3
  refine W_block ?_
  refine W_loop (σ := Nat) (fun (k : Nat) => [(0, (.slice _A_wd wd.length _C_wd)), (5, (.slice _A_wd wd.length _C_wd)), (6, (.int .i64 ((wd.length : Nat) : Int))), (7, (.int .i64 ((k : Nat) : Int)))]) (fun (k : Nat) wx => Ch [] w wx ∧ k ≤ wd.length ∧ WdP wd k) (fun (k : Nat) => wd.length - k) 0 (Sub.cons rfl (Sub.cons rfl (Sub.cons rfl (Sub.cons rfl (Sub.nil _))))) ⟨E, (by omega), (wd_zero _)⟩ ?_
  rintro k _wr_4 ⟨E, _hk, _ht⟩
  have _E0h := E
  have _E0hz := _E0h.size
  refine W_seq fun _K_5 _hK_5 => ?_
  refine W_region ?_
  refine WL_step rfl rfl (r_lss rfl rfl) ?_
  refine WL_nil ?_
  refine thn_nrm (_hK_5 _ _ ?_)
  clear _hK_5
  refine W_seq fun _K_6 _hK_6 => ?_
  refine W_cond rfl (fun _h8 => ?_) (fun _h8 => ?_)
  · have _h8 := bt_d _h8
    refine W_skip ?_
    refine thn_nrm (_hK_6 _ _ ?_)
    clear _hK_6
    refine W_seq fun _K_7 _hK_7 => ?_
    refine W_block ?_
    refine W_seq fun _K_8 _hK_8 => ?_
    refine W_region ?_
    refine WL_s rfl rfl ?_
    have _f_9 := (_h_wd.ch0 _E0h)
    refine (s_index _f_9 ics_len el35 sz3 rfl rfl rfl (by omega) fun _p9 _y9 _hy9 _a9 => ?_)
    refine WL_step rfl rfl (r_loadAt0 _a9 agg3 rfl rfl) ?_
    refine WL_step rfl rfl (r_assign rfl) ?_
    refine WL_nil ?_
    refine thn_nrm (_hK_8 _ _ ?_)
    clear _hK_8
    refine W_seq fun _K_10 _hK_10 => ?_
    refine W_region ?_
    refine WL_step rfl rfl (r_move rfl) ?_
    refine WL_s rfl rfl ?_
    refine Step.call (r_call (xs := [.tmp 11]) fk97 rfl) (c_impl_isLetter _ ) fun _v12 _w_11 _q12 => ?_
    obtain ⟨rfl, _cw_11⟩ := _q12
    have _cw_11z := _cw_11.size
    have E := E.trans _cw_11
    refine WL_step rfl rfl (r_not rfl) ?_
    refine WL_nil ?_
    refine thn_nrm (_hK_10 _ _ ?_)
    clear _hK_10
    refine W_cond rfl (fun _h13 => ?_) (fun _h13 => ?_)
    · have _h13 := bf_d (bt_n _h13)
      refine W_seq fun _K_12 _hK_12 => ?_
      refine W_region ?_
      refine WL_step rfl rfl (r_assign rfl) ?_
      refine WL_nil ?_
      refine thn_nrm (_hK_12 _ _ ?_)
      clear _hK_12
      refine W_ret (inB_ret (thn_ret (thn_ret (inB_ret (thn_ret ?_)))))
      clear _hK_2 _hK_7
      exact ret_intro [_] ⟨rfl, trivial⟩ ⟨congrArg Value.bool (by first | exact tt_false (fun e => _h13 (wd_val e _hy9)) | (rw [tt_dec]; exact tt_eq ⟨fun e => ⟨wd_all _ht (by omega), by omega⟩, fun e => by have := e.2; omega⟩)), E⟩
    · have _h13 := bt_d (bf_n _h13)
      refine W_skip ?_
      refine inB_nrm ?_
      refine thn_nrm (_hK_7 _ _ ?_)
      clear _hK_7
      refine W_region ?_
      refine WL_step rfl rfl (r_add (by omega) rfl rfl) ?_
      refine WL_step rfl rfl (r_move rfl) ?_
      refine WL_nil ?_
      exact thn_nrm (Exists.intro (k + 1) ⟨⟨E, (by omega), (wd_step _ht _hy9 _h13)⟩, Sub.cons rfl (Sub.cons rfl (Sub.cons rfl (Sub.cons rfl (Sub.nil _)))), (by first | omega | (dsimp only; omega))⟩)
  · have _h8 := bf_d _h8
    refine W_exit (thn_exit (thn_exit (inB_hit ?_)))
    refine thn_nrm (_hK_2 _ _ ?_)
    clear _hK_2
    refine W_seq fun _K_13 _hK_13 => ?_
    refine W_region ?_
    refine WL_step rfl rfl (r_move rfl) ?_
    refine WL_step rfl rfl (r_len (by rw [el35]; rfl) rfl) ?_
    refine WL_step rfl rfl (r_leq rfl rfl) ?_
    refine WL_step rfl rfl (r_assign rfl) ?_
    refine WL_nil ?_
    refine thn_nrm (_hK_13 _ _ ?_)
    clear _hK_13
    refine W_ret ?_
    clear _hK_6
    exact ret_intro [_] ⟨rfl, trivial⟩ ⟨congrArg Value.bool (by first | exact tt_false (fun e => _h13 (wd_val e _hy9)) | (rw [tt_dec]; exact tt_eq ⟨fun e => ⟨wd_all _ht (by omega), by omega⟩, fun e => by have := e.2; omega⟩)), E⟩

/-- impl.Positions).accepts -/
theorem c_impl_Positions_accepts {w : World} {_B_pL : Nat} {_v_pL : Value} {pL : List Int} (_h_pL : Ls ics 1 w _B_pL _v_pL pL) (pfirst : Int) (plast : Int) {_B_pF : Nat} {_v_pF : Value} {pF : List Int} (_h_pF : Ls ics 1 w _B_pF _v_pF pF) (pnull : Bool) (set : Int) :
    Ctr Try.prog 95 #[(.agg #[_v_pL, (.int .i64 pfirst), (.int .i64 plast), _v_pF, (.bool pnull)]), (.int .i64 set)] w (fun v w' => v = .bool (accB plast pnull set) ∧ Ch [] w w') := by
  obtain ⟨_A_pL, _C_pL, _e1_pL⟩ := _h_pL.val
  subst _e1_pL
  have _l_pL := _h_pL.len
  have _h_pL := _h_pL.here (by decide)
  obtain ⟨_A_pF, _C_pF, _e1_pF⟩ := _h_pF.val
  subst _e1_pF
  have _l_pF := _h_pF.len
  have _h_pF := _h_pF.here (by decide)
  have E := Ch.refl [] w
  refine Ctr_of_W (N := 20) (vs0 := [(.agg #[(.slice _A_pL pL.length _C_pL), (.int .i64 pfirst), (.int .i64 plast), (.slice _A_pF pF.length _C_pF), (.bool pnull)]), (.int .i64 set)]) Try.func95 rfl rfl rfl ?_
  refine W_seq fun _K_1 _hK_1 => ?_
  refine W_region ?_
  refine WL_s rfl rfl ?_
  refine s_box rfl fun _b2 _w_2 _m2 _cw_2 _e2 => ?_
  have _cw_2z := _cw_2.size
  have E := E.trans _cw_2
  have _z2 := _m2.lt
  replace _m2 : Blk _w_2 _b2 49 [(.slice _A_pL pL.length _C_pL), (.int .i64 pfirst), (.int .i64 plast), (.slice _A_pF pF.length _C_pF), (.bool pnull)] := _m2
  refine WL_step rfl rfl (r_assign rfl) ?_
  refine WL_nil ?_
  refine thn_nrm (_hK_1 _ _ ?_)
  clear _hK_1
  refine W_seq fun _K_3 _hK_3 => ?_
  refine W_region ?_
  refine WL_step rfl rfl (r_move rfl) ?_
  refine WL_step rfl rfl (r_and rfl rfl) ?_
  refine WL_step rfl rfl (r_eql rfl rfl) ?_
  refine WL_step rfl rfl (r_move rfl) ?_
  refine WL_split (d := 8) rfl (fun _h8 => ?_) (fun _h8 => ?_)
  · have _h8 := bt_d _h8
    refine WL_step rfl rfl (r_fieldAddr fa49_4 rfl) ?_
    refine WL_step rfl rfl (r_loadAt _m2.at_ agg4 rfl rfl) ?_
    refine WL_step rfl rfl (r_pickT rfl rfl) ?_
    refine WL_step rfl rfl (r_move rfl) ?_
    refine WL_split (d := 12) rfl (fun _h12 => ?_) (fun _h12 => ?_)
    · refine WL_skip rfl rfl ?_
      refine WL_skip rfl rfl ?_
      refine WL_skip rfl rfl ?_
      refine WL_skip rfl rfl ?_
      refine WL_skip rfl rfl ?_
      refine WL_skip rfl rfl ?_
      refine WL_step rfl rfl (r_pickT rfl rfl) ?_
      refine WL_step rfl rfl (r_assign rfl) ?_
      refine WL_nil ?_
      refine thn_nrm (_hK_3 _ _ ?_)
      clear _hK_3
      refine W_ret ?_
      exact ret_intro [_] ⟨rfl, trivial⟩ ⟨congrArg Value.bool (by unfold accB; simp_all), E⟩
    · refine WL_step rfl rfl (r_move rfl) ?_
      refine WL_step rfl rfl (r_shr (by omega) rfl rfl) ?_
      refine WL_step rfl rfl (r_fieldAddr fa49_2 rfl) ?_
      refine WL_step rfl rfl (r_loadAt _m2.at_ agg3 rfl rfl) ?_
      refine WL_step rfl rfl (r_and rfl rfl) ?_
      refine WL_step rfl rfl (r_neq rfl rfl) ?_
      refine WL_step rfl rfl (r_pickF rfl rfl) ?_
      refine WL_step rfl rfl (r_assign rfl) ?_
      refine WL_nil ?_
      refine thn_nrm (_hK_3 _ _ ?_)
      clear _hK_3
      refine W_ret ?_
      exact ret_intro [_] ⟨rfl, trivial⟩ ⟨congrArg Value.bool (by unfold accB; simp_all), E⟩
  · have _h8 := bf_d _h8
    refine WL_skip rfl rfl ?_
    refine WL_skip rfl rfl ?_
    refine WL_step rfl rfl (r_pickF rfl rfl) ?_
    refine WL_step rfl rfl (r_move rfl) ?_
    refine WL_step rfl rfl (r_move rfl) ?_
    refine WL_step rfl rfl (r_shr (by omega) rfl rfl) ?_
    refine WL_step rfl rfl (r_fieldAddr fa49_2 rfl) ?_
    refine WL_step rfl rfl (r_loadAt _m2.at_ agg3 rfl rfl) ?_
    refine WL_step rfl rfl (r_and rfl rfl) ?_
    refine WL_step rfl rfl (r_neq rfl rfl) ?_
    refine WL_step rfl rfl (r_pickF rfl rfl) ?_
    refine WL_step rfl rfl (r_assign rfl) ?_
    refine WL_nil ?_
    refine thn_nrm (_hK_3 _ _ ?_)
    clear _hK_3
    refine W_ret ?_
    exact ret_intro [_] ⟨rfl, trivial⟩ ⟨congrArg Value.bool (by unfold accB; simp_all), E⟩

/-- impl.Positions).after -/
theorem c_impl_Positions_after {w : World} {_B_pL : Nat} {_v_pL : Value} {pL : List Int} (_h_pL : Ls ics 1 w _B_pL _v_pL pL) (pfirst : Int) (plast : Int) {_B_pF : Nat} {_v_pF : Value} {pF : List Int} (_h_pF : Ls ics 1 w _B_pF _v_pF pF) (pnull : Bool) (set : Int) (letter : Int) (hF : pF.length = pL.length) (hn : pL.length ≤ 20) :
    Ctr Try.prog 94 #[(.agg #[_v_pL, (.int .i64 pfirst), (.int .i64 plast), _v_pF, (.bool pnull)]), (.int .i64 set), (.int .i64 letter)] w (fun v w' => v = .int .i64 (afterP pL pfirst pF set letter) ∧ Ch [] w w') := by
  obtain ⟨_A_pL, _C_pL, _e1_pL⟩ := _h_pL.val
  subst _e1_pL
  have _l_pL := _h_pL.len
  have _h_pL := _h_pL.here (by decide)
  obtain ⟨_A_pF, _C_pF, _e1_pF⟩ := _h_pF.val
  subst _e1_pF
  have _l_pF := _h_pF.len
  have _h_pF := _h_pF.here (by decide)
  have E := Ch.refl [] w
  refine Ctr_of_W (N := 61) (vs0 := [(.agg #[(.slice _A_pL pL.length _C_pL), (.int .i64 pfirst), (.int .i64 plast), (.slice _A_pF pF.length _C_pF), (.bool pnull)]), (.int .i64 set), (.int .i64 letter)]) Try.func94 rfl rfl rfl ?_
  refine W_seq fun _K_1 _hK_1 => ?_
  refine W_region ?_
  refine WL_s rfl rfl ?_
  refine s_box rfl fun _b3 _w_2 _m3 _cw_2 _e3 => ?_
  have _cw_2z := _cw_2.size
  have E := E.trans _cw_2
  have _z3 := _m3.lt
  replace _m3 : Blk _w_2 _b3 49 [(.slice _A_pL pL.length _C_pL), (.int .i64 pfirst), (.int .i64 plast), (.slice _A_pF pF.length _C_pF), (.bool pnull)] := _m3
  refine WL_step rfl rfl (r_assign rfl) ?_
  refine WL_nil ?_
  refine thn_nrm (_hK_1 _ _ ?_)
  clear _hK_1
  refine W_seq fun _K_3 _hK_3 => ?_
  refine W_region ?_
  refine WL_step rfl rfl (r_assign rfl) ?_
  refine WL_nil ?_
  refine thn_nrm (_hK_3 _ _ ?_)
  clear _hK_3
  refine W_seq fun _K_4 _hK_4 => ?_
  refine W_seq fun _K_5 _hK_5 => ?_
  refine W_region ?_
  refine WL_step rfl rfl (r_move rfl) ?_
  refine WL_step rfl rfl (r_and rfl rfl) ?_
  refine WL_step rfl rfl (r_eql rfl rfl) ?_
  refine WL_nil ?_
  refine thn_nrm (_hK_5 _ _ ?_)
  clear _hK_5
  refine W_cond rfl (fun _h15 => ?_) (fun _h15 => ?_)
  · have _h15 := bt_d _h15
    refine W_region ?_
    refine WL_step rfl rfl (r_fieldAddr fa49_1 rfl) ?_
    refine WL_step rfl rfl (r_loadAt _m3.at_ agg3 rfl rfl) ?_
    refine WL_step rfl rfl (r_assign rfl) ?_
    refine WL_nil ?_
    refine thn_nrm (_hK_4 _ _ ?_)
    clear _hK_4
    refine W_seq fun _K_6 _hK_6 => ?_
    refine W_seq fun _K_7 _hK_7 => ?_
    refine W_region ?_
    refine WL_step rfl rfl (r_fieldAddr fa49_3 rfl) ?_
    refine WL_step rfl rfl (r_loadAt _m3.at_ agg35 rfl rfl) ?_
    refine WL_step rfl rfl (r_len (by rw [el35]; rfl) rfl) ?_
    refine WL_step rfl rfl (r_move rfl) ?_
    refine WL_nil ?_
    refine thn_nrm (_hK_7 _ _ ?_)
    clear _hK_7
    refine W_block ?_
    refine W_loop (σ := Nat × Int) (fun ⟨k, m⟩ => [(0, (.agg #[(.slice _A_pL pL.length _C_pL), (.int .i64 pfirst), (.int .i64 plast), (.slice _A_pF pF.length _C_pF), (.bool pnull)])), (1, (.int .i64 set)), (2, (.int .i64 letter)), (3, (.pointer (some ⟨_b3, 0, none⟩))), (6, (.int .i64 0)), (7, (.int .i64 m)), (13, (.int .i64 set)), (14, (.int .i64 (iand set 1))), (15, (.bool (decide ((iand set 1) = 1)))), (16, (.pointer (some (Addr.add ⟨_b3, 0, none⟩ 1)))), (17, (.int .i64 pfirst)), (18, (.pointer (some (Addr.add ⟨_b3, 0, none⟩ 3)))), (19, (.slice _A_pF pF.length _C_pF)), (20, (.int .i64 ((pF.length : Nat) : Int))), (21, (.int .i64 ((k : Nat) : Int)))]) (fun ⟨k, m⟩ wx => Ch [] w wx ∧ k ≤ pL.length ∧ m = nxt pF set (if iand set 1 = 1 then pfirst else 0) k ∧ Blk wx _b3 49 [(.slice _A_pL pL.length _C_pL), (.int .i64 pfirst), (.int .i64 plast), (.slice _A_pF pF.length _C_pF), (.bool pnull)]) (fun ⟨k, m⟩ => pL.length - k) (0, pfirst) (Sub.cons rfl (Sub.cons rfl (Sub.cons rfl (Sub.cons rfl (Sub.cons rfl (Sub.cons rfl (Sub.cons rfl (Sub.cons rfl (Sub.cons rfl (Sub.cons rfl (Sub.cons rfl (Sub.cons rfl (Sub.cons rfl (Sub.cons rfl (Sub.cons rfl (Sub.nil _)))))))))))))))) ⟨E, (by omega), (by first | exact (if_pos _h15).symm | exact (if_neg _h15).symm), _m3⟩ ?_
    rintro ⟨k, m⟩ _wr_8 ⟨E, _hk, hm, _F0_2⟩
    have _E0h := E
    have _E0hz := _E0h.size
    have _F0_2z := _F0_2.lt
    refine W_seq fun _K_9 _hK_9 => ?_
    refine W_region ?_
    refine WL_step rfl rfl (r_lss rfl rfl) ?_
    refine WL_nil ?_
    refine thn_nrm (_hK_9 _ _ ?_)
    clear _hK_9
    refine W_seq fun _K_10 _hK_10 => ?_
    refine W_cond rfl (fun _h22 => ?_) (fun _h22 => ?_)
    · have _h22 := bt_d _h22
      refine W_skip ?_
      refine thn_nrm (_hK_10 _ _ ?_)
      clear _hK_10
      refine W_seq fun _K_11 _hK_11 => ?_
      refine W_block ?_
      refine W_seq fun _K_12 _hK_12 => ?_
      refine W_region ?_
      refine WL_step rfl rfl (r_move rfl) ?_
      refine WL_s rfl rfl ?_
      have _f_13 := (_h_pF.ch0 _E0h)
      refine (s_index _f_13 ics_len el35 sz3 rfl rfl rfl (by omega) fun _p24 _y24 _hy24 _a24 => ?_)
      refine WL_step rfl rfl (r_loadAt0 _a24 agg3 rfl rfl) ?_
      refine WL_step rfl rfl (r_assign rfl) ?_
      refine WL_step rfl rfl (r_assign rfl) ?_
      refine WL_nil ?_
      refine thn_nrm (_hK_12 _ _ ?_)
      clear _hK_12
      refine W_seq fun _K_14 _hK_14 => ?_
      refine W_region ?_
      refine WL_step rfl rfl (r_move rfl) ?_
      refine WL_step rfl rfl (r_move rfl) ?_
      refine WL_step rfl rfl (r_add (by omega) rfl rfl) ?_
      refine WL_step rfl rfl (r_shr (by omega) rfl rfl) ?_
      refine WL_step rfl rfl (r_and rfl rfl) ?_
      refine WL_step rfl rfl (r_eql rfl rfl) ?_
      refine WL_nil ?_
      refine thn_nrm (_hK_14 _ _ ?_)
      clear _hK_14
      refine W_cond rfl (fun _h31 => ?_) (fun _h31 => ?_)
      · have _h31 := bt_d _h31
        refine W_region ?_
        refine WL_step rfl rfl (r_move rfl) ?_
        refine WL_step rfl rfl (r_move rfl) ?_
        refine WL_step rfl rfl (r_or rfl rfl) ?_
        refine WL_step rfl rfl (r_assign rfl) ?_
        refine WL_nil ?_
        refine inB_nrm ?_
        refine thn_nrm (_hK_11 _ _ ?_)
        clear _hK_11
        refine W_region ?_
        refine WL_step rfl rfl (r_add (by omega) rfl rfl) ?_
        refine WL_step rfl rfl (r_move rfl) ?_
        refine WL_nil ?_
        exact thn_nrm (Exists.intro ((k + 1), (ior m _y24)) ⟨⟨E, (by omega), (by first | exact nxt_y _h31 hm _hy24 | exact nxt_n _h31 hm), _F0_2⟩, Sub.cons rfl (Sub.cons rfl (Sub.cons rfl (Sub.cons rfl (Sub.cons rfl (Sub.cons rfl (Sub.cons rfl (Sub.cons rfl (Sub.cons rfl (Sub.cons rfl (Sub.cons rfl (Sub.cons rfl (Sub.cons rfl (Sub.cons rfl (Sub.cons rfl (Sub.nil _))))))))))))))), (by first | omega | (dsimp only; omega))⟩)
      · have _h31 := bf_d _h31
        refine W_skip ?_
        refine inB_nrm ?_
        refine thn_nrm (_hK_11 _ _ ?_)
        clear _hK_11
        refine W_region ?_
        refine WL_step rfl rfl (r_add (by omega) rfl rfl) ?_
        refine WL_step rfl rfl (r_move rfl) ?_
        refine WL_nil ?_
        exact thn_nrm (Exists.intro ((k + 1), m) ⟨⟨E, (by omega), (by first | exact nxt_y _h31 hm _hy24 | exact nxt_n _h31 hm), _F0_2⟩, Sub.cons rfl (Sub.cons rfl (Sub.cons rfl (Sub.cons rfl (Sub.cons rfl (Sub.cons rfl (Sub.cons rfl (Sub.cons rfl (Sub.cons rfl (Sub.cons rfl (Sub.cons rfl (Sub.cons rfl (Sub.cons rfl (Sub.cons rfl (Sub.cons rfl (Sub.nil _))))))))))))))), (by first | omega | (dsimp only; omega))⟩)
    · have _h22 := bf_d _h22
      refine W_exit (thn_exit (thn_exit (inB_hit ?_)))
      refine thn_nrm (_hK_6 _ _ ?_)
      clear _hK_6
      refine W_seq fun _K_15 _hK_15 => ?_
      refine W_region ?_
      refine WL_step rfl rfl (r_assign rfl) ?_
      refine WL_nil ?_
      refine thn_nrm (_hK_15 _ _ ?_)
      clear _hK_15
      refine W_seq fun _K_16 _hK_16 => ?_
      refine W_seq fun _K_17 _hK_17 => ?_
      refine W_region ?_
      refine WL_step rfl rfl (r_fieldAddr fa49_0 rfl) ?_
      refine WL_step rfl rfl (r_loadAt _F0_2.at_ agg35 rfl rfl) ?_
      refine WL_step rfl rfl (r_len (by rw [el35]; rfl) rfl) ?_
      refine WL_step rfl rfl (r_move rfl) ?_
      refine WL_nil ?_
      refine thn_nrm (_hK_17 _ _ ?_)
      clear _hK_17
      refine W_block ?_
      refine W_loop (σ := Nat × Int) (fun ⟨q, o⟩ => [(0, (.agg #[(.slice _A_pL pL.length _C_pL), (.int .i64 pfirst), (.int .i64 plast), (.slice _A_pF pF.length _C_pF), (.bool pnull)])), (1, (.int .i64 set)), (2, (.int .i64 letter)), (3, (.pointer (some ⟨_b3, 0, none⟩))), (6, (.int .i64 0)), (7, (.int .i64 m)), (10, (.int .i64 o)), (13, (.int .i64 set)), (14, (.int .i64 (iand set 1))), (15, (.bool (decide ((iand set 1) = 1)))), (16, (.pointer (some (Addr.add ⟨_b3, 0, none⟩ 1)))), (17, (.int .i64 pfirst)), (18, (.pointer (some (Addr.add ⟨_b3, 0, none⟩ 3)))), (19, (.slice _A_pF pF.length _C_pF)), (20, (.int .i64 ((pF.length : Nat) : Int))), (21, (.int .i64 ((k : Nat) : Int))), (22, (.bool (decide (((k : Nat) : Int) < ((pF.length : Nat) : Int))))), (36, (.pointer (some (Addr.add ⟨_b3, 0, none⟩ 0)))), (37, (.slice _A_pL pL.length _C_pL)), (38, (.int .i64 ((pL.length : Nat) : Int))), (39, (.int .i64 ((q : Nat) : Int)))]) (fun ⟨q, o⟩ wx => Ch [] w wx ∧ q ≤ pL.length ∧ o = outP pL (nxt pF set (if iand set 1 = 1 then pfirst else 0) pL.length) letter q ∧ Blk wx _b3 49 [(.slice _A_pL pL.length _C_pL), (.int .i64 pfirst), (.int .i64 plast), (.slice _A_pF pF.length _C_pF), (.bool pnull)]) (fun ⟨q, o⟩ => pL.length - q) (0, 0) (Sub.cons rfl (Sub.cons rfl (Sub.cons rfl (Sub.cons rfl (Sub.cons rfl (Sub.cons rfl (Sub.cons rfl (Sub.cons rfl (Sub.cons rfl (Sub.cons rfl (Sub.cons rfl (Sub.cons rfl (Sub.cons rfl (Sub.cons rfl (Sub.cons rfl (Sub.cons rfl (Sub.cons rfl (Sub.cons rfl (Sub.cons rfl (Sub.cons rfl (Sub.cons rfl (Sub.nil _)))))))))))))))))))))) ⟨E, (by omega), rfl, _F0_2⟩ ?_
      rintro ⟨q, o⟩ _wr_18 ⟨E, hq, ho, _F1_2⟩
      have _E1h := E
      have _E1hz := _E1h.size
      have _F1_2z := _F1_2.lt
      have hm2 : m = nxt pF set (if iand set 1 = 1 then pfirst else 0) pL.length := by rw [hm, show k = pL.length by omega]
      refine W_seq fun _K_19 _hK_19 => ?_
      refine W_region ?_
      refine WL_step rfl rfl (r_lss rfl rfl) ?_
      refine WL_nil ?_
      refine thn_nrm (_hK_19 _ _ ?_)
      clear _hK_19
      refine W_seq fun _K_20 _hK_20 => ?_
      refine W_cond rfl (fun _h40 => ?_) (fun _h40 => ?_)
      · have _h40 := bt_d _h40
        refine W_skip ?_
        refine thn_nrm (_hK_20 _ _ ?_)
        clear _hK_20
        refine W_seq fun _K_21 _hK_21 => ?_
        refine W_block ?_
        refine W_seq fun _K_22 _hK_22 => ?_
        refine W_region ?_
        refine WL_step rfl rfl (r_move rfl) ?_
        refine WL_s rfl rfl ?_
        have _f_23 := (_h_pL.ch0 _E1h)
        refine (s_index _f_23 ics_len el35 sz3 rfl rfl rfl (by omega) fun _p42 _y42 _hy42 _a42 => ?_)
        refine WL_step rfl rfl (r_loadAt0 _a42 agg3 rfl rfl) ?_
        refine WL_step rfl rfl (r_assign rfl) ?_
        refine WL_step rfl rfl (r_assign rfl) ?_
        refine WL_nil ?_
        refine thn_nrm (_hK_22 _ _ ?_)
        clear _hK_22
        refine W_seq fun _K_24 _hK_24 => ?_
        refine W_region ?_
        refine WL_step rfl rfl (r_move rfl) ?_
        refine WL_step rfl rfl (r_move rfl) ?_
        refine WL_step rfl rfl (r_eql rfl rfl) ?_
        refine WL_step rfl rfl (r_move rfl) ?_
        refine WL_split (d := 47) rfl (fun _h47 => ?_) (fun _h47 => ?_)
        · have _h47 := bt_d _h47
          refine WL_step rfl rfl (r_move rfl) ?_
          refine WL_step rfl rfl (r_move rfl) ?_
          refine WL_step rfl rfl (r_shr (by omega) rfl rfl) ?_
          refine WL_step rfl rfl (r_and rfl rfl) ?_
          refine WL_step rfl rfl (r_eql rfl rfl) ?_
          refine WL_step rfl rfl (r_pickT rfl rfl) ?_
          refine WL_nil ?_
          refine thn_nrm (_hK_24 _ _ ?_)
          clear _hK_24
          refine W_cond rfl (fun _h53 => ?_) (fun _h53 => ?_)
          · have _h53 := bt_d _h53
            refine W_region ?_
            refine WL_step rfl rfl (r_move rfl) ?_
            refine WL_step rfl rfl (r_move rfl) ?_
            refine WL_step rfl rfl (r_add (by omega) rfl rfl) ?_
            refine WL_step rfl rfl (r_shl (by omega) rfl rfl) ?_
            refine WL_step rfl rfl (r_or rfl rfl) ?_
            refine WL_step rfl rfl (r_assign rfl) ?_
            refine WL_nil ?_
            refine inB_nrm ?_
            refine thn_nrm (_hK_21 _ _ ?_)
            clear _hK_21
            refine W_region ?_
            refine WL_step rfl rfl (r_add (by omega) rfl rfl) ?_
            refine WL_step rfl rfl (r_move rfl) ?_
            refine WL_nil ?_
            exact thn_nrm (Exists.intro ((q + 1), (ior o (ishl 1 (((q : Nat) : Int) + 1)))) ⟨⟨E, (by omega), (by first | exact out_y _hy42 _h47 (by rw [← hm2]; exact _h53) ho | exact out_n2 _hy42 _h47 ho | exact out_n1 (by rw [← hm2]; exact _h53) ho), _F1_2⟩, Sub.cons rfl (Sub.cons rfl (Sub.cons rfl (Sub.cons rfl (Sub.cons rfl (Sub.cons rfl (Sub.cons rfl (Sub.cons rfl (Sub.cons rfl (Sub.cons rfl (Sub.cons rfl (Sub.cons rfl (Sub.cons rfl (Sub.cons rfl (Sub.cons rfl (Sub.cons rfl (Sub.cons rfl (Sub.cons rfl (Sub.cons rfl (Sub.cons rfl (Sub.cons rfl (Sub.nil _))))))))))))))))))))), (by first | omega | (dsimp only; omega))⟩)
          · have _h53 := bf_d _h53
            refine W_skip ?_
            refine inB_nrm ?_
            refine thn_nrm (_hK_21 _ _ ?_)
            clear _hK_21
            refine W_region ?_
            refine WL_step rfl rfl (r_add (by omega) rfl rfl) ?_
            refine WL_step rfl rfl (r_move rfl) ?_
            refine WL_nil ?_
            exact thn_nrm (Exists.intro ((q + 1), o) ⟨⟨E, (by omega), (by first | exact out_y _hy42 _h47 (by rw [← hm2]; exact _h53) ho | exact out_n2 _hy42 _h47 ho | exact out_n1 (by rw [← hm2]; exact _h53) ho), _F1_2⟩, Sub.cons rfl (Sub.cons rfl (Sub.cons rfl (Sub.cons rfl (Sub.cons rfl (Sub.cons rfl (Sub.cons rfl (Sub.cons rfl (Sub.cons rfl (Sub.cons rfl (Sub.cons rfl (Sub.cons rfl (Sub.cons rfl (Sub.cons rfl (Sub.cons rfl (Sub.cons rfl (Sub.cons rfl (Sub.cons rfl (Sub.cons rfl (Sub.cons rfl (Sub.cons rfl (Sub.nil _))))))))))))))))))))), (by first | omega | (dsimp only; omega))⟩)
        · have _h47 := bf_d _h47
          refine WL_skip rfl rfl ?_
          refine WL_skip rfl rfl ?_
          refine WL_skip rfl rfl ?_
          refine WL_skip rfl rfl ?_
          refine WL_skip rfl rfl ?_
          refine WL_step rfl rfl (r_pickF rfl rfl) ?_
          refine WL_nil ?_
          refine thn_nrm (_hK_24 _ _ ?_)
          clear _hK_24
          refine W_condF rfl ?_
          refine W_skip ?_
          refine inB_nrm ?_
          refine thn_nrm (_hK_21 _ _ ?_)
          clear _hK_21
          refine W_region ?_
          refine WL_step rfl rfl (r_add (by omega) rfl rfl) ?_
          refine WL_step rfl rfl (r_move rfl) ?_
          refine WL_nil ?_
          exact thn_nrm (Exists.intro ((q + 1), o) ⟨⟨E, (by omega), (by first | exact out_y _hy42 _h47 (by rw [← hm2]; exact _h53) ho | exact out_n2 _hy42 _h47 ho | exact out_n1 (by rw [← hm2]; exact _h53) ho), _F1_2⟩, Sub.cons rfl (Sub.cons rfl (Sub.cons rfl (Sub.cons rfl (Sub.cons rfl (Sub.cons rfl (Sub.cons rfl (Sub.cons rfl (Sub.cons rfl (Sub.cons rfl (Sub.cons rfl (Sub.cons rfl (Sub.cons rfl (Sub.cons rfl (Sub.cons rfl (Sub.cons rfl (Sub.cons rfl (Sub.cons rfl (Sub.cons rfl (Sub.cons rfl (Sub.cons rfl (Sub.nil _))))))))))))))))))))), (by first | omega | (dsimp only; omega))⟩)
      · have _h40 := bf_d _h40
        refine W_exit (thn_exit (thn_exit (inB_hit ?_)))
        refine thn_nrm (_hK_16 _ _ ?_)
        clear _hK_16
        refine W_seq fun _K_25 _hK_25 => ?_
        refine W_region ?_
        refine WL_step rfl rfl (r_move rfl) ?_
        refine WL_step rfl rfl (r_assign rfl) ?_
        refine WL_nil ?_
        refine thn_nrm (_hK_25 _ _ ?_)
        clear _hK_25
        refine W_ret ?_
        clear _hK_10 _hK_20
        exact ret_intro [_] ⟨rfl, trivial⟩ ⟨congrArg (Value.int .i64) (by unfold afterP; rw [ho, show q = pL.length by omega]), E⟩
  · have _h15 := bf_d _h15
    refine W_skip ?_
    refine thn_nrm (_hK_4 _ _ ?_)
    clear _hK_4
    refine W_seq fun _K_26 _hK_26 => ?_
    refine W_seq fun _K_27 _hK_27 => ?_
    refine W_region ?_
    refine WL_step rfl rfl (r_fieldAddr fa49_3 rfl) ?_
    refine WL_step rfl rfl (r_loadAt _m3.at_ agg35 rfl rfl) ?_
    refine WL_step rfl rfl (r_len (by rw [el35]; rfl) rfl) ?_
    refine WL_step rfl rfl (r_move rfl) ?_
    refine WL_nil ?_
    refine thn_nrm (_hK_27 _ _ ?_)
    clear _hK_27
    refine W_block ?_
    refine W_loop (σ := Nat × Int) (fun ⟨k, m⟩ => [(0, (.agg #[(.slice _A_pL pL.length _C_pL), (.int .i64 pfirst), (.int .i64 plast), (.slice _A_pF pF.length _C_pF), (.bool pnull)])), (1, (.int .i64 set)), (2, (.int .i64 letter)), (3, (.pointer (some ⟨_b3, 0, none⟩))), (6, (.int .i64 0)), (7, (.int .i64 m)), (13, (.int .i64 set)), (14, (.int .i64 (iand set 1))), (15, (.bool (decide ((iand set 1) = 1)))), (18, (.pointer (some (Addr.add ⟨_b3, 0, none⟩ 3)))), (19, (.slice _A_pF pF.length _C_pF)), (20, (.int .i64 ((pF.length : Nat) : Int))), (21, (.int .i64 ((k : Nat) : Int)))]) (fun ⟨k, m⟩ wx => Ch [] w wx ∧ k ≤ pL.length ∧ m = nxt pF set (if iand set 1 = 1 then pfirst else 0) k ∧ Blk wx _b3 49 [(.slice _A_pL pL.length _C_pL), (.int .i64 pfirst), (.int .i64 plast), (.slice _A_pF pF.length _C_pF), (.bool pnull)]) (fun ⟨k, m⟩ => pL.length - k) (0, 0) (Sub.cons rfl (Sub.cons rfl (Sub.cons rfl (Sub.cons rfl (Sub.cons rfl (Sub.cons rfl (Sub.cons rfl (Sub.cons rfl (Sub.cons rfl (Sub.cons rfl (Sub.cons rfl (Sub.cons rfl (Sub.cons rfl (Sub.nil _)))))))))))))) ⟨E, (by omega), (by first | exact (if_pos _h15).symm | exact (if_neg _h15).symm), _m3⟩ ?_
    rintro ⟨k, m⟩ _wr_28 ⟨E, _hk, hm, _F0_2⟩
    have _E0h := E
    have _E0hz := _E0h.size
    have _F0_2z := _F0_2.lt
    refine W_seq fun _K_29 _hK_29 => ?_
    refine W_region ?_
    refine WL_step rfl rfl (r_lss rfl rfl) ?_
    refine WL_nil ?_
    refine thn_nrm (_hK_29 _ _ ?_)
    clear _hK_29
    refine W_seq fun _K_30 _hK_30 => ?_
    refine W_cond rfl (fun _h22 => ?_) (fun _h22 => ?_)
    · have _h22 := bt_d _h22
      refine W_skip ?_
      refine thn_nrm (_hK_30 _ _ ?_)
      clear _hK_30
      refine W_seq fun _K_31 _hK_31 => ?_
      refine W_block ?_
      refine W_seq fun _K_32 _hK_32 => ?_
      refine W_region ?_
      refine WL_step rfl rfl (r_move rfl) ?_
      refine WL_s rfl rfl ?_
      have _f_33 := (_h_pF.ch0 _E0h)
      refine (s_index _f_33 ics_len el35 sz3 rfl rfl rfl (by omega) fun _p24 _y24 _hy24 _a24 => ?_)
      refine WL_step rfl rfl (r_loadAt0 _a24 agg3 rfl rfl) ?_
      refine WL_step rfl rfl (r_assign rfl) ?_
      refine WL_step rfl rfl (r_assign rfl) ?_
      refine WL_nil ?_
      refine thn_nrm (_hK_32 _ _ ?_)
      clear _hK_32
      refine W_seq fun _K_34 _hK_34 => ?_
      refine W_region ?_
      refine WL_step rfl rfl (r_move rfl) ?_
      refine WL_step rfl rfl (r_move rfl) ?_
      refine WL_step rfl rfl (r_add (by omega) rfl rfl) ?_
      refine WL_step rfl rfl (r_shr (by omega) rfl rfl) ?_
      refine WL_step rfl rfl (r_and rfl rfl) ?_
      refine WL_step rfl rfl (r_eql rfl rfl) ?_
      refine WL_nil ?_
      refine thn_nrm (_hK_34 _ _ ?_)
      clear _hK_34
      refine W_cond rfl (fun _h31 => ?_) (fun _h31 => ?_)
      · have _h31 := bt_d _h31
        refine W_region ?_
        refine WL_step rfl rfl (r_move rfl) ?_
        refine WL_step rfl rfl (r_move rfl) ?_
        refine WL_step rfl rfl (r_or rfl rfl) ?_
        refine WL_step rfl rfl (r_assign rfl) ?_
        refine WL_nil ?_
        refine inB_nrm ?_
        refine thn_nrm (_hK_31 _ _ ?_)
        clear _hK_31
        refine W_region ?_
        refine WL_step rfl rfl (r_add (by omega) rfl rfl) ?_
        refine WL_step rfl rfl (r_move rfl) ?_
        refine WL_nil ?_
        exact thn_nrm (Exists.intro ((k + 1), (ior m _y24)) ⟨⟨E, (by omega), (by first | exact nxt_y _h31 hm _hy24 | exact nxt_n _h31 hm), _F0_2⟩, Sub.cons rfl (Sub.cons rfl (Sub.cons rfl (Sub.cons rfl (Sub.cons rfl (Sub.cons rfl (Sub.cons rfl (Sub.cons rfl (Sub.cons rfl (Sub.cons rfl (Sub.cons rfl (Sub.cons rfl (Sub.cons rfl (Sub.nil _))))))))))))), (by first | omega | (dsimp only; omega))⟩)
      · have _h31 := bf_d _h31
        refine W_skip ?_
        refine inB_nrm ?_
        refine thn_nrm (_hK_31 _ _ ?_)
        clear _hK_31
        refine W_region ?_
        refine WL_step rfl rfl (r_add (by omega) rfl rfl) ?_
        refine WL_step rfl rfl (r_move rfl) ?_
        refine WL_nil ?_
        exact thn_nrm (Exists.intro ((k + 1), m) ⟨⟨E, (by omega), (by first | exact nxt_y _h31 hm _hy24 | exact nxt_n _h31 hm), _F0_2⟩, Sub.cons rfl (Sub.cons rfl (Sub.cons rfl (Sub.cons rfl (Sub.cons rfl (Sub.cons rfl (Sub.cons rfl (Sub.cons rfl (Sub.cons rfl (Sub.cons rfl (Sub.cons rfl (Sub.cons rfl (Sub.cons rfl (Sub.nil _))))))))))))), (by first | omega | (dsimp only; omega))⟩)
    · have _h22 := bf_d _h22
      refine W_exit (thn_exit (thn_exit (inB_hit ?_)))
      refine thn_nrm (_hK_26 _ _ ?_)
      clear _hK_26
      refine W_seq fun _K_35 _hK_35 => ?_
      refine W_region ?_
      refine WL_step rfl rfl (r_assign rfl) ?_
      refine WL_nil ?_
      refine thn_nrm (_hK_35 _ _ ?_)
      clear _hK_35
      refine W_seq fun _K_36 _hK_36 => ?_
      refine W_seq fun _K_37 _hK_37 => ?_
      refine W_region ?_
      refine WL_step rfl rfl (r_fieldAddr fa49_0 rfl) ?_
      refine WL_step rfl rfl (r_loadAt _F0_2.at_ agg35 rfl rfl) ?_
      refine WL_step rfl rfl (r_len (by rw [el35]; rfl) rfl) ?_
      refine WL_step rfl rfl (r_move rfl) ?_
      refine WL_nil ?_
      refine thn_nrm (_hK_37 _ _ ?_)
      clear _hK_37
      refine W_block ?_
      refine W_loop (σ := Nat × Int) (fun ⟨q, o⟩ => [(0, (.agg #[(.slice _A_pL pL.length _C_pL), (.int .i64 pfirst), (.int .i64 plast), (.slice _A_pF pF.length _C_pF), (.bool pnull)])), (1, (.int .i64 set)), (2, (.int .i64 letter)), (3, (.pointer (some ⟨_b3, 0, none⟩))), (6, (.int .i64 0)), (7, (.int .i64 m)), (10, (.int .i64 o)), (13, (.int .i64 set)), (14, (.int .i64 (iand set 1))), (15, (.bool (decide ((iand set 1) = 1)))), (18, (.pointer (some (Addr.add ⟨_b3, 0, none⟩ 3)))), (19, (.slice _A_pF pF.length _C_pF)), (20, (.int .i64 ((pF.length : Nat) : Int))), (21, (.int .i64 ((k : Nat) : Int))), (22, (.bool (decide (((k : Nat) : Int) < ((pF.length : Nat) : Int))))), (36, (.pointer (some (Addr.add ⟨_b3, 0, none⟩ 0)))), (37, (.slice _A_pL pL.length _C_pL)), (38, (.int .i64 ((pL.length : Nat) : Int))), (39, (.int .i64 ((q : Nat) : Int)))]) (fun ⟨q, o⟩ wx => Ch [] w wx ∧ q ≤ pL.length ∧ o = outP pL (nxt pF set (if iand set 1 = 1 then pfirst else 0) pL.length) letter q ∧ Blk wx _b3 49 [(.slice _A_pL pL.length _C_pL), (.int .i64 pfirst), (.int .i64 plast), (.slice _A_pF pF.length _C_pF), (.bool pnull)]) (fun ⟨q, o⟩ => pL.length - q) (0, 0) (Sub.cons rfl (Sub.cons rfl (Sub.cons rfl (Sub.cons rfl (Sub.cons rfl (Sub.cons rfl (Sub.cons rfl (Sub.cons rfl (Sub.cons rfl (Sub.cons rfl (Sub.cons rfl (Sub.cons rfl (Sub.cons rfl (Sub.cons rfl (Sub.cons rfl (Sub.cons rfl (Sub.cons rfl (Sub.cons rfl (Sub.cons rfl (Sub.nil _)))))))))))))))))))) ⟨E, (by omega), rfl, _F0_2⟩ ?_
      rintro ⟨q, o⟩ _wr_38 ⟨E, hq, ho, _F1_2⟩
      have _E1h := E
      have _E1hz := _E1h.size
      have _F1_2z := _F1_2.lt
      have hm2 : m = nxt pF set (if iand set 1 = 1 then pfirst else 0) pL.length := by rw [hm, show k = pL.length by omega]
      refine W_seq fun _K_39 _hK_39 => ?_
      refine W_region ?_
      refine WL_step rfl rfl (r_lss rfl rfl) ?_
      refine WL_nil ?_
      refine thn_nrm (_hK_39 _ _ ?_)
      clear _hK_39
      refine W_seq fun _K_40 _hK_40 => ?_
      refine W_cond rfl (fun _h40 => ?_) (fun _h40 => ?_)
      · have _h40 := bt_d _h40
        refine W_skip ?_
        refine thn_nrm (_hK_40 _ _ ?_)
        clear _hK_40
        refine W_seq fun _K_41 _hK_41 => ?_
        refine W_block ?_
        refine W_seq fun _K_42 _hK_42 => ?_
        refine W_region ?_
        refine WL_step rfl rfl (r_move rfl) ?_
        refine WL_s rfl rfl ?_
        have _f_43 := (_h_pL.ch0 _E1h)
        refine (s_index _f_43 ics_len el35 sz3 rfl rfl rfl (by omega) fun _p42 _y42 _hy42 _a42 => ?_)
        refine WL_step rfl rfl (r_loadAt0 _a42 agg3 rfl rfl) ?_
        refine WL_step rfl rfl (r_assign rfl) ?_
        refine WL_step rfl rfl (r_assign rfl) ?_
        refine WL_nil ?_
        refine thn_nrm (_hK_42 _ _ ?_)
        clear _hK_42
        refine W_seq fun _K_44 _hK_44 => ?_
        refine W_region ?_
        refine WL_step rfl rfl (r_move rfl) ?_
        refine WL_step rfl rfl (r_move rfl) ?_
        refine WL_step rfl rfl (r_eql rfl rfl) ?_
        refine WL_step rfl rfl (r_move rfl) ?_
        refine WL_split (d := 47) rfl (fun _h47 => ?_) (fun _h47 => ?_)
        · have _h47 := bt_d _h47
          refine WL_step rfl rfl (r_move rfl) ?_
          refine WL_step rfl rfl (r_move rfl) ?_
          refine WL_step rfl rfl (r_shr (by omega) rfl rfl) ?_
          refine WL_step rfl rfl (r_and rfl rfl) ?_
          refine WL_step rfl rfl (r_eql rfl rfl) ?_
          refine WL_step rfl rfl (r_pickT rfl rfl) ?_
          refine WL_nil ?_
          refine thn_nrm (_hK_44 _ _ ?_)
          clear _hK_44
          refine W_cond rfl (fun _h53 => ?_) (fun _h53 => ?_)
          · have _h53 := bt_d _h53
            refine W_region ?_
            refine WL_step rfl rfl (r_move rfl) ?_
            refine WL_step rfl rfl (r_move rfl) ?_
            refine WL_step rfl rfl (r_add (by omega) rfl rfl) ?_
            refine WL_step rfl rfl (r_shl (by omega) rfl rfl) ?_
            refine WL_step rfl rfl (r_or rfl rfl) ?_
            refine WL_step rfl rfl (r_assign rfl) ?_
            refine WL_nil ?_
            refine inB_nrm ?_
            refine thn_nrm (_hK_41 _ _ ?_)
            clear _hK_41
            refine W_region ?_
            refine WL_step rfl rfl (r_add (by omega) rfl rfl) ?_
            refine WL_step rfl rfl (r_move rfl) ?_
            refine WL_nil ?_
            exact thn_nrm (Exists.intro ((q + 1), (ior o (ishl 1 (((q : Nat) : Int) + 1)))) ⟨⟨E, (by omega), (by first | exact out_y _hy42 _h47 (by rw [← hm2]; exact _h53) ho | exact out_n2 _hy42 _h47 ho | exact out_n1 (by rw [← hm2]; exact _h53) ho), _F1_2⟩, Sub.cons rfl (Sub.cons rfl (Sub.cons rfl (Sub.cons rfl (Sub.cons rfl (Sub.cons rfl (Sub.cons rfl (Sub.cons rfl (Sub.cons rfl (Sub.cons rfl (Sub.cons rfl (Sub.cons rfl (Sub.cons rfl (Sub.cons rfl (Sub.cons rfl (Sub.cons rfl (Sub.cons rfl (Sub.cons rfl (Sub.cons rfl (Sub.nil _))))))))))))))))))), (by first | omega | (dsimp only; omega))⟩)
          · have _h53 := bf_d _h53
            refine W_skip ?_
            refine inB_nrm ?_
            refine thn_nrm (_hK_41 _ _ ?_)
            clear _hK_41
            refine W_region ?_
            refine WL_step rfl rfl (r_add (by omega) rfl rfl) ?_
            refine WL_step rfl rfl (r_move rfl) ?_
            refine WL_nil ?_
            exact thn_nrm (Exists.intro ((q + 1), o) ⟨⟨E, (by omega), (by first | exact out_y _hy42 _h47 (by rw [← hm2]; exact _h53) ho | exact out_n2 _hy42 _h47 ho | exact out_n1 (by rw [← hm2]; exact _h53) ho), _F1_2⟩, Sub.cons rfl (Sub.cons rfl (Sub.cons rfl (Sub.cons rfl (Sub.cons rfl (Sub.cons rfl (Sub.cons rfl (Sub.cons rfl (Sub.cons rfl (Sub.cons rfl (Sub.cons rfl (Sub.cons rfl (Sub.cons rfl (Sub.cons rfl (Sub.cons rfl (Sub.cons rfl (Sub.cons rfl (Sub.cons rfl (Sub.cons rfl (Sub.nil _))))))))))))))))))), (by first | omega | (dsimp only; omega))⟩)
        · have _h47 := bf_d _h47
          refine WL_skip rfl rfl ?_
          refine WL_skip rfl rfl ?_
          refine WL_skip rfl rfl ?_
          refine WL_skip rfl rfl ?_
          refine WL_skip rfl rfl ?_
          refine WL_step rfl rfl (r_pickF rfl rfl) ?_
          refine WL_nil ?_
          refine thn_nrm (_hK_44 _ _ ?_)
          clear _hK_44
          refine W_condF rfl ?_
          refine W_skip ?_
          refine inB_nrm ?_
          refine thn_nrm (_hK_41 _ _ ?_)
          clear _hK_41
          refine W_region ?_
          refine WL_step rfl rfl (r_add (by omega) rfl rfl) ?_
          refine WL_step rfl rfl (r_move rfl) ?_
          refine WL_nil ?_
          exact thn_nrm (Exists.intro ((q + 1), o) ⟨⟨E, (by omega), (by first | exact out_y _hy42 _h47 (by rw [← hm2]; exact _h53) ho | exact out_n2 _hy42 _h47 ho | exact out_n1 (by rw [← hm2]; exact _h53) ho), _F1_2⟩, Sub.cons rfl (Sub.cons rfl (Sub.cons rfl (Sub.cons rfl (Sub.cons rfl (Sub.cons rfl (Sub.cons rfl (Sub.cons rfl (Sub.cons rfl (Sub.cons rfl (Sub.cons rfl (Sub.cons rfl (Sub.cons rfl (Sub.cons rfl (Sub.cons rfl (Sub.cons rfl (Sub.cons rfl (Sub.cons rfl (Sub.cons rfl (Sub.nil _))))))))))))))))))), (by first | omega | (dsimp only; omega))⟩)
      · have _h40 := bf_d _h40
        refine W_exit (thn_exit (thn_exit (inB_hit ?_)))
        refine thn_nrm (_hK_36 _ _ ?_)
        clear _hK_36
        refine W_seq fun _K_45 _hK_45 => ?_
        refine W_region ?_
        refine WL_step rfl rfl (r_move rfl) ?_
        refine WL_step rfl rfl (r_assign rfl) ?_
        refine WL_nil ?_
        refine thn_nrm (_hK_45 _ _ ?_)
        clear _hK_45
        refine W_ret ?_
        clear _hK_30 _hK_40
        exact ret_intro [_] ⟨rfl, trivial⟩ ⟨congrArg (Value.int .i64) (by unfold afterP; rw [ho, show q = pL.length by omega]), E⟩

/-- impl.PositionsMatch -/
theorem c_impl_PositionsMatch {w : World} {_B_pL : Nat} {_v_pL : Value} {pL : List Int} (_h_pL : Ls ics 1 w _B_pL _v_pL pL) (pfirst : Int) (plast : Int) {_B_pF : Nat} {_v_pF : Value} {pF : List Int} (_h_pF : Ls ics 1 w _B_pF _v_pF pF) (pnull : Bool) {_B_wd : Nat} {_v_wd : Value} {wd : List Int} (_h_wd : Ls ics 1 w _B_wd _v_wd wd) :
    Ctr Try.prog 46 #[(.agg #[_v_pL, (.int .i64 pfirst), (.int .i64 plast), _v_pF, (.bool pnull)]), _v_wd] w (fun v w' => v = .bool (tt ((ValidP pL pfirst plast pF ∧ IsWd wd) ∧ accB plast pnull (runP pL pfirst pF wd wd.length) = true)) ∧ Ch [] w w') := by
  obtain ⟨_A_pL, _C_pL, _e1_pL⟩ := _h_pL.val
  subst _e1_pL
  have _l_pL := _h_pL.len
  have _h_pL := _h_pL.here (by decide)
  obtain ⟨_A_pF, _C_pF, _e1_pF⟩ := _h_pF.val
  subst _e1_pF
  have _l_pF := _h_pF.len
  have _h_pF := _h_pF.here (by decide)
  obtain ⟨_A_wd, _C_wd, _e1_wd⟩ := _h_wd.val
  subst _e1_wd
  have _l_wd := _h_wd.len
  have _h_wd := _h_wd.here (by decide)
  have E := Ch.refl [] w
  refine Ctr_of_W (N := 30) (vs0 := [(.agg #[(.slice _A_pL pL.length _C_pL), (.int .i64 pfirst), (.int .i64 plast), (.slice _A_pF pF.length _C_pF), (.bool pnull)]), (.slice _A_wd wd.length _C_wd)]) Try.func46 rfl rfl rfl ?_
  refine W_seq fun _K_1 _hK_1 => ?_
  refine W_region ?_
  refine WL_s rfl rfl ?_
  refine s_box rfl fun _b2 _w_2 _m2 _cw_2 _e2 => ?_
  have _cw_2z := _cw_2.size
  have E := E.trans _cw_2
  have _z2 := _m2.lt
  replace _m2 : Blk _w_2 _b2 49 [(.slice _A_pL pL.length _C_pL), (.int .i64 pfirst), (.int .i64 plast), (.slice _A_pF pF.length _C_pF), (.bool pnull)] := _m2
  refine WL_step rfl rfl (r_assign rfl) ?_
  refine WL_nil ?_
  refine thn_nrm (_hK_1 _ _ ?_)
  clear _hK_1
  refine W_seq fun _K_3 _hK_3 => ?_
  refine W_seq fun _K_4 _hK_4 => ?_
  refine W_region ?_
  refine WL_step rfl rfl (r_loadAtA0 _m2.at_ agg49 sz49 rfl) ?_
  refine WL_s rfl rfl ?_
  have _f_5 := (_h_pL.ch0 _cw_2)
  have _f_6 := (_h_pF.ch0 _cw_2)
  refine Step.call (r_call (xs := [.tmp 8]) fk92 rfl) (c_impl_IsValidPositions _f_5 _ _ _f_6 _ ) fun _v9 _w_7 _q9 => ?_
  obtain ⟨rfl, _cw_7⟩ := _q9
  have _cw_7z := _cw_7.size
  have E := E.trans _cw_7
  refine WL_step rfl rfl (r_not rfl) ?_
  refine WL_step rfl rfl (r_move rfl) ?_
  refine WL_split (d := 11) rfl (fun _h11 => ?_) (fun _h11 => ?_)
  · have _h11 := bf_t (bt_n _h11)
    refine WL_skip rfl rfl ?_
    refine WL_skip rfl rfl ?_
    refine WL_skip rfl rfl ?_
    refine WL_step rfl rfl (r_pickT rfl rfl) ?_
    refine WL_nil ?_
    refine thn_nrm (_hK_4 _ _ ?_)
    clear _hK_4
    refine W_condT rfl ?_
    refine W_seq fun _K_8 _hK_8 => ?_
    refine W_region ?_
    refine WL_step rfl rfl (r_assign rfl) ?_
    refine WL_nil ?_
    refine thn_nrm (_hK_8 _ _ ?_)
    clear _hK_8
    refine W_ret (thn_ret ?_)
    clear _hK_3
    exact ret_intro [_] ⟨rfl, trivial⟩ ⟨congrArg Value.bool (by first | exact tt_false (fun e => _h11 e.1.1) | exact tt_false (fun e => _h15 e.1.2) | (rw [hs, show k = wd.length by omega]; cases hb : accB plast pnull (runP pL pfirst pF wd wd.length) <;> first | exact tt_true ⟨⟨_h11, _h15⟩, rfl⟩ | exact tt_false (fun e => by cases e.2))), E⟩
  · have _h11 := bt_t (bf_n _h11)
    refine WL_step rfl rfl (r_move rfl) ?_
    refine WL_s rfl rfl ?_
    have _f_9 := ((_h_wd.ch0 _cw_2).ch0 _cw_7)
    refine Step.call (r_call (xs := [.tmp 12]) fk93 rfl) (c_impl_IsWord _f_9 ) fun _v13 _w_10 _q13 => ?_
    obtain ⟨rfl, _cw_10⟩ := _q13
    have _cw_10z := _cw_10.size
    have E := E.trans _cw_10
    refine WL_step rfl rfl (r_not rfl) ?_
    refine WL_step rfl rfl (r_pickF rfl rfl) ?_
    refine WL_nil ?_
    refine thn_nrm (_hK_4 _ _ ?_)
    clear _hK_4
    refine W_cond rfl (fun _h15 => ?_) (fun _h15 => ?_)
    · have _h15 := bf_t (bt_n _h15)
      refine W_seq fun _K_11 _hK_11 => ?_
      refine W_region ?_
      refine WL_step rfl rfl (r_assign rfl) ?_
      refine WL_nil ?_
      refine thn_nrm (_hK_11 _ _ ?_)
      clear _hK_11
      refine W_ret (thn_ret ?_)
      clear _hK_3
      exact ret_intro [_] ⟨rfl, trivial⟩ ⟨congrArg Value.bool (by first | exact tt_false (fun e => _h11 e.1.1) | exact tt_false (fun e => _h15 e.1.2) | (rw [hs, show k = wd.length by omega]; cases hb : accB plast pnull (runP pL pfirst pF wd wd.length) <;> first | exact tt_true ⟨⟨_h11, _h15⟩, rfl⟩ | exact tt_false (fun e => by cases e.2))), E⟩
    · have _h15 := bt_t (bf_n _h15)
      refine W_skip ?_
      refine thn_nrm (_hK_3 _ _ ?_)
      clear _hK_3
      refine W_seq fun _K_12 _hK_12 => ?_
      refine W_region ?_
      refine WL_step rfl rfl (r_assign rfl) ?_
      refine WL_nil ?_
      refine thn_nrm (_hK_12 _ _ ?_)
      clear _hK_12
      refine W_seq fun _K_13 _hK_13 => ?_
      refine W_seq fun _K_14 _hK_14 => ?_
      refine W_region ?_
      refine WL_step rfl rfl (r_move rfl) ?_
      refine WL_step rfl rfl (r_len (by rw [el35]; rfl) rfl) ?_
      refine WL_step rfl rfl (r_move rfl) ?_
      refine WL_nil ?_
      refine thn_nrm (_hK_14 _ _ ?_)
      clear _hK_14
      refine W_block ?_
      have _f_15 := ((_f_5.ch0 _cw_7).ch0 _cw_10)
      have _f_16 := ((_f_6.ch0 _cw_7).ch0 _cw_10)
      have _f_17 := (_f_9.ch0 _cw_10)
      have _f_18 := ((_m2.ch0 _cw_7).ch0 _cw_10)
      refine W_loop (σ := Nat × Int) (fun ⟨k, s⟩ => [(0, (.agg #[(.slice _A_pL pL.length _C_pL), (.int .i64 pfirst), (.int .i64 plast), (.slice _A_pF pF.length _C_pF), (.bool pnull)])), (1, (.slice _A_wd wd.length _C_wd)), (2, (.pointer (some ⟨_b2, 0, none⟩))), (4, (.bool false)), (5, (.int .i64 s)), (8, (.agg #[(.slice _A_pL pL.length _C_pL), (.int .i64 pfirst), (.int .i64 plast), (.slice _A_pF pF.length _C_pF), (.bool pnull)])), (9, (.bool (tt (ValidP pL pfirst plast pF)))), (10, (.bool (!(tt (ValidP pL pfirst plast pF))))), (11, (.bool false)), (12, (.slice _A_wd wd.length _C_wd)), (13, (.bool (tt (IsWd wd)))), (14, (.bool (!(tt (IsWd wd))))), (15, (.bool (!(tt (IsWd wd))))), (16, (.slice _A_wd wd.length _C_wd)), (17, (.int .i64 ((wd.length : Nat) : Int))), (18, (.int .i64 ((k : Nat) : Int)))]) (fun ⟨k, s⟩ wx => Ch [] w wx ∧ k ≤ wd.length ∧ s = runP pL pfirst pF wd k ∧ Ls ics 1 wx w.heap.size (.slice _A_pL pL.length _C_pL) pL ∧ Ls ics 1 wx w.heap.size (.slice _A_pF pF.length _C_pF) pF ∧ Ls ics 1 wx w.heap.size (.slice _A_wd wd.length _C_wd) wd ∧ Blk wx _b2 49 [(.slice _A_pL pL.length _C_pL), (.int .i64 pfirst), (.int .i64 plast), (.slice _A_pF pF.length _C_pF), (.bool pnull)]) (fun ⟨k, s⟩ => wd.length - k) (0, 1) (Sub.cons rfl (Sub.cons rfl (Sub.cons rfl (Sub.cons rfl (Sub.cons rfl (Sub.cons rfl (Sub.cons rfl (Sub.cons rfl (Sub.cons rfl (Sub.cons rfl (Sub.cons rfl (Sub.cons rfl (Sub.cons rfl (Sub.cons rfl (Sub.cons rfl (Sub.cons rfl (Sub.nil _))))))))))))))))) ⟨E, (by omega), rfl, _f_15, _f_16, _f_17, _f_18⟩ ?_
      rintro ⟨k, s⟩ _wr_19 ⟨E, _hk, hs, _F0_0, _F0_1, _F0_2, _F0_3⟩
      have _E0h := E
      have _E0hz := _E0h.size
      have _F0_3z := _F0_3.lt
      refine W_seq fun _K_20 _hK_20 => ?_
      refine W_region ?_
      refine WL_step rfl rfl (r_lss rfl rfl) ?_
      refine WL_nil ?_
      refine thn_nrm (_hK_20 _ _ ?_)
      clear _hK_20
      refine W_seq fun _K_21 _hK_21 => ?_
      refine W_cond rfl (fun _h19 => ?_) (fun _h19 => ?_)
      · have _h19 := bt_d _h19
        refine W_skip ?_
        refine thn_nrm (_hK_21 _ _ ?_)
        clear _hK_21
        refine W_seq fun _K_22 _hK_22 => ?_
        refine W_block ?_
        refine W_seq fun _K_23 _hK_23 => ?_
        refine W_region ?_
        refine WL_s rfl rfl ?_
        refine (s_index _F0_2 ics_len el35 sz3 rfl rfl rfl (by omega) fun _p20 _y20 _hy20 _a20 => ?_)
        refine WL_step rfl rfl (r_loadAt0 _a20 agg3 rfl rfl) ?_
        refine WL_step rfl rfl (r_assign rfl) ?_
        refine WL_nil ?_
        refine thn_nrm (_hK_23 _ _ ?_)
        clear _hK_23
        refine W_region ?_
        refine WL_step rfl rfl (r_loadAtA0 _F0_3.at_ agg49 sz49 rfl) ?_
        refine WL_step rfl rfl (r_move rfl) ?_
        refine WL_step rfl rfl (r_move rfl) ?_
        refine WL_s rfl rfl ?_
        refine Step.call (r_call (xs := [.tmp 22, .tmp 23, .tmp 24]) fk94 rfl) (c_impl_Positions_after _F0_0 _ _ _F0_1 _ _ _ _h11.2.1 _h11.1) fun _v25 _w_24 _q25 => ?_
        obtain ⟨rfl, _cw_24⟩ := _q25
        have _cw_24z := _cw_24.size
        have E := E.trans _cw_24
        refine WL_step rfl rfl (r_assign rfl) ?_
        refine WL_nil ?_
        refine inB_nrm ?_
        refine thn_nrm (_hK_22 _ _ ?_)
        clear _hK_22
        refine W_region ?_
        refine WL_step rfl rfl (r_add (by omega) rfl rfl) ?_
        refine WL_step rfl rfl (r_move rfl) ?_
        refine WL_nil ?_
        have _f_25 := (_F0_0.ch0 _cw_24)
        have _f_26 := (_F0_1.ch0 _cw_24)
        have _f_27 := (_F0_2.ch0 _cw_24)
        have _f_28 := (_F0_3.ch0 _cw_24)
        exact thn_nrm (Exists.intro ((k + 1), afterP pL pfirst pF s _y20) ⟨⟨E, (by omega), (run_step hs _hy20), _f_25, _f_26, _f_27, _f_28⟩, Sub.cons rfl (Sub.cons rfl (Sub.cons rfl (Sub.cons rfl (Sub.cons rfl (Sub.cons rfl (Sub.cons rfl (Sub.cons rfl (Sub.cons rfl (Sub.cons rfl (Sub.cons rfl (Sub.cons rfl (Sub.cons rfl (Sub.cons rfl (Sub.cons rfl (Sub.cons rfl (Sub.nil _)))))))))))))))), (by first | omega | (dsimp only; omega))⟩)
      · have _h19 := bf_d _h19
        refine W_exit (thn_exit (thn_exit (inB_hit ?_)))
        refine thn_nrm (_hK_13 _ _ ?_)
        clear _hK_13
        refine W_seq fun _K_29 _hK_29 => ?_
        refine W_region ?_
        refine WL_step rfl rfl (r_loadAtA0 _F0_3.at_ agg49 sz49 rfl) ?_
        refine WL_step rfl rfl (r_move rfl) ?_
        refine WL_s rfl rfl ?_
        refine Step.call (r_call (xs := [.tmp 27, .tmp 28]) fk95 rfl) (c_impl_Positions_accepts _F0_0 _ _ _F0_1 _ _ ) fun _v29 _w_30 _q29 => ?_
        obtain ⟨rfl, _cw_30⟩ := _q29
        have _cw_30z := _cw_30.size
        have E := E.trans _cw_30
        refine WL_step rfl rfl (r_assign rfl) ?_
        refine WL_nil ?_
        refine thn_nrm (_hK_29 _ _ ?_)
        clear _hK_29
        refine W_ret ?_
        clear _hK_21
        exact ret_intro [_] ⟨rfl, trivial⟩ ⟨congrArg Value.bool (by first | exact tt_false (fun e => _h11 e.1.1) | exact tt_false (fun e => _h15 e.1.2) | (rw [hs, show k = wd.length by omega]; cases hb : accB plast pnull (runP pL pfirst pF wd wd.length) <;> first | exact tt_true ⟨⟨_h11, _h15⟩, rfl⟩ | exact tt_false (fun e => by cases e.2))), E⟩

/-- laws.eqIntS -/
theorem c_laws_eqIntS {w : World} {_B_a : Nat} {_v_a : Value} {a : List Int} (_h_a : Ls ics 1 w _B_a _v_a a) {_B_b : Nat} {_v_b : Value} {b : List Int} (_h_b : Ls ics 1 w _B_b _v_b b) :
    Ctr Try.prog 27 #[_v_a, _v_b] w (fun v w' => v = .bool (decide (a = b)) ∧ Ch [] w w') := by
  obtain ⟨_A_a, _C_a, _e1_a⟩ := _h_a.val
  subst _e1_a
  have _l_a := _h_a.len
  have _h_a := _h_a.here (by decide)
  obtain ⟨_A_b, _C_b, _e1_b⟩ := _h_b.val
  subst _e1_b
  have _l_b := _h_b.len
  have _h_b := _h_b.here (by decide)
  have E := Ch.refl [] w
  refine Ctr_of_W (N := 26) (vs0 := [(.slice _A_a a.length _C_a), (.slice _A_b b.length _C_b)]) Try.func27 rfl rfl rfl ?_
  refine W_seq fun _K_1 _hK_1 => ?_
  refine W_region ?_
  refine WL_step rfl rfl (r_assign rfl) ?_
  refine WL_nil ?_
  refine thn_nrm (_hK_1 _ _ ?_)
  clear _hK_1
  refine W_seq fun _K_2 _hK_2 => ?_
  refine W_seq fun _K_3 _hK_3 => ?_
  refine W_region ?_
  refine WL_step rfl rfl (r_move rfl) ?_
  refine WL_step rfl rfl (r_len (by rw [el35]; rfl) rfl) ?_
  refine WL_step rfl rfl (r_move rfl) ?_
  refine WL_step rfl rfl (r_len (by rw [el35]; rfl) rfl) ?_
  refine WL_step rfl rfl (r_neq rfl rfl) ?_
  refine WL_nil ?_
  refine thn_nrm (_hK_3 _ _ ?_)
  clear _hK_3
  refine W_cond rfl (fun _h10 => ?_) (fun _h10 => ?_)
  · have _h10 := bf_d (bt_n _h10)
    refine W_seq fun _K_4 _hK_4 => ?_
    refine W_region ?_
    refine WL_step rfl rfl (r_assign rfl) ?_
    refine WL_nil ?_
    refine thn_nrm (_hK_4 _ _ ?_)
    clear _hK_4
    refine W_ret (thn_ret ?_)
    clear _hK_2
    exact ret_intro [_] ⟨rfl, trivial⟩ ⟨congrArg Value.bool (decide_eq_false (fun e => _h10 (by rw [e]))).symm, E⟩
  · have _h10 := bt_d (bf_n _h10)
    refine W_skip ?_
    refine thn_nrm (_hK_2 _ _ ?_)
    clear _hK_2
    refine W_seq fun _K_5 _hK_5 => ?_
    refine W_seq fun _K_6 _hK_6 => ?_
    refine W_region ?_
    refine WL_step rfl rfl (r_assign rfl) ?_
    refine WL_nil ?_
    refine thn_nrm (_hK_6 _ _ ?_)
    clear _hK_6
    refine W_block ?_
    refine W_loop (σ := Nat) (fun (k : Nat) => [(0, (.slice _A_a a.length _C_a)), (1, (.slice _A_b b.length _C_b)), (5, (.int .i64 ((k : Nat) : Int))), (6, (.slice _A_a a.length _C_a)), (7, (.int .i64 ((a.length : Nat) : Int))), (8, (.slice _A_b b.length _C_b)), (9, (.int .i64 ((b.length : Nat) : Int))), (10, (.bool (!decide (((a.length : Nat) : Int) = ((b.length : Nat) : Int)))))]) (fun (k : Nat) wx => Ch [] w wx ∧ k ≤ a.length ∧ a.take k = b.take k) (fun (k : Nat) => a.length - k) 0 (Sub.cons rfl (Sub.cons rfl (Sub.cons rfl (Sub.cons rfl (Sub.cons rfl (Sub.cons rfl (Sub.cons rfl (Sub.cons rfl (Sub.nil _))))))))) ⟨E, (by omega), rfl⟩ ?_
    rintro k _wr_7 ⟨E, _hk, _ht⟩
    have _E0h := E
    have _E0hz := _E0h.size
    refine W_seq fun _K_8 _hK_8 => ?_
    refine W_seq fun _K_9 _hK_9 => ?_
    refine W_region ?_
    refine WL_step rfl rfl (r_move rfl) ?_
    refine WL_step rfl rfl (r_move rfl) ?_
    refine WL_step rfl rfl (r_len (by rw [el35]; rfl) rfl) ?_
    refine WL_step rfl rfl (r_lss rfl rfl) ?_
    refine WL_nil ?_
    refine thn_nrm (_hK_9 _ _ ?_)
    clear _hK_9
    refine W_cond rfl (fun _h14 => ?_) (fun _h14 => ?_)
    · have _h14 := bt_d _h14
      refine W_skip ?_
      refine thn_nrm (_hK_8 _ _ ?_)
      clear _hK_8
      refine W_seq fun _K_10 _hK_10 => ?_
      refine W_block ?_
      refine W_seq fun _K_11 _hK_11 => ?_
      refine W_drawC [] 9 mixed rfl fun _w_12 _cw_12 => ?_
      have _cw_12z := _cw_12.size
      have E := E.trans _cw_12
      refine DR_s 0 rfl (by kernel_rfl) rfl rfl (t_v (fun _ => (r_move rfl)) ?_)
      refine DR_s 1 rfl (by kernel_rfl) rfl rfl (t_v (fun _ => (r_move rfl)) ?_)
      have _f_13 := ((_h_a.ch0 _E0h).ch0 _cw_12)
      refine DR_s 2 rfl (by kernel_rfl) rfl rfl (t_index _f_13 ics_len el35 sz3 rfl rfl rfl (by omega) fun _p19 _y19 _hy19 _a19 => ?_)
      refine DR_s 3 rfl (by kernel_rfl) rfl rfl (t_loadAt0 _a19 (fun i hi => by first | exact absurd hi (List.not_mem_nil) | (have _h1 := List.mem_singleton.1 hi; omega)) agg3 rfl rfl ?_)
      refine DR_s 4 rfl (by kernel_rfl) rfl rfl (t_v (fun _ => (r_move rfl)) ?_)
      refine DR_s 5 rfl (by kernel_rfl) rfl rfl (t_v (fun _ => (r_move rfl)) ?_)
      have _f_14 := ((_h_b.ch0 _E0h).ch0 _cw_12)
      refine DR_s 6 rfl (by kernel_rfl) rfl rfl (t_index _f_14 ics_len el35 sz3 rfl rfl rfl (by omega) fun _p23 _y23 _hy23 _a23 => ?_)
      refine DR_s 7 rfl (by kernel_rfl) rfl rfl (t_loadAt0 _a23 (fun i hi => by first | exact absurd hi (List.not_mem_nil) | (have _h1 := List.mem_singleton.1 hi; omega)) agg3 rfl rfl ?_)
      refine DR_s 8 rfl (by kernel_rfl) rfl rfl (t_v (fun _ => (r_neq rfl rfl)) ?_)
      refine DR_done (by kernel_rfl) ?_
      refine thn_nrm (_hK_11 _ _ ?_)
      clear _hK_11
      refine W_cond rfl (fun _h25 => ?_) (fun _h25 => ?_)
      · have _h25 := bf_d (bt_n _h25)
        refine W_seq fun _K_15 _hK_15 => ?_
        refine W_region ?_
        refine WL_step rfl rfl (r_assign rfl) ?_
        refine WL_nil ?_
        refine thn_nrm (_hK_15 _ _ ?_)
        clear _hK_15
        refine W_ret (inB_ret (thn_ret (thn_ret (inB_ret (thn_ret ?_)))))
        clear _hK_5 _hK_10
        exact ret_intro [_] ⟨rfl, trivial⟩ ⟨congrArg Value.bool (decide_eq_false (ne_of_get _hy19 _hy23 _h25)).symm, E⟩
      · have _h25 := bt_d (bf_n _h25)
        refine W_skip ?_
        refine inB_nrm ?_
        refine thn_nrm (_hK_10 _ _ ?_)
        clear _hK_10
        refine W_region ?_
        refine WL_step rfl rfl (r_move rfl) ?_
        refine WL_step rfl rfl (r_add (by omega) rfl rfl) ?_
        refine WL_step rfl rfl (r_assign rfl) ?_
        refine WL_nil ?_
        exact thn_nrm (Exists.intro (k + 1) ⟨⟨E, (by omega), (take_eq_succ _ht _hy19 _hy23 _h25)⟩, Sub.cons rfl (Sub.cons rfl (Sub.cons rfl (Sub.cons rfl (Sub.cons rfl (Sub.cons rfl (Sub.cons rfl (Sub.cons rfl (Sub.nil _)))))))), (by first | omega | (dsimp only; omega))⟩)
    · have _h14 := bf_d _h14
      refine W_exit (thn_exit (thn_exit (inB_hit ?_)))
      refine thn_nrm (_hK_5 _ _ ?_)
      clear _hK_5
      refine W_seq fun _K_16 _hK_16 => ?_
      refine W_region ?_
      refine WL_step rfl rfl (r_assign rfl) ?_
      refine WL_nil ?_
      refine thn_nrm (_hK_16 _ _ ?_)
      clear _hK_16
      refine W_ret ?_
      clear _hK_8
      exact ret_intro [_] ⟨rfl, trivial⟩ ⟨congrArg Value.bool (decide_eq_true (eq_of_take _ht (by omega) (by omega))).symm, E⟩

/-- laws.eqPositions -/
theorem c_laws_eqPositions {w : World} {_B_aL : Nat} {_v_aL : Value} {aL : List Int} (_h_aL : Ls ics 1 w _B_aL _v_aL aL) (afirst : Int) (alast : Int) {_B_aF : Nat} {_v_aF : Value} {aF : List Int} (_h_aF : Ls ics 1 w _B_aF _v_aF aF) (anull : Bool) {_B_bL : Nat} {_v_bL : Value} {bL : List Int} (_h_bL : Ls ics 1 w _B_bL _v_bL bL) (bfirst : Int) (blast : Int) {_B_bF : Nat} {_v_bF : Value} {bF : List Int} (_h_bF : Ls ics 1 w _B_bF _v_bF bF) (bnull : Bool) :
    Ctr Try.prog 47 #[(.agg #[_v_aL, (.int .i64 afirst), (.int .i64 alast), _v_aF, (.bool anull)]), (.agg #[_v_bL, (.int .i64 bfirst), (.int .i64 blast), _v_bF, (.bool bnull)])] w (fun v w' => v = .bool (tt (aL = bL ∧ afirst = bfirst ∧ alast = blast ∧ aF = bF ∧ anull = bnull)) ∧ Ch [] w w') := by
  obtain ⟨_A_aL, _C_aL, _e1_aL⟩ := _h_aL.val
  subst _e1_aL
  have _l_aL := _h_aL.len
  have _h_aL := _h_aL.here (by decide)
  obtain ⟨_A_aF, _C_aF, _e1_aF⟩ := _h_aF.val
  subst _e1_aF
  have _l_aF := _h_aF.len
  have _h_aF := _h_aF.here (by decide)
  obtain ⟨_A_bL, _C_bL, _e1_bL⟩ := _h_bL.val
  subst _e1_bL
  have _l_bL := _h_bL.len
  have _h_bL := _h_bL.here (by decide)
  obtain ⟨_A_bF, _C_bF, _e1_bF⟩ := _h_bF.val
  subst _e1_bF
  have _l_bF := _h_bF.len
  have _h_bF := _h_bF.here (by decide)
  have E := Ch.refl [] w
  refine Ctr_of_W (N := 32) (vs0 := [(.agg #[(.slice _A_aL aL.length _C_aL), (.int .i64 afirst), (.int .i64 alast), (.slice _A_aF aF.length _C_aF), (.bool anull)]), (.agg #[(.slice _A_bL bL.length _C_bL), (.int .i64 bfirst), (.int .i64 blast), (.slice _A_bF bF.length _C_bF), (.bool bnull)])]) Try.func47 rfl rfl rfl ?_
  refine W_seq fun _K_1 _hK_1 => ?_
  refine W_region ?_
  refine WL_s rfl rfl ?_
  refine s_box rfl fun _b2 _w_2 _m2 _cw_2 _e2 => ?_
  have _cw_2z := _cw_2.size
  have E := E.trans _cw_2
  have _z2 := _m2.lt
  replace _m2 : Blk _w_2 _b2 49 [(.slice _A_aL aL.length _C_aL), (.int .i64 afirst), (.int .i64 alast), (.slice _A_aF aF.length _C_aF), (.bool anull)] := _m2
  refine WL_s rfl rfl ?_
  refine s_box rfl fun _b3 _w_3 _m3 _cw_3 _e3 => ?_
  have _cw_3z := _cw_3.size
  have E := E.trans _cw_3
  have _z3 := _m3.lt
  replace _m3 : Blk _w_3 _b3 49 [(.slice _A_bL bL.length _C_bL), (.int .i64 bfirst), (.int .i64 blast), (.slice _A_bF bF.length _C_bF), (.bool bnull)] := _m3
  refine WL_step rfl rfl (r_assign rfl) ?_
  refine WL_nil ?_
  refine thn_nrm (_hK_1 _ _ ?_)
  clear _hK_1
  refine W_seq fun _K_4 _hK_4 => ?_
  refine W_seq fun _K_5 _hK_5 => ?_
  refine W_region ?_
  refine WL_step rfl rfl (r_fieldAddr fa49_0 rfl) ?_
  have _f_6 := (_m2.ch0 _cw_3)
  refine WL_step rfl rfl (r_loadAt _f_6.at_ agg35 rfl rfl) ?_
  refine WL_step rfl rfl (r_fieldAddr fa49_0 rfl) ?_
  refine WL_step rfl rfl (r_loadAt _m3.at_ agg35 rfl rfl) ?_
  refine WL_s rfl rfl ?_
  have _f_7 := ((_h_aL.ch0 _cw_2).ch0 _cw_3)
  have _f_8 := ((_h_bL.ch0 _cw_2).ch0 _cw_3)
  refine Step.call (r_call (xs := [.tmp 6, .tmp 8]) fk27 rfl) (c_laws_eqIntS _f_7 _f_8 ) fun _v9 _w_9 _q9 => ?_
  obtain ⟨rfl, _cw_9⟩ := _q9
  have _cw_9z := _cw_9.size
  have E := E.trans _cw_9
  refine WL_step rfl rfl (r_not rfl) ?_
  refine WL_nil ?_
  refine thn_nrm (_hK_5 _ _ ?_)
  clear _hK_5
  refine W_cond rfl (fun _h10 => ?_) (fun _h10 => ?_)
  · have _h10 := bf_d (bt_n _h10)
    refine W_seq fun _K_10 _hK_10 => ?_
    refine W_region ?_
    refine WL_step rfl rfl (r_assign rfl) ?_
    refine WL_nil ?_
    refine thn_nrm (_hK_10 _ _ ?_)
    clear _hK_10
    refine W_ret (thn_ret ?_)
    clear _hK_4
    exact ret_intro [_] ⟨rfl, trivial⟩ ⟨congrArg Value.bool (tt_false (fun e => _h10 e.1)), E⟩
  · have _h10 := bt_d (bf_n _h10)
    refine W_skip ?_
    refine thn_nrm (_hK_4 _ _ ?_)
    clear _hK_4
    refine W_seq fun _K_11 _hK_11 => ?_
    refine W_seq fun _K_12 _hK_12 => ?_
    refine W_region ?_
    refine WL_step rfl rfl (r_fieldAddr fa49_1 rfl) ?_
    have _f_13 := (_f_6.ch0 _cw_9)
    refine WL_step rfl rfl (r_loadAt _f_13.at_ agg3 rfl rfl) ?_
    refine WL_step rfl rfl (r_fieldAddr fa49_1 rfl) ?_
    have _f_14 := (_m3.ch0 _cw_9)
    refine WL_step rfl rfl (r_loadAt _f_14.at_ agg3 rfl rfl) ?_
    refine WL_step rfl rfl (r_neq rfl rfl) ?_
    refine WL_nil ?_
    refine thn_nrm (_hK_12 _ _ ?_)
    clear _hK_12
    refine W_cond rfl (fun _h15 => ?_) (fun _h15 => ?_)
    · have _h15 := bf_d (bt_n _h15)
      refine W_seq fun _K_15 _hK_15 => ?_
      refine W_region ?_
      refine WL_step rfl rfl (r_assign rfl) ?_
      refine WL_nil ?_
      refine thn_nrm (_hK_15 _ _ ?_)
      clear _hK_15
      refine W_ret (thn_ret ?_)
      clear _hK_11
      exact ret_intro [_] ⟨rfl, trivial⟩ ⟨congrArg Value.bool (tt_false (fun e => _h15 e.2.1)), E⟩
    · have _h15 := bt_d (bf_n _h15)
      refine W_skip ?_
      refine thn_nrm (_hK_11 _ _ ?_)
      clear _hK_11
      refine W_seq fun _K_16 _hK_16 => ?_
      refine W_seq fun _K_17 _hK_17 => ?_
      refine W_region ?_
      refine WL_step rfl rfl (r_fieldAddr fa49_2 rfl) ?_
      refine WL_step rfl rfl (r_loadAt _f_13.at_ agg3 rfl rfl) ?_
      refine WL_step rfl rfl (r_fieldAddr fa49_2 rfl) ?_
      refine WL_step rfl rfl (r_loadAt _f_14.at_ agg3 rfl rfl) ?_
      refine WL_step rfl rfl (r_neq rfl rfl) ?_
      refine WL_nil ?_
      refine thn_nrm (_hK_17 _ _ ?_)
      clear _hK_17
      refine W_cond rfl (fun _h20 => ?_) (fun _h20 => ?_)
      · have _h20 := bf_d (bt_n _h20)
        refine W_seq fun _K_18 _hK_18 => ?_
        refine W_region ?_
        refine WL_step rfl rfl (r_assign rfl) ?_
        refine WL_nil ?_
        refine thn_nrm (_hK_18 _ _ ?_)
        clear _hK_18
        refine W_ret (thn_ret ?_)
        clear _hK_16
        exact ret_intro [_] ⟨rfl, trivial⟩ ⟨congrArg Value.bool (tt_false (fun e => _h20 e.2.2.1)), E⟩
      · have _h20 := bt_d (bf_n _h20)
        refine W_skip ?_
        refine thn_nrm (_hK_16 _ _ ?_)
        clear _hK_16
        refine W_seq fun _K_19 _hK_19 => ?_
        refine W_seq fun _K_20 _hK_20 => ?_
        refine W_region ?_
        refine WL_step rfl rfl (r_fieldAddr fa49_3 rfl) ?_
        refine WL_step rfl rfl (r_loadAt _f_13.at_ agg35 rfl rfl) ?_
        refine WL_step rfl rfl (r_fieldAddr fa49_3 rfl) ?_
        refine WL_step rfl rfl (r_loadAt _f_14.at_ agg35 rfl rfl) ?_
        refine WL_s rfl rfl ?_
        have _f_21 := (((_h_aF.ch0 _cw_2).ch0 _cw_3).ch0 _cw_9)
        have _f_22 := (((_h_bF.ch0 _cw_2).ch0 _cw_3).ch0 _cw_9)
        refine Step.call (r_call (xs := [.tmp 22, .tmp 24]) fk27 rfl) (c_laws_eqIntS _f_21 _f_22 ) fun _v25 _w_23 _q25 => ?_
        obtain ⟨rfl, _cw_23⟩ := _q25
        have _cw_23z := _cw_23.size
        have E := E.trans _cw_23
        refine WL_step rfl rfl (r_not rfl) ?_
        refine WL_nil ?_
        refine thn_nrm (_hK_20 _ _ ?_)
        clear _hK_20
        refine W_cond rfl (fun _h26 => ?_) (fun _h26 => ?_)
        · have _h26 := bf_d (bt_n _h26)
          refine W_seq fun _K_24 _hK_24 => ?_
          refine W_region ?_
          refine WL_step rfl rfl (r_assign rfl) ?_
          refine WL_nil ?_
          refine thn_nrm (_hK_24 _ _ ?_)
          clear _hK_24
          refine W_ret (thn_ret ?_)
          clear _hK_19
          exact ret_intro [_] ⟨rfl, trivial⟩ ⟨congrArg Value.bool (tt_false (fun e => _h26 e.2.2.2.1)), E⟩
        · have _h26 := bt_d (bf_n _h26)
          refine W_skip ?_
          refine thn_nrm (_hK_19 _ _ ?_)
          clear _hK_19
          refine W_seq fun _K_25 _hK_25 => ?_
          refine W_seq fun _K_26 _hK_26 => ?_
          refine W_region ?_
          refine WL_step rfl rfl (r_fieldAddr fa49_4 rfl) ?_
          have _f_27 := (_f_13.ch0 _cw_23)
          refine WL_step rfl rfl (r_loadAt _f_27.at_ agg4 rfl rfl) ?_
          refine WL_step rfl rfl (r_fieldAddr fa49_4 rfl) ?_
          have _f_28 := (_f_14.ch0 _cw_23)
          refine WL_step rfl rfl (r_loadAt _f_28.at_ agg4 rfl rfl) ?_
          refine WL_step rfl rfl (r_neqB un4 rfl rfl) ?_
          refine WL_nil ?_
          refine thn_nrm (_hK_26 _ _ ?_)
          clear _hK_26
          refine W_cond rfl (fun _h31 => ?_) (fun _h31 => ?_)
          · have _h31 := bf_e (bt_n _h31)
            refine W_seq fun _K_29 _hK_29 => ?_
            refine W_region ?_
            refine WL_step rfl rfl (r_assign rfl) ?_
            refine WL_nil ?_
            refine thn_nrm (_hK_29 _ _ ?_)
            clear _hK_29
            refine W_ret (thn_ret ?_)
            clear _hK_25
            exact ret_intro [_] ⟨rfl, trivial⟩ ⟨congrArg Value.bool (tt_false (fun e => _h31 e.2.2.2.2)), E⟩
          · have _h31 := bt_e (bf_n _h31)
            refine W_skip ?_
            refine thn_nrm (_hK_25 _ _ ?_)
            clear _hK_25
            refine W_seq fun _K_30 _hK_30 => ?_
            refine W_region ?_
            refine WL_step rfl rfl (r_assign rfl) ?_
            refine WL_nil ?_
            refine thn_nrm (_hK_30 _ _ ?_)
            clear _hK_30
            refine W_ret ?_
            exact ret_intro [_] ⟨rfl, trivial⟩ ⟨congrArg Value.bool (tt_true ⟨_h10, _h15, _h20, _h26, _h31⟩), E⟩

/-- laws.szIntS -/
theorem c_laws_szIntS {w : World} {_B_a : Nat} {_v_a : Value} {a : List Int} (_h_a : Ls ics 1 w _B_a _v_a a) (left : Int) (hl : left ≤ 1048576) (_h0 : 0 ≤ left) :
    Ctr Try.prog 87 #[_v_a, (.int .i64 left)] w (fun v w' => v = .int .i64 (if left < a.length then -1 else left - a.length) ∧ Ch [] w w') := by
  obtain ⟨_A_a, _C_a, _e1_a⟩ := _h_a.val
  subst _e1_a
  have _l_a := _h_a.len
  have _h_a := _h_a.here (by decide)
  have E := Ch.refl [] w
  refine Ctr_of_W (N := 12) (vs0 := [(.slice _A_a a.length _C_a), (.int .i64 left)]) Try.func87 rfl rfl rfl ?_
  refine W_seq fun _K_1 _hK_1 => ?_
  refine W_region ?_
  refine WL_step rfl rfl (r_assign rfl) ?_
  refine WL_nil ?_
  refine thn_nrm (_hK_1 _ _ ?_)
  clear _hK_1
  refine W_seq fun _K_2 _hK_2 => ?_
  refine W_region ?_
  refine WL_step rfl rfl (r_move rfl) ?_
  refine WL_step rfl rfl (r_move rfl) ?_
  refine WL_step rfl rfl (r_len (by rw [el35]; rfl) rfl) ?_
  refine WL_step rfl rfl (r_sub (by omega) rfl rfl) ?_
  refine WL_step rfl rfl (r_assign rfl) ?_
  refine WL_nil ?_
  refine thn_nrm (_hK_2 _ _ ?_)
  clear _hK_2
  refine W_seq fun _K_3 _hK_3 => ?_
  refine W_seq fun _K_4 _hK_4 => ?_
  refine W_region ?_
  refine WL_step rfl rfl (r_move rfl) ?_
  refine WL_step rfl rfl (r_lss rfl rfl) ?_
  refine WL_nil ?_
  refine thn_nrm (_hK_4 _ _ ?_)
  clear _hK_4
  refine W_cond rfl (fun _h10 => ?_) (fun _h10 => ?_)
  · have _h10 := bt_d _h10
    refine W_seq fun _K_5 _hK_5 => ?_
    refine W_region ?_
    refine WL_step rfl rfl (r_assign rfl) ?_
    refine WL_nil ?_
    refine thn_nrm (_hK_5 _ _ ?_)
    clear _hK_5
    refine W_ret (thn_ret ?_)
    clear _hK_3
    exact ret_intro [_] ⟨rfl, trivial⟩ ⟨congrArg (Value.int .i64) (if_pos (by omega)).symm, E⟩
  · have _h10 := bf_d _h10
    refine W_skip ?_
    refine thn_nrm (_hK_3 _ _ ?_)
    clear _hK_3
    refine W_seq fun _K_6 _hK_6 => ?_
    refine W_region ?_
    refine WL_step rfl rfl (r_move rfl) ?_
    refine WL_step rfl rfl (r_assign rfl) ?_
    refine WL_nil ?_
    refine thn_nrm (_hK_6 _ _ ?_)
    clear _hK_6
    refine W_ret ?_
    exact ret_intro [_] ⟨rfl, trivial⟩ ⟨congrArg (Value.int .i64) (if_neg (by omega)).symm, E⟩

/-- laws.szPositions -/
theorem c_laws_szPositions {w : World} {_B_pL : Nat} {_v_pL : Value} {pL : List Int} (_h_pL : Ls ics 1 w _B_pL _v_pL pL) (pfirst : Int) (plast : Int) {_B_pF : Nat} {_v_pF : Value} {pF : List Int} (_h_pF : Ls ics 1 w _B_pF _v_pF pF) (pnull : Bool) (left : Int) (hl : left ≤ 1048576) (_h0 : 0 ≤ left) :
    Ctr Try.prog 43 #[(.agg #[_v_pL, (.int .i64 pfirst), (.int .i64 plast), _v_pF, (.bool pnull)]), (.int .i64 left)] w (fun v w' => v = .int .i64 (if left < pL.length + pF.length then -1 else left - pL.length - pF.length) ∧ Ch [] w w') := by
  obtain ⟨_A_pL, _C_pL, _e1_pL⟩ := _h_pL.val
  subst _e1_pL
  have _l_pL := _h_pL.len
  have _h_pL := _h_pL.here (by decide)
  obtain ⟨_A_pF, _C_pF, _e1_pF⟩ := _h_pF.val
  subst _e1_pF
  have _l_pF := _h_pF.len
  have _h_pF := _h_pF.here (by decide)
  have E := Ch.refl [] w
  refine Ctr_of_W (N := 18) (vs0 := [(.agg #[(.slice _A_pL pL.length _C_pL), (.int .i64 pfirst), (.int .i64 plast), (.slice _A_pF pF.length _C_pF), (.bool pnull)]), (.int .i64 left)]) Try.func43 rfl rfl rfl ?_
  refine W_seq fun _K_1 _hK_1 => ?_
  refine W_region ?_
  refine WL_s rfl rfl ?_
  refine s_box rfl fun _b2 _w_2 _m2 _cw_2 _e2 => ?_
  have _cw_2z := _cw_2.size
  have E := E.trans _cw_2
  have _z2 := _m2.lt
  replace _m2 : Blk _w_2 _b2 46 [(.slice _A_pL pL.length _C_pL), (.int .i64 pfirst), (.int .i64 plast), (.slice _A_pF pF.length _C_pF), (.bool pnull)] := _m2
  refine WL_step rfl rfl (r_assign rfl) ?_
  refine WL_nil ?_
  refine thn_nrm (_hK_1 _ _ ?_)
  clear _hK_1
  refine W_seq fun _K_3 _hK_3 => ?_
  refine W_region ?_
  refine WL_step rfl rfl (r_fieldAddr fa46_0 rfl) ?_
  refine WL_step rfl rfl (r_loadAt _m2.at_ agg35 rfl rfl) ?_
  refine WL_step rfl rfl (r_move rfl) ?_
  refine WL_s rfl rfl ?_
  have _f_4 := (_h_pL.ch0 _cw_2)
  refine Step.call (r_call (xs := [.tmp 6, .tmp 7]) fk87 rfl) (c_laws_szIntS _f_4 _ (by omega) (by omega)) fun _v8 _w_5 _q8 => ?_
  obtain ⟨rfl, _cw_5⟩ := _q8
  have _cw_5z := _cw_5.size
  have E := E.trans _cw_5
  refine WL_step rfl rfl (r_assign rfl) ?_
  refine WL_nil ?_
  refine thn_nrm (_hK_3 _ _ ?_)
  clear _hK_3
  refine W_seq fun _K_6 _hK_6 => ?_
  refine W_seq fun _K_7 _hK_7 => ?_
  refine W_region ?_
  refine WL_step rfl rfl (r_move rfl) ?_
  refine WL_step rfl rfl (r_lss rfl rfl) ?_
  refine WL_nil ?_
  refine thn_nrm (_hK_7 _ _ ?_)
  clear _hK_7
  refine W_cond rfl (fun _h10 => ?_) (fun _h10 => ?_)
  · have _h10 := bt_d _h10
    refine W_seq fun _K_8 _hK_8 => ?_
    refine W_region ?_
    refine WL_step rfl rfl (r_assign rfl) ?_
    refine WL_nil ?_
    refine thn_nrm (_hK_8 _ _ ?_)
    clear _hK_8
    refine W_ret (thn_ret ?_)
    clear _hK_6
    exact ret_intro [_] ⟨rfl, trivial⟩ ⟨congrArg (Value.int .i64) (by repeat (first | omega | split)), E⟩
  · have _h10 := bf_d _h10
    refine W_skip ?_
    refine thn_nrm (_hK_6 _ _ ?_)
    clear _hK_6
    refine W_seq fun _K_9 _hK_9 => ?_
    refine W_region ?_
    refine WL_step rfl rfl (r_fieldAddr fa46_3 rfl) ?_
    have _f_10 := (_m2.ch0 _cw_5)
    refine WL_step rfl rfl (r_loadAt _f_10.at_ agg35 rfl rfl) ?_
    refine WL_step rfl rfl (r_move rfl) ?_
    refine WL_s rfl rfl ?_
    have _f_11 := ((_h_pF.ch0 _cw_2).ch0 _cw_5)
    refine Step.call (r_call (xs := [.tmp 12, .tmp 13]) fk87 rfl) (c_laws_szIntS _f_11 _ (by omega) (by omega)) fun _v14 _w_12 _q14 => ?_
    obtain ⟨rfl, _cw_12⟩ := _q14
    have _cw_12z := _cw_12.size
    have E := E.trans _cw_12
    refine WL_step rfl rfl (r_assign rfl) ?_
    refine WL_nil ?_
    refine thn_nrm (_hK_9 _ _ ?_)
    clear _hK_9
    refine W_seq fun _K_13 _hK_13 => ?_
    refine W_seq fun _K_14 _hK_14 => ?_
    refine W_region ?_
    refine WL_step rfl rfl (r_move rfl) ?_
    refine WL_step rfl rfl (r_lss rfl rfl) ?_
    refine WL_nil ?_
    refine thn_nrm (_hK_14 _ _ ?_)
    clear _hK_14
    refine W_cond rfl (fun _h16 => ?_) (fun _h16 => ?_)
    · have _h16 := bt_d _h16
      refine W_seq fun _K_15 _hK_15 => ?_
      refine W_region ?_
      refine WL_step rfl rfl (r_assign rfl) ?_
      refine WL_nil ?_
      refine thn_nrm (_hK_15 _ _ ?_)
      clear _hK_15
      refine W_ret (thn_ret ?_)
      clear _hK_13
      exact ret_intro [_] ⟨rfl, trivial⟩ ⟨congrArg (Value.int .i64) (by repeat (first | omega | split)), E⟩
    · have _h16 := bf_d _h16
      refine W_skip ?_
      refine thn_nrm (_hK_13 _ _ ?_)
      clear _hK_13
      refine W_seq fun _K_16 _hK_16 => ?_
      refine W_region ?_
      refine WL_step rfl rfl (r_move rfl) ?_
      refine WL_step rfl rfl (r_assign rfl) ?_
      refine WL_nil ?_
      refine thn_nrm (_hK_16 _ _ ?_)
      clear _hK_16
      refine W_ret ?_
      exact ret_intro [_] ⟨rfl, trivial⟩ ⟨congrArg (Value.int .i64) (by repeat (first | omega | split)), E⟩

/-- laws.toIntS -/
theorem c_laws_toIntS {w : World} {_B_a : Nat} {_v_a : Value} {a : List Int} (_h_a : Ls ics 1 w _B_a _v_a a) (hb : a.length ≤ 1048576) :
    Ctr Try.prog 25 #[_v_a] w (fun v w' => Ol ics 3 1 w' v (a) ∧ Lo w.heap.size v ∧ Ch [] w w') := by
  obtain ⟨_A_a, _C_a, _e1_a⟩ := _h_a.val
  subst _e1_a
  have _l_a := _h_a.len
  have _h_a := _h_a.here (by decide)
  have E := Ch.refl [] w
  refine Ctr_of_W (N := 22) (vs0 := [(.slice _A_a a.length _C_a)]) Try.func25 rfl rfl rfl ?_
  refine W_seq fun _K_1 _hK_1 => ?_
  refine W_region ?_
  refine WL_step rfl rfl (r_assign rfl) ?_
  refine WL_nil ?_
  refine thn_nrm (_hK_1 _ _ ?_)
  clear _hK_1
  refine W_seq fun _K_2 _hK_2 => ?_
  refine W_region ?_
  refine WL_step rfl rfl (r_move rfl) ?_
  refine WL_step rfl rfl (r_len (by rw [el35]; rfl) rfl) ?_
  refine WL_s rfl rfl ?_
  refine s_make (cs := ics) (0 : Int) el35 sz3 by3 zr3 ics_len (by decide) rfl rfl (by omega) (by omega) fun _v7 _w_3 _q7 _lo7 _cw_3 => ?_
  have _cw_3z := _cw_3.size
  have E := E.trans _cw_3
  obtain ⟨_Av7, _Cv7, _ev7⟩ := _q7.val
  subst _ev7
  have _lv7 := _q7.len
  have _hiv7 := _q7.lt
  refine WL_step rfl rfl (r_assign rfl) ?_
  refine WL_nil ?_
  refine thn_nrm (_hK_2 _ _ ?_)
  clear _hK_2
  refine W_seq fun _K_4 _hK_4 => ?_
  refine W_seq fun _K_5 _hK_5 => ?_
  refine W_region ?_
  refine WL_step rfl rfl (r_assign rfl) ?_
  refine WL_nil ?_
  refine thn_nrm (_hK_5 _ _ ?_)
  clear _hK_5
  refine W_block ?_
  have _oi_6 : Ol ics 3 1 _w_3 (.slice _Av7 ((List.replicate a.length (0 : Int))).length _Cv7) (a.take 0 ++ List.replicate (a.length - 0) (0 : Int)) := by
    have hx := _q7
    simpa using hx
  refine W_loop (σ := Nat) (fun (k : Nat) => [(0, (.slice _A_a a.length _C_a)), (2, (.slice none 0 0)), (3, (.slice _Av7 ((List.replicate a.length (0 : Int))).length _Cv7)), (4, (.int .i64 ((k : Nat) : Int))), (5, (.slice _A_a a.length _C_a)), (6, (.int .i64 ((a.length : Nat) : Int))), (7, (.slice _Av7 ((List.replicate a.length (0 : Int))).length _Cv7))]) (fun (k : Nat) wx => Ch [] w wx ∧ k ≤ a.length ∧ Ol ics 3 1 wx (.slice _Av7 ((List.replicate a.length (0 : Int))).length _Cv7) (a.take k ++ List.replicate (a.length - k) (0 : Int))) (fun (k : Nat) => a.length - k) 0 (Sub.cons rfl (Sub.cons rfl (Sub.cons rfl (Sub.cons rfl (Sub.cons rfl (Sub.cons rfl (Sub.cons rfl (Sub.nil _)))))))) ⟨E, (by omega), _oi_6⟩ ?_
  rintro k _wr_7 ⟨E, _hk, _o0_3⟩
  have _E0h := E
  have _E0hz := _E0h.size
  refine W_seq fun _K_8 _hK_8 => ?_
  refine W_seq fun _K_9 _hK_9 => ?_
  refine W_region ?_
  refine WL_step rfl rfl (r_move rfl) ?_
  refine WL_step rfl rfl (r_move rfl) ?_
  refine WL_step rfl rfl (r_len (by rw [el35]; rfl) rfl) ?_
  refine WL_step rfl rfl (r_lss rfl rfl) ?_
  refine WL_nil ?_
  refine thn_nrm (_hK_9 _ _ ?_)
  clear _hK_9
  refine W_cond rfl (fun _h11 => ?_) (fun _h11 => ?_)
  · have _h11 := bt_d _h11
    refine W_skip ?_
    refine thn_nrm (_hK_8 _ _ ?_)
    clear _hK_8
    refine W_seq fun _K_10 _hK_10 => ?_
    refine W_block ?_
    refine W_region ?_
    refine WL_step rfl rfl (r_move rfl) ?_
    refine WL_step rfl rfl (r_move rfl) ?_
    refine WL_step rfl rfl (r_move rfl) ?_
    refine WL_step rfl rfl (r_move rfl) ?_
    refine WL_s rfl rfl ?_
    have _f_11 := (_h_a.ch0 _E0h)
    refine (s_index _f_11 ics_len el35 sz3 rfl rfl rfl (by omega) fun _p18 _y18 _hy18 _a18 => ?_)
    refine WL_step rfl rfl (r_loadAt0 _a18 agg3 rfl rfl) ?_
    refine WL_s rfl rfl ?_
    refine s_indexO (j := k) _o0_3 el35 sz3 rfl rfl rfl (by simp; omega) fun _g20 _o20 _cp20 _q20 => ?_
    refine WL_s rfl rfl ?_
    refine s_storeO (j := k) _y18 _o0_3 _q20 ics_len sz3 rfl rfl rfl rfl (by simp; omega) fun _w_12 _o_13 _cw_12 => ?_
    have _cw_12z := _cw_12.size
    have E := E.step _cw_12 (fun i hi => .inl (by have _h1 := _lo7 _ hi; omega))
    refine WL_nil ?_
    refine inB_nrm ?_
    refine thn_nrm (_hK_10 _ _ ?_)
    clear _hK_10
    refine W_region ?_
    refine WL_step rfl rfl (r_move rfl) ?_
    refine WL_step rfl rfl (r_add (by omega) rfl rfl) ?_
    refine WL_step rfl rfl (r_assign rfl) ?_
    refine WL_nil ?_
    have _on_14 : Ol ics 3 1 _w_12 (.slice _Av7 ((List.replicate a.length (0 : Int))).length _Cv7) (a.take (k + 1) ++ List.replicate (a.length - (k + 1)) (0 : Int)) := by
      have hx := _o_13
      rwa [fill_step a (0 : Int) _hy18] at hx
    exact thn_nrm (Exists.intro (k + 1) ⟨⟨E, (by omega), _on_14⟩, Sub.cons rfl (Sub.cons rfl (Sub.cons rfl (Sub.cons rfl (Sub.cons rfl (Sub.cons rfl (Sub.cons rfl (Sub.nil _))))))), (by first | omega | (dsimp only; omega))⟩)
  · have _h11 := bf_d _h11
    refine W_exit (thn_exit (thn_exit (inB_hit ?_)))
    refine thn_nrm (_hK_4 _ _ ?_)
    clear _hK_4
    refine W_seq fun _K_15 _hK_15 => ?_
    refine W_region ?_
    refine WL_step rfl rfl (r_move rfl) ?_
    refine WL_step rfl rfl (r_assign rfl) ?_
    refine WL_nil ?_
    refine thn_nrm (_hK_15 _ _ ?_)
    clear _hK_15
    refine W_ret ?_
    clear _hK_8
    have _o_16 : Ol ics 3 1 _wr_7 (.slice _Av7 ((List.replicate a.length (0 : Int))).length _Cv7) (a) := by
      have hx := _o0_3
      simpa [List.take_of_length_le (show a.length ≤ k by omega), show a.length - k = 0 by omega] using hx
    exact ret_intro [_] ⟨rfl, trivial⟩ ⟨_o_16, Lo.down _lo7 (by omega), E⟩

/-- laws.toPositions -/
theorem c_laws_toPositions {w : World} {_B_pL : Nat} {_v_pL : Value} {pL : List Int} (_h_pL : Ls ics 1 w _B_pL _v_pL pL) (pfirst : Int) (plast : Int) {_B_pF : Nat} {_v_pF : Value} {pF : List Int} (_h_pF : Ls ics 1 w _B_pF _v_pF pF) (pnull : Bool) (hb : pL.length + pF.length ≤ 1048576) :
    Ctr Try.prog 45 #[(.agg #[_v_pL, (.int .i64 pfirst), (.int .i64 plast), _v_pF, (.bool pnull)])] w (fun v w' => ∃ _u1 _u2, v = .agg #[_u1, .int .i64 (pfirst), .int .i64 (plast), _u2, .bool (pnull)] ∧ Ol ics 3 1 w' _u1 (pL) ∧ Lo w.heap.size _u1 ∧ Ol ics 3 1 w' _u2 (pF) ∧ Lo w.heap.size _u2 ∧ Ch [] w w') := by
  obtain ⟨_A_pL, _C_pL, _e1_pL⟩ := _h_pL.val
  subst _e1_pL
  have _l_pL := _h_pL.len
  have _h_pL := _h_pL.here (by decide)
  obtain ⟨_A_pF, _C_pF, _e1_pF⟩ := _h_pF.val
  subst _e1_pF
  have _l_pF := _h_pF.len
  have _h_pF := _h_pF.here (by decide)
  have E := Ch.refl [] w
  refine Ctr_of_W (N := 22) (vs0 := [(.agg #[(.slice _A_pL pL.length _C_pL), (.int .i64 pfirst), (.int .i64 plast), (.slice _A_pF pF.length _C_pF), (.bool pnull)])]) Try.func45 rfl rfl rfl ?_
  refine W_seq fun _K_1 _hK_1 => ?_
  refine W_region ?_
  refine WL_s rfl rfl ?_
  refine s_box rfl fun _b1 _w_2 _m1 _cw_2 _e1 => ?_
  have _cw_2z := _cw_2.size
  have E := E.trans _cw_2
  have _z1 := _m1.lt
  replace _m1 : Blk _w_2 _b1 46 [(.slice _A_pL pL.length _C_pL), (.int .i64 pfirst), (.int .i64 plast), (.slice _A_pF pF.length _C_pF), (.bool pnull)] := _m1
  refine WL_s rfl rfl ?_
  refine s_alloc zr49 fun _b2 _w_3 _m2 _cw_3 _e2 => ?_
  have _cw_3z := _cw_3.size
  have E := E.trans _cw_3
  have _z2 := _m2.lt
  replace _m2 : Blk _w_3 _b2 49 [(.slice none 0 0), (.int .i64 0), (.int .i64 0), (.slice none 0 0), (.bool false)] := _m2
  refine WL_nil ?_
  refine thn_nrm (_hK_1 _ _ ?_)
  clear _hK_1
  refine W_seq fun _K_4 _hK_4 => ?_
  refine W_region ?_
  refine WL_s rfl rfl ?_
  refine s_alloc zr49 fun _b3 _w_5 _m3 _cw_5 _e3 => ?_
  have _cw_5z := _cw_5.size
  have E := E.trans _cw_5
  have _z3 := _m3.lt
  replace _m3 : Blk _w_5 _b3 49 [(.slice none 0 0), (.int .i64 0), (.int .i64 0), (.slice none 0 0), (.bool false)] := _m3
  refine WL_nil ?_
  refine thn_nrm (_hK_4 _ _ ?_)
  clear _hK_4
  refine W_seq fun _K_6 _hK_6 => ?_
  refine W_region ?_
  refine WL_step rfl rfl (r_fieldAddr fa46_0 rfl) ?_
  have _f_7 := ((_m1.ch0 _cw_3).ch0 _cw_5)
  refine WL_step rfl rfl (r_loadAt _f_7.at_ agg35 rfl rfl) ?_
  refine WL_s rfl rfl ?_
  have _f_8 := (((_h_pL.ch0 _cw_2).ch0 _cw_3).ch0 _cw_5)
  refine Step.call (r_call (xs := [.tmp 5]) fk25 rfl) (c_laws_toIntS _f_8 (by omega)) fun _v6 _w_9 _q6 => ?_
  obtain ⟨_q6, _lo6, _cw_9⟩ := _q6
  have _cw_9z := _cw_9.size
  have E := E.trans _cw_9
  obtain ⟨_Av6, _Cv6, _ev6⟩ := _q6.val
  subst _ev6
  have _lv6 := _q6.len
  have _hiv6 := _q6.lt
  refine WL_step rfl rfl (r_fieldAddr fa49_0 rfl) ?_
  refine WL_s rfl rfl ?_
  have _f_10 := (_m3.ch0 _cw_9)
  refine s_store1 (off := 0) _f_10 sz35 rfl rfl rfl rfl fun _w_11 _m_12 _cw_11 => ?_
  have _cw_11z := _cw_11.size
  have E := E.step _cw_11 (fun i hi => .inl (by have _h1 := List.mem_singleton.1 hi; omega))
  replace _m_12 : Blk _w_11 _b3 49 [(.slice _Av6 (pL).length _Cv6), (.int .i64 0), (.int .i64 0), (.slice none 0 0), (.bool false)] := _m_12
  refine WL_nil ?_
  refine thn_nrm (_hK_6 _ _ ?_)
  clear _hK_6
  refine W_seq fun _K_13 _hK_13 => ?_
  refine W_region ?_
  refine WL_step rfl rfl (r_fieldAddr fa46_1 rfl) ?_
  have _f_14 := ((_f_7.ch0 _cw_9).ch _cw_11 (fun hm => by have _h1 := List.mem_singleton.1 hm; omega))
  refine WL_step rfl rfl (r_loadAt _f_14.at_ agg3 rfl rfl) ?_
  refine WL_step rfl rfl (r_fieldAddr fa49_1 rfl) ?_
  refine WL_s rfl rfl ?_
  refine s_store1 (off := 1) _m_12 sz3 rfl rfl rfl rfl fun _w_15 _m_16 _cw_15 => ?_
  have _cw_15z := _cw_15.size
  have E := E.step _cw_15 (fun i hi => .inl (by have _h1 := List.mem_singleton.1 hi; omega))
  replace _m_16 : Blk _w_15 _b3 49 [(.slice _Av6 (pL).length _Cv6), (.int .i64 pfirst), (.int .i64 0), (.slice none 0 0), (.bool false)] := _m_16
  refine WL_nil ?_
  refine thn_nrm (_hK_13 _ _ ?_)
  clear _hK_13
  refine W_seq fun _K_17 _hK_17 => ?_
  refine W_region ?_
  refine WL_step rfl rfl (r_fieldAddr fa46_2 rfl) ?_
  have _f_18 := (_f_14.ch _cw_15 (fun hm => by have _h1 := List.mem_singleton.1 hm; omega))
  refine WL_step rfl rfl (r_loadAt _f_18.at_ agg3 rfl rfl) ?_
  refine WL_step rfl rfl (r_fieldAddr fa49_2 rfl) ?_
  refine WL_s rfl rfl ?_
  refine s_store1 (off := 2) _m_16 sz3 rfl rfl rfl rfl fun _w_19 _m_20 _cw_19 => ?_
  have _cw_19z := _cw_19.size
  have E := E.step _cw_19 (fun i hi => .inl (by have _h1 := List.mem_singleton.1 hi; omega))
  replace _m_20 : Blk _w_19 _b3 49 [(.slice _Av6 (pL).length _Cv6), (.int .i64 pfirst), (.int .i64 plast), (.slice none 0 0), (.bool false)] := _m_20
  refine WL_nil ?_
  refine thn_nrm (_hK_17 _ _ ?_)
  clear _hK_17
  refine W_seq fun _K_21 _hK_21 => ?_
  refine W_region ?_
  refine WL_step rfl rfl (r_fieldAddr fa46_3 rfl) ?_
  have _f_22 := (_f_18.ch _cw_19 (fun hm => by have _h1 := List.mem_singleton.1 hm; omega))
  refine WL_step rfl rfl (r_loadAt _f_22.at_ agg35 rfl rfl) ?_
  refine WL_s rfl rfl ?_
  have _f_23 := (((((((_h_pF.ch0 _cw_2).ch0 _cw_3).ch0 _cw_5).ch0 _cw_9).ch _cw_11 (fun i hi => by have _h1 := List.mem_singleton.1 hi; omega)).ch _cw_15 (fun i hi => by have _h1 := List.mem_singleton.1 hi; omega)).ch _cw_19 (fun i hi => by have _h1 := List.mem_singleton.1 hi; omega))
  refine Step.call (r_call (xs := [.tmp 15]) fk25 rfl) (c_laws_toIntS _f_23 (by omega)) fun _v16 _w_24 _q16 => ?_
  obtain ⟨_q16, _lo16, _cw_24⟩ := _q16
  have _cw_24z := _cw_24.size
  have E := E.trans _cw_24
  obtain ⟨_Av16, _Cv16, _ev16⟩ := _q16.val
  subst _ev16
  have _lv16 := _q16.len
  have _hiv16 := _q16.lt
  refine WL_step rfl rfl (r_fieldAddr fa49_3 rfl) ?_
  refine WL_s rfl rfl ?_
  have _f_25 := (_m_20.ch0 _cw_24)
  refine s_store1 (off := 3) _f_25 sz35 rfl rfl rfl rfl fun _w_26 _m_27 _cw_26 => ?_
  have _cw_26z := _cw_26.size
  have E := E.step _cw_26 (fun i hi => .inl (by have _h1 := List.mem_singleton.1 hi; omega))
  replace _m_27 : Blk _w_26 _b3 49 [(.slice _Av6 (pL).length _Cv6), (.int .i64 pfirst), (.int .i64 plast), (.slice _Av16 (pF).length _Cv16), (.bool false)] := _m_27
  refine WL_nil ?_
  refine thn_nrm (_hK_21 _ _ ?_)
  clear _hK_21
  refine W_seq fun _K_28 _hK_28 => ?_
  refine W_region ?_
  refine WL_step rfl rfl (r_fieldAddr fa46_4 rfl) ?_
  have _f_29 := ((_f_22.ch0 _cw_24).ch _cw_26 (fun hm => by have _h1 := List.mem_singleton.1 hm; omega))
  refine WL_step rfl rfl (r_loadAt _f_29.at_ agg4 rfl rfl) ?_
  refine WL_step rfl rfl (r_fieldAddr fa49_4 rfl) ?_
  refine WL_s rfl rfl ?_
  refine s_store1 (off := 4) _m_27 sz4 rfl rfl rfl rfl fun _w_30 _m_31 _cw_30 => ?_
  have _cw_30z := _cw_30.size
  have E := E.step _cw_30 (fun i hi => .inl (by have _h1 := List.mem_singleton.1 hi; omega))
  replace _m_31 : Blk _w_30 _b3 49 [(.slice _Av6 (pL).length _Cv6), (.int .i64 pfirst), (.int .i64 plast), (.slice _Av16 (pF).length _Cv16), (.bool pnull)] := _m_31
  refine WL_nil ?_
  refine thn_nrm (_hK_28 _ _ ?_)
  clear _hK_28
  refine W_seq fun _K_32 _hK_32 => ?_
  refine W_region ?_
  refine WL_step rfl rfl (r_loadAtA0 _m_31.at_ agg49 sz49 rfl) ?_
  refine WL_s rfl rfl ?_
  have _f_33 := ((((((((_m2.ch0 _cw_5).ch0 _cw_9).ch _cw_11 (fun hm => by have _h1 := List.mem_singleton.1 hm; omega)).ch _cw_15 (fun hm => by have _h1 := List.mem_singleton.1 hm; omega)).ch _cw_19 (fun hm => by have _h1 := List.mem_singleton.1 hm; omega)).ch0 _cw_24).ch _cw_26 (fun hm => by have _h1 := List.mem_singleton.1 hm; omega)).ch _cw_30 (fun hm => by have _h1 := List.mem_singleton.1 hm; omega))
  refine s_storeA (off := 0) 5 _f_33 sz49 rfl (us := [(.slice _Av6 (pL).length _Cv6), (.int .i64 pfirst), (.int .i64 plast), (.slice _Av16 (pF).length _Cv16), (.bool pnull)]) rfl rfl rfl rfl fun _w_34 _m_35 _cw_34 => ?_
  have _cw_34z := _cw_34.size
  have E := E.step _cw_34 (fun i hi => .inl (by have _h1 := List.mem_singleton.1 hi; omega))
  replace _m_35 : Blk _w_34 _b2 49 [(.slice _Av6 (pL).length _Cv6), (.int .i64 pfirst), (.int .i64 plast), (.slice _Av16 (pF).length _Cv16), (.bool pnull)] := _m_35
  refine WL_nil ?_
  refine thn_nrm (_hK_32 _ _ ?_)
  clear _hK_32
  refine W_ret ?_
  have _f_37 := (((((((_q6.ch _cw_11 (fun g hg hm => by have _h1 := List.mem_singleton.1 hm; have _h2 := _lo6 g hg; have _h3 := _hiv6 g hg; omega)).ch _cw_15 (fun g hg hm => by have _h1 := List.mem_singleton.1 hm; have _h2 := _lo6 g hg; have _h3 := _hiv6 g hg; omega)).ch _cw_19 (fun g hg hm => by have _h1 := List.mem_singleton.1 hm; have _h2 := _lo6 g hg; have _h3 := _hiv6 g hg; omega)).ch0 _cw_24).ch _cw_26 (fun g hg hm => by have _h1 := List.mem_singleton.1 hm; have _h2 := _lo6 g hg; have _h3 := _hiv6 g hg; omega)).ch _cw_30 (fun g hg hm => by have _h1 := List.mem_singleton.1 hm; have _h2 := _lo6 g hg; have _h3 := _hiv6 g hg; omega)).ch _cw_34 (fun g hg hm => by have _h1 := List.mem_singleton.1 hm; have _h2 := _lo6 g hg; have _h3 := _hiv6 g hg; omega))
  have _o_36 : Ol ics 3 1 _w_34 (.slice _Av6 (pL).length _Cv6) (pL) := by
    have hx := _f_37
    simpa using hx
  have _f_39 := (((_q16.ch _cw_26 (fun g hg hm => by have _h1 := List.mem_singleton.1 hm; have _h2 := _lo16 g hg; have _h3 := _hiv16 g hg; omega)).ch _cw_30 (fun g hg hm => by have _h1 := List.mem_singleton.1 hm; have _h2 := _lo16 g hg; have _h3 := _hiv16 g hg; omega)).ch _cw_34 (fun g hg hm => by have _h1 := List.mem_singleton.1 hm; have _h2 := _lo16 g hg; have _h3 := _hiv16 g hg; omega))
  have _o_38 : Ol ics 3 1 _w_34 (.slice _Av16 (pF).length _Cv16) (pF) := by
    have hx := _f_39
    simpa using hx
  exact ret_intro [_] (resOf_loadA _m_35 rfl agg49 sz49 trivial) ⟨_, _, rfl, _o_36, Lo.down _lo6 (by omega), _o_38, Lo.down _lo16 (by omega), E⟩

/-- spec.l1In -/
theorem c_spec_l1In {w : World} (n : Int) (a : Int) (b : Int) :
    Ctr Try.prog 58 #[(.int .i64 n), (.int .i64 a), (.int .i64 b)] w (fun v w' => v = .bool (decide (a ≤ n ∧ n ≤ b)) ∧ Ch [] w w') := by
  have E := Ch.refl [] w
  refine Ctr_of_W (N := 15) (vs0 := [(.int .i64 n), (.int .i64 a), (.int .i64 b)]) Try.func58 rfl rfl rfl ?_
  refine W_seq fun _K_1 _hK_1 => ?_
  refine W_region ?_
  refine WL_step rfl rfl (r_assign rfl) ?_
  refine WL_nil ?_
  refine thn_nrm (_hK_1 _ _ ?_)
  clear _hK_1
  refine W_seq fun _K_2 _hK_2 => ?_
  refine W_region ?_
  refine WL_step rfl rfl (r_move rfl) ?_
  refine WL_step rfl rfl (r_move rfl) ?_
  refine WL_step rfl rfl (r_geq rfl rfl) ?_
  refine WL_step rfl rfl (r_move rfl) ?_
  refine WL_split (d := 10) rfl (fun _h10 => ?_) (fun _h10 => ?_)
  · have _h10 := bt_d _h10
    refine WL_step rfl rfl (r_move rfl) ?_
    refine WL_step rfl rfl (r_move rfl) ?_
    refine WL_step rfl rfl (r_leq rfl rfl) ?_
    refine WL_step rfl rfl (r_pickT rfl rfl) ?_
    refine WL_step rfl rfl (r_assign rfl) ?_
    refine WL_nil ?_
    refine thn_nrm (_hK_2 _ _ ?_)
    clear _hK_2
    refine W_ret ?_
    exact ret_intro [_] ⟨rfl, trivial⟩ ⟨congrArg Value.bool (by first | rfl | (rw [Bool.eq_iff_iff]; simp <;> omega) | (rw [Bool.eq_iff_iff]; simp_all; done) | simp_all), E⟩
  · have _h10 := bf_d _h10
    refine WL_skip rfl rfl ?_
    refine WL_skip rfl rfl ?_
    refine WL_skip rfl rfl ?_
    refine WL_step rfl rfl (r_pickF rfl rfl) ?_
    refine WL_step rfl rfl (r_assign rfl) ?_
    refine WL_nil ?_
    refine thn_nrm (_hK_2 _ _ ?_)
    clear _hK_2
    refine W_ret ?_
    exact ret_intro [_] ⟨rfl, trivial⟩ ⟨congrArg Value.bool (by first | rfl | (rw [Bool.eq_iff_iff]; simp <;> omega) | (rw [Bool.eq_iff_iff]; simp_all; done) | simp_all), E⟩

/-- spec.l2Letter -/
theorem c_spec_l2Letter {w : World} (n : Int) :
    Ctr Try.prog 96 #[(.int .i64 n)] w (fun v w' => v = .bool (decide (0 ≤ n ∧ n ≤ 8)) ∧ Ch [] w w') := by
  have E := Ch.refl [] w
  refine Ctr_of_W (N := 5) (vs0 := [(.int .i64 n)]) Try.func96 rfl rfl rfl ?_
  refine W_seq fun _K_1 _hK_1 => ?_
  refine W_region ?_
  refine WL_step rfl rfl (r_assign rfl) ?_
  refine WL_nil ?_
  refine thn_nrm (_hK_1 _ _ ?_)
  clear _hK_1
  refine W_seq fun _K_2 _hK_2 => ?_
  refine W_region ?_
  refine WL_step rfl rfl (r_move rfl) ?_
  refine WL_s rfl rfl ?_
  refine Step.call (r_call (xs := [.tmp 3, .const (Go.Value.int Go.IntKind.i64 0), .const (Go.Value.int Go.IntKind.i64 8)]) fk58 rfl) (c_spec_l1In _ _ _ ) fun _v4 _w_3 _q4 => ?_
  obtain ⟨rfl, _cw_3⟩ := _q4
  have _cw_3z := _cw_3.size
  have E := E.trans _cw_3
  refine WL_step rfl rfl (r_assign rfl) ?_
  refine WL_nil ?_
  refine thn_nrm (_hK_2 _ _ ?_)
  clear _hK_2
  refine W_ret ?_
  exact ret_intro [_] ⟨rfl, trivial⟩ ⟨congrArg Value.bool rfl, E⟩

/-- spec.IsValidPositions -/
theorem c_spec_IsValidPositions {w : World} {_B_pL : Nat} {_v_pL : Value} {pL : List Int} (_h_pL : Ls ics 1 w _B_pL _v_pL pL) (pfirst : Int) (plast : Int) {_B_pF : Nat} {_v_pF : Value} {pF : List Int} (_h_pF : Ls ics 1 w _B_pF _v_pF pF) (pnull : Bool) :
    Ctr Try.prog 88 #[(.agg #[_v_pL, (.int .i64 pfirst), (.int .i64 plast), _v_pF, (.bool pnull)])] w (fun v w' => v = .bool (tt (ValidP pL pfirst plast pF)) ∧ Ch [] w w') := by
  obtain ⟨_A_pL, _C_pL, _e1_pL⟩ := _h_pL.val
  subst _e1_pL
  have _l_pL := _h_pL.len
  have _h_pL := _h_pL.here (by decide)
  obtain ⟨_A_pF, _C_pF, _e1_pF⟩ := _h_pF.val
  subst _e1_pF
  have _l_pF := _h_pF.len
  have _h_pF := _h_pF.here (by decide)
  have E := Ch.refl [] w
  refine Ctr_of_W (N := 59) (vs0 := [(.agg #[(.slice _A_pL pL.length _C_pL), (.int .i64 pfirst), (.int .i64 plast), (.slice _A_pF pF.length _C_pF), (.bool pnull)])]) Try.func88 rfl rfl rfl ?_
  refine W_seq fun _K_1 _hK_1 => ?_
  refine W_region ?_
  refine WL_s rfl rfl ?_
  refine s_box rfl fun _b1 _w_2 _m1 _cw_2 _e1 => ?_
  have _cw_2z := _cw_2.size
  have E := E.trans _cw_2
  have _z1 := _m1.lt
  replace _m1 : Blk _w_2 _b1 49 [(.slice _A_pL pL.length _C_pL), (.int .i64 pfirst), (.int .i64 plast), (.slice _A_pF pF.length _C_pF), (.bool pnull)] := _m1
  refine WL_step rfl rfl (r_assign rfl) ?_
  refine WL_nil ?_
  refine thn_nrm (_hK_1 _ _ ?_)
  clear _hK_1
  refine W_seq fun _K_3 _hK_3 => ?_
  refine W_region ?_
  refine WL_step rfl rfl (r_fieldAddr fa49_0 rfl) ?_
  refine WL_step rfl rfl (r_loadAt _m1.at_ agg35 rfl rfl) ?_
  refine WL_step rfl rfl (r_len (by rw [el35]; rfl) rfl) ?_
  refine WL_step rfl rfl (r_assign rfl) ?_
  refine WL_nil ?_
  refine thn_nrm (_hK_3 _ _ ?_)
  clear _hK_3
  refine W_seq fun _K_4 _hK_4 => ?_
  refine W_seq fun _K_5 _hK_5 => ?_
  refine W_drawC [] 27 mixed rfl fun _w_6 _cw_6 => ?_
  have _cw_6z := _cw_6.size
  have E := E.trans _cw_6
  refine DR_s 0 rfl (by kernel_rfl) rfl rfl (t_v (fun _ => (r_move rfl)) ?_)
  refine DR_s 1 rfl (by kernel_rfl) rfl rfl (t_v (fun _ => (r_gtr rfl rfl)) ?_)
  refine DR_s 2 rfl (by kernel_rfl) rfl rfl (t_v (fun _ => (r_move rfl)) ?_)
  refine DR_split (d := 10) rfl (fun _h10 => ?_) (fun _h10 => ?_)
  · have _h10 := bt_d _h10
    refine DR_skip 3 rfl (by kernel_rfl) rfl rfl ?_
    refine DR_skip 4 rfl (by kernel_rfl) rfl rfl ?_
    refine DR_skip 5 rfl (by kernel_rfl) rfl rfl ?_
    refine DR_skip 6 rfl (by kernel_rfl) rfl rfl ?_
    refine DR_skip 7 rfl (by kernel_rfl) rfl rfl ?_
    refine DR_s 8 rfl (by kernel_rfl) rfl rfl (t_v (fun _ => (r_pickT rfl rfl)) ?_)
    refine DR_s 9 rfl (by kernel_rfl) rfl rfl (t_v (fun _ => (r_move rfl)) ?_)
    refine DR_skip 10 rfl (by kernel_rfl) rfl rfl ?_
    refine DR_skip 11 rfl (by kernel_rfl) rfl rfl ?_
    refine DR_skip 12 rfl (by kernel_rfl) rfl rfl ?_
    refine DR_skip 13 rfl (by kernel_rfl) rfl rfl ?_
    refine DR_skip 14 rfl (by kernel_rfl) rfl rfl ?_
    refine DR_skip 15 rfl (by kernel_rfl) rfl rfl ?_
    refine DR_skip 16 rfl (by kernel_rfl) rfl rfl ?_
    refine DR_s 17 rfl (by kernel_rfl) rfl rfl (t_v (fun _ => (r_pickT rfl rfl)) ?_)
    refine DR_s 18 rfl (by kernel_rfl) rfl rfl (t_v (fun _ => (r_move rfl)) ?_)
    refine DR_skip 19 rfl (by kernel_rfl) rfl rfl ?_
    refine DR_skip 20 rfl (by kernel_rfl) rfl rfl ?_
    refine DR_skip 21 rfl (by kernel_rfl) rfl rfl ?_
    refine DR_skip 22 rfl (by kernel_rfl) rfl rfl ?_
    refine DR_skip 23 rfl (by kernel_rfl) rfl rfl ?_
    refine DR_skip 24 rfl (by kernel_rfl) rfl rfl ?_
    refine DR_skip 25 rfl (by kernel_rfl) rfl rfl ?_
    refine DR_s 26 rfl (by kernel_rfl) rfl rfl (t_v (fun _ => (r_pickT rfl rfl)) ?_)
    refine DR_done (by kernel_rfl) ?_
    refine thn_nrm (_hK_5 _ _ ?_)
    clear _hK_5
    refine W_condT rfl ?_
    refine W_seq fun _K_7 _hK_7 => ?_
    refine W_region ?_
    refine WL_step rfl rfl (r_assign rfl) ?_
    refine WL_nil ?_
    refine thn_nrm (_hK_7 _ _ ?_)
    clear _hK_7
    refine W_ret (thn_ret ?_)
    clear _hK_4
    exact ret_intro [_] ⟨rfl, trivial⟩ ⟨congrArg Value.bool (by first | exact tt_true ⟨by omega, by omega, _h26, _h34, pos_all _ht (by omega)⟩ | exact tt_false (fun e => by first | exact _h34 e.2.2.2.1 | exact _h26 e.2.2.1 | (have _e1 := e.1; have _e2 := e.2.1; omega) | (have _e2 := val_L e _hy43; unfold isL at _e2; omega) | (have _e2 := val_F e _hy51; exact _h58 _e2))), E⟩
  · have _h10 := bf_d _h10
    refine DR_s 3 rfl (by kernel_rfl) rfl rfl (t_v (fun _ => (r_fieldAddr fa49_3 rfl)) ?_)
    have _f_8 := (_m1.ch0 _cw_6)
    refine DR_s 4 rfl (by kernel_rfl) rfl rfl (t_loadAt _f_8.at_ (fun i hi => by first | exact absurd hi (List.not_mem_nil) | (have _h1 := List.mem_singleton.1 hi; omega)) agg35 rfl rfl ?_)
    refine DR_s 5 rfl (by kernel_rfl) rfl rfl (t_v (fun _ => (r_len (by rw [el35]; rfl) rfl)) ?_)
    refine DR_s 6 rfl (by kernel_rfl) rfl rfl (t_v (fun _ => (r_move rfl)) ?_)
    refine DR_s 7 rfl (by kernel_rfl) rfl rfl (t_v (fun _ => (r_neq rfl rfl)) ?_)
    refine DR_s 8 rfl (by kernel_rfl) rfl rfl (t_v (fun _ => (r_pickF rfl rfl)) ?_)
    refine DR_s 9 rfl (by kernel_rfl) rfl rfl (t_v (fun _ => (r_move rfl)) ?_)
    refine DR_split (d := 17) rfl (fun _h17 => ?_) (fun _h17 => ?_)
    · have _h17 := bf_d (bt_n _h17)
      refine DR_skip 10 rfl (by kernel_rfl) rfl rfl ?_
      refine DR_skip 11 rfl (by kernel_rfl) rfl rfl ?_
      refine DR_skip 12 rfl (by kernel_rfl) rfl rfl ?_
      refine DR_skip 13 rfl (by kernel_rfl) rfl rfl ?_
      refine DR_skip 14 rfl (by kernel_rfl) rfl rfl ?_
      refine DR_skip 15 rfl (by kernel_rfl) rfl rfl ?_
      refine DR_skip 16 rfl (by kernel_rfl) rfl rfl ?_
      refine DR_s 17 rfl (by kernel_rfl) rfl rfl (t_v (fun _ => (r_pickT rfl rfl)) ?_)
      refine DR_s 18 rfl (by kernel_rfl) rfl rfl (t_v (fun _ => (r_move rfl)) ?_)
      refine DR_skip 19 rfl (by kernel_rfl) rfl rfl ?_
      refine DR_skip 20 rfl (by kernel_rfl) rfl rfl ?_
      refine DR_skip 21 rfl (by kernel_rfl) rfl rfl ?_
      refine DR_skip 22 rfl (by kernel_rfl) rfl rfl ?_
      refine DR_skip 23 rfl (by kernel_rfl) rfl rfl ?_
      refine DR_skip 24 rfl (by kernel_rfl) rfl rfl ?_
      refine DR_skip 25 rfl (by kernel_rfl) rfl rfl ?_
      refine DR_s 26 rfl (by kernel_rfl) rfl rfl (t_v (fun _ => (r_pickT rfl rfl)) ?_)
      refine DR_done (by kernel_rfl) ?_
      refine thn_nrm (_hK_5 _ _ ?_)
      clear _hK_5
      refine W_condT rfl ?_
      refine W_seq fun _K_9 _hK_9 => ?_
      refine W_region ?_
      refine WL_step rfl rfl (r_assign rfl) ?_
      refine WL_nil ?_
      refine thn_nrm (_hK_9 _ _ ?_)
      clear _hK_9
      refine W_ret (thn_ret ?_)
      clear _hK_4
      exact ret_intro [_] ⟨rfl, trivial⟩ ⟨congrArg Value.bool (by first | exact tt_true ⟨by omega, by omega, _h26, _h34, pos_all _ht (by omega)⟩ | exact tt_false (fun e => by first | exact _h34 e.2.2.2.1 | exact _h26 e.2.2.1 | (have _e1 := e.1; have _e2 := e.2.1; omega) | (have _e2 := val_L e _hy43; unfold isL at _e2; omega) | (have _e2 := val_F e _hy51; exact _h58 _e2))), E⟩
    · have _h17 := bt_d (bf_n _h17)
      refine DR_s 10 rfl (by kernel_rfl) rfl rfl (t_v (fun _ => (r_fieldAddr fa49_1 rfl)) ?_)
      refine DR_s 11 rfl (by kernel_rfl) rfl rfl (t_loadAt _f_8.at_ (fun i hi => by first | exact absurd hi (List.not_mem_nil) | (have _h1 := List.mem_singleton.1 hi; omega)) agg3 rfl rfl ?_)
      refine DR_s 12 rfl (by kernel_rfl) rfl rfl (t_v (fun _ => (r_move rfl)) ?_)
      refine DR_s 13 rfl (by kernel_rfl) rfl rfl (t_v (fun _ => (r_shl (by omega) rfl rfl)) ?_)
      refine DR_s 14 rfl (by kernel_rfl) rfl rfl (t_v (fun _ => (r_sub64 rfl rfl)) ?_)
      refine DR_one 15 (by kernel_rfl) ?_
      refine DO_s rfl rfl rfl ?_
      refine Step.call (r_call (xs := [.tmp 19, .const (Go.Value.int Go.IntKind.i64 0), .tmp 22]) fk58 rfl) (c_spec_l1In _ _ _ ) fun _v23 _w_10 _q23 => ?_
      obtain ⟨rfl, _cw_10⟩ := _q23
      have _cw_10z := _cw_10.size
      have E := E.trans _cw_10
      have _S_11 : Ch [] _w_6 _w_10 := ((Ch.refl _ _).trans _cw_10.of_nil)
      refine ⟨_S_11, ?_⟩
      refine DR_s 16 rfl (by kernel_rfl) rfl rfl (t_v (fun _ => (r_not rfl)) ?_)
      refine DR_s 17 rfl (by kernel_rfl) rfl rfl (t_v (fun _ => (r_pickF rfl rfl)) ?_)
      refine DR_s 18 rfl (by kernel_rfl) rfl rfl (t_v (fun _ => (r_move rfl)) ?_)
      refine DR_split (d := 26) rfl (fun _h26 => ?_) (fun _h26 => ?_)
      · have _h26 := bf_d (bt_n _h26)
        refine DR_skip 19 rfl (by kernel_rfl) rfl rfl ?_
        refine DR_skip 20 rfl (by kernel_rfl) rfl rfl ?_
        refine DR_skip 21 rfl (by kernel_rfl) rfl rfl ?_
        refine DR_skip 22 rfl (by kernel_rfl) rfl rfl ?_
        refine DR_skip 23 rfl (by kernel_rfl) rfl rfl ?_
        refine DR_skip 24 rfl (by kernel_rfl) rfl rfl ?_
        refine DR_skip 25 rfl (by kernel_rfl) rfl rfl ?_
        refine DR_s 26 rfl (by kernel_rfl) rfl rfl (t_v (fun _ => (r_pickT rfl rfl)) ?_)
        refine DR_done (by kernel_rfl) ?_
        refine thn_nrm (_hK_5 _ _ ?_)
        clear _hK_5
        refine W_condT rfl ?_
        refine W_seq fun _K_12 _hK_12 => ?_
        refine W_region ?_
        refine WL_step rfl rfl (r_assign rfl) ?_
        refine WL_nil ?_
        refine thn_nrm (_hK_12 _ _ ?_)
        clear _hK_12
        refine W_ret (thn_ret ?_)
        clear _hK_4
        exact ret_intro [_] ⟨rfl, trivial⟩ ⟨congrArg Value.bool (by first | exact tt_true ⟨by omega, by omega, _h26, _h34, pos_all _ht (by omega)⟩ | exact tt_false (fun e => by first | exact _h34 e.2.2.2.1 | exact _h26 e.2.2.1 | (have _e1 := e.1; have _e2 := e.2.1; omega) | (have _e2 := val_L e _hy43; unfold isL at _e2; omega) | (have _e2 := val_F e _hy51; exact _h58 _e2))), E⟩
      · have _h26 := bt_d (bf_n _h26)
        refine DR_s 19 rfl (by kernel_rfl) rfl rfl (t_v (fun _ => (r_fieldAddr fa49_2 rfl)) ?_)
        refine DR_s 20 rfl (by kernel_rfl) rfl rfl (t_loadAt _f_8.at_ (fun i hi => by first | exact absurd hi (List.not_mem_nil) | (have _h1 := List.mem_singleton.1 hi; omega)) agg3 rfl rfl ?_)
        refine DR_s 21 rfl (by kernel_rfl) rfl rfl (t_v (fun _ => (r_move rfl)) ?_)
        refine DR_s 22 rfl (by kernel_rfl) rfl rfl (t_v (fun _ => (r_shl (by omega) rfl rfl)) ?_)
        refine DR_s 23 rfl (by kernel_rfl) rfl rfl (t_v (fun _ => (r_sub64 rfl rfl)) ?_)
        refine DR_one 24 (by kernel_rfl) ?_
        refine DO_s rfl rfl rfl ?_
        refine Step.call (r_call (xs := [.tmp 28, .const (Go.Value.int Go.IntKind.i64 0), .tmp 31]) fk58 rfl) (c_spec_l1In _ _ _ ) fun _v32 _w_13 _q32 => ?_
        obtain ⟨rfl, _cw_13⟩ := _q32
        have _cw_13z := _cw_13.size
        have E := E.trans _cw_13
        have _S_14 : Ch [] _w_6 _w_13 := (_S_11.trans _cw_13.of_nil)
        refine ⟨_S_14, ?_⟩
        refine DR_s 25 rfl (by kernel_rfl) rfl rfl (t_v (fun _ => (r_not rfl)) ?_)
        refine DR_s 26 rfl (by kernel_rfl) rfl rfl (t_v (fun _ => (r_pickF rfl rfl)) ?_)
        refine DR_done (by kernel_rfl) ?_
        refine thn_nrm (_hK_5 _ _ ?_)
        clear _hK_5
        refine W_cond rfl (fun _h34 => ?_) (fun _h34 => ?_)
        · have _h34 := bf_d (bt_n _h34)
          refine W_seq fun _K_15 _hK_15 => ?_
          refine W_region ?_
          refine WL_step rfl rfl (r_assign rfl) ?_
          refine WL_nil ?_
          refine thn_nrm (_hK_15 _ _ ?_)
          clear _hK_15
          refine W_ret (thn_ret ?_)
          clear _hK_4
          exact ret_intro [_] ⟨rfl, trivial⟩ ⟨congrArg Value.bool (by first | exact tt_true ⟨by omega, by omega, _h26, _h34, pos_all _ht (by omega)⟩ | exact tt_false (fun e => by first | exact _h34 e.2.2.2.1 | exact _h26 e.2.2.1 | (have _e1 := e.1; have _e2 := e.2.1; omega) | (have _e2 := val_L e _hy43; unfold isL at _e2; omega) | (have _e2 := val_F e _hy51; exact _h58 _e2))), E⟩
        · have _h34 := bt_d (bf_n _h34)
          refine W_skip ?_
          refine thn_nrm (_hK_4 _ _ ?_)
          clear _hK_4
          refine W_seq fun _K_16 _hK_16 => ?_
          refine W_seq fun _K_17 _hK_17 => ?_
          refine W_region ?_
          refine WL_step rfl rfl (r_assign rfl) ?_
          refine WL_nil ?_
          refine thn_nrm (_hK_17 _ _ ?_)
          clear _hK_17
          refine W_block ?_
          have _f_18 := ((_f_8.ch0 _cw_10).ch0 _cw_13)
          refine W_loop (σ := Nat) (fun (k : Nat) => [(0, (.agg #[(.slice _A_pL pL.length _C_pL), (.int .i64 pfirst), (.int .i64 plast), (.slice _A_pF pF.length _C_pF), (.bool pnull)])), (1, (.pointer (some ⟨_b1, 0, none⟩))), (3, (.int .i64 ((pL.length : Nat) : Int))), (4, (.int .i64 ((k : Nat) : Int))), (5, (.pointer (some (Addr.add ⟨_b1, 0, none⟩ 0)))), (6, (.slice _A_pL pL.length _C_pL)), (7, (.int .i64 ((pL.length : Nat) : Int))), (8, (.int .i64 ((pL.length : Nat) : Int))), (9, (.bool (decide (20 < ((pL.length : Nat) : Int))))), (10, (.bool false)), (11, (.pointer (some (Addr.add ⟨_b1, 0, none⟩ 3)))), (12, (.slice _A_pF pF.length _C_pF)), (13, (.int .i64 ((pF.length : Nat) : Int))), (14, (.int .i64 ((pL.length : Nat) : Int))), (15, (.bool (!decide (((pF.length : Nat) : Int) = ((pL.length : Nat) : Int))))), (16, (.bool (!decide (((pF.length : Nat) : Int) = ((pL.length : Nat) : Int))))), (17, (.bool false)), (18, (.pointer (some (Addr.add ⟨_b1, 0, none⟩ 1)))), (19, (.int .i64 pfirst)), (20, (.int .i64 ((pL.length : Nat) : Int))), (21, (.int .i64 (ishl 1 ((pL.length : Nat) : Int)))), (22, (.int .i64 (w64 ((ishl 1 ((pL.length : Nat) : Int)) - 1)))), (23, (.bool (decide (0 ≤ pfirst ∧ pfirst ≤ (w64 ((ishl 1 ((pL.length : Nat) : Int)) - 1)))))), (24, (.bool (!(decide (0 ≤ pfirst ∧ pfirst ≤ (w64 ((ishl 1 ((pL.length : Nat) : Int)) - 1))))))), (25, (.bool (!(decide (0 ≤ pfirst ∧ pfirst ≤ (w64 ((ishl 1 ((pL.length : Nat) : Int)) - 1))))))), (26, (.bool false)), (27, (.pointer (some (Addr.add ⟨_b1, 0, none⟩ 2)))), (28, (.int .i64 plast)), (29, (.int .i64 ((pL.length : Nat) : Int))), (30, (.int .i64 (ishl 1 ((pL.length : Nat) : Int)))), (31, (.int .i64 (w64 ((ishl 1 ((pL.length : Nat) : Int)) - 1)))), (32, (.bool (decide (0 ≤ plast ∧ plast ≤ (w64 ((ishl 1 ((pL.length : Nat) : Int)) - 1)))))), (33, (.bool (!(decide (0 ≤ plast ∧ plast ≤ (w64 ((ishl 1 ((pL.length : Nat) : Int)) - 1))))))), (34, (.bool (!(decide (0 ≤ plast ∧ plast ≤ (w64 ((ishl 1 ((pL.length : Nat) : Int)) - 1)))))))]) (fun (k : Nat) wx => Ch [] w wx ∧ k ≤ pL.length ∧ PosP pL pF pL.length k ∧ Blk wx _b1 49 [(.slice _A_pL pL.length _C_pL), (.int .i64 pfirst), (.int .i64 plast), (.slice _A_pF pF.length _C_pF), (.bool pnull)]) (fun (k : Nat) => pL.length - k) 0 (Sub.cons rfl (Sub.cons rfl (Sub.cons rfl (Sub.cons rfl (Sub.cons rfl (Sub.cons rfl (Sub.cons rfl (Sub.cons rfl (Sub.cons rfl (Sub.cons rfl (Sub.cons rfl (Sub.cons rfl (Sub.cons rfl (Sub.cons rfl (Sub.cons rfl (Sub.cons rfl (Sub.cons rfl (Sub.cons rfl (Sub.cons rfl (Sub.cons rfl (Sub.cons rfl (Sub.cons rfl (Sub.cons rfl (Sub.cons rfl (Sub.cons rfl (Sub.cons rfl (Sub.cons rfl (Sub.cons rfl (Sub.cons rfl (Sub.cons rfl (Sub.cons rfl (Sub.cons rfl (Sub.cons rfl (Sub.cons rfl (Sub.nil _))))))))))))))))))))))))))))))))))) ⟨E, (by omega), (pos_zero _ _ _), _f_18⟩ ?_
          rintro k _wr_19 ⟨E, _hk, _ht, _F0_2⟩
          have _E0h := E
          have _E0hz := _E0h.size
          have _F0_2z := _F0_2.lt
          refine W_seq fun _K_20 _hK_20 => ?_
          refine W_seq fun _K_21 _hK_21 => ?_
          refine W_region ?_
          refine WL_step rfl rfl (r_move rfl) ?_
          refine WL_step rfl rfl (r_move rfl) ?_
          refine WL_step rfl rfl (r_lss rfl rfl) ?_
          refine WL_nil ?_
          refine thn_nrm (_hK_21 _ _ ?_)
          clear _hK_21
          refine W_cond rfl (fun _h37 => ?_) (fun _h37 => ?_)
          · have _h37 := bt_d _h37
            refine W_skip ?_
            refine thn_nrm (_hK_20 _ _ ?_)
            clear _hK_20
            refine W_seq fun _K_22 _hK_22 => ?_
            refine W_block ?_
            refine W_seq fun _K_23 _hK_23 => ?_
            refine W_drawC [] 19 mixed rfl fun _w_24 _cw_24 => ?_
            have _cw_24z := _cw_24.size
            have E := E.trans _cw_24
            refine DR_s 0 rfl (by kernel_rfl) rfl rfl (t_v (fun _ => (r_fieldAddr fa49_0 rfl)) ?_)
            have _f_25 := (_F0_2.ch0 _cw_24)
            refine DR_s 1 rfl (by kernel_rfl) rfl rfl (t_loadAt _f_25.at_ (fun i hi => by first | exact absurd hi (List.not_mem_nil) | (have _h1 := List.mem_singleton.1 hi; omega)) agg35 rfl rfl ?_)
            refine DR_s 2 rfl (by kernel_rfl) rfl rfl (t_v (fun _ => (r_move rfl)) ?_)
            have _f_26 := ((_h_pL.ch0 _E0h).ch0 _cw_24)
            refine DR_s 3 rfl (by kernel_rfl) rfl rfl (t_index _f_26 ics_len el35 sz3 rfl rfl rfl (by omega) fun _p43 _y43 _hy43 _a43 => ?_)
            refine DR_s 4 rfl (by kernel_rfl) rfl rfl (t_loadAt0 _a43 (fun i hi => by first | exact absurd hi (List.not_mem_nil) | (have _h1 := List.mem_singleton.1 hi; omega)) agg3 rfl rfl ?_)
            refine DR_one 5 (by kernel_rfl) ?_
            refine DO_s rfl rfl rfl ?_
            refine Step.call (r_call (xs := [.tmp 44]) fk96 rfl) (c_spec_l2Letter _ ) fun _v45 _w_27 _q45 => ?_
            obtain ⟨rfl, _cw_27⟩ := _q45
            have _cw_27z := _cw_27.size
            have E := E.trans _cw_27
            have _S_28 : Ch [] _w_24 _w_27 := ((Ch.refl _ _).trans _cw_27.of_nil)
            refine ⟨_S_28, ?_⟩
            refine DR_s 6 rfl (by kernel_rfl) rfl rfl (t_v (fun _ => (r_not rfl)) ?_)
            refine DR_s 7 rfl (by kernel_rfl) rfl rfl (t_v (fun _ => (r_move rfl)) ?_)
            refine DR_split (d := 47) rfl (fun _h47 => ?_) (fun _h47 => ?_)
            · have _h47 := bf_d (bt_n _h47)
              refine DR_skip 8 rfl (by kernel_rfl) rfl rfl ?_
              refine DR_skip 9 rfl (by kernel_rfl) rfl rfl ?_
              refine DR_skip 10 rfl (by kernel_rfl) rfl rfl ?_
              refine DR_skip 11 rfl (by kernel_rfl) rfl rfl ?_
              refine DR_skip 12 rfl (by kernel_rfl) rfl rfl ?_
              refine DR_skip 13 rfl (by kernel_rfl) rfl rfl ?_
              refine DR_skip 14 rfl (by kernel_rfl) rfl rfl ?_
              refine DR_skip 15 rfl (by kernel_rfl) rfl rfl ?_
              refine DR_skip 16 rfl (by kernel_rfl) rfl rfl ?_
              refine DR_skip 17 rfl (by kernel_rfl) rfl rfl ?_
              refine DR_s 18 rfl (by kernel_rfl) rfl rfl (t_v (fun _ => (r_pickT rfl rfl)) ?_)
              refine DR_done (by kernel_rfl) ?_
              refine thn_nrm (_hK_23 _ _ ?_)
              clear _hK_23
              refine W_condT rfl ?_
              refine W_seq fun _K_29 _hK_29 => ?_
              refine W_region ?_
              refine WL_step rfl rfl (r_assign rfl) ?_
              refine WL_nil ?_
              refine thn_nrm (_hK_29 _ _ ?_)
              clear _hK_29
              refine W_ret (inB_ret (thn_ret (thn_ret (inB_ret (thn_ret ?_)))))
              clear _hK_16 _hK_22
              exact ret_intro [_] ⟨rfl, trivial⟩ ⟨congrArg Value.bool (by first | exact tt_true ⟨by omega, by omega, _h26, _h34, pos_all _ht (by omega)⟩ | exact tt_false (fun e => by first | exact _h34 e.2.2.2.1 | exact _h26 e.2.2.1 | (have _e1 := e.1; have _e2 := e.2.1; omega) | (have _e2 := val_L e _hy43; unfold isL at _e2; omega) | (have _e2 := val_F e _hy51; exact _h58 _e2))), E⟩
            · have _h47 := bt_d (bf_n _h47)
              refine DR_s 8 rfl (by kernel_rfl) rfl rfl (t_v (fun _ => (r_fieldAddr fa49_3 rfl)) ?_)
              refine DR_s 9 rfl (by kernel_rfl) rfl rfl (t_loadAt _f_25.at_ (fun i hi => by first | exact absurd hi (List.not_mem_nil) | (have _h1 := List.mem_singleton.1 hi; omega)) agg35 rfl rfl ?_)
              refine DR_s 10 rfl (by kernel_rfl) rfl rfl (t_v (fun _ => (r_move rfl)) ?_)
              have _f_30 := ((_h_pF.ch0 _E0h).ch0 _cw_24)
              refine DR_s 11 rfl (by kernel_rfl) rfl rfl (t_index _f_30 ics_len el35 sz3 rfl rfl rfl (by omega) fun _p51 _y51 _hy51 _a51 => ?_)
              refine DR_s 12 rfl (by kernel_rfl) rfl rfl (t_loadAt0 _a51 (fun i hi => by first | exact absurd hi (List.not_mem_nil) | (have _h1 := List.mem_singleton.1 hi; omega)) agg3 rfl rfl ?_)
              refine DR_s 13 rfl (by kernel_rfl) rfl rfl (t_v (fun _ => (r_move rfl)) ?_)
              refine DR_s 14 rfl (by kernel_rfl) rfl rfl (t_v (fun _ => (r_shl (by omega) rfl rfl)) ?_)
              refine DR_s 15 rfl (by kernel_rfl) rfl rfl (t_v (fun _ => (r_sub64 rfl rfl)) ?_)
              refine DR_one 16 (by kernel_rfl) ?_
              refine DO_s rfl rfl rfl ?_
              refine Step.call (r_call (xs := [.tmp 52, .const (Go.Value.int Go.IntKind.i64 0), .tmp 55]) fk58 rfl) (c_spec_l1In _ _ _ ) fun _v56 _w_31 _q56 => ?_
              obtain ⟨rfl, _cw_31⟩ := _q56
              have _cw_31z := _cw_31.size
              have E := E.trans _cw_31
              have _S_32 : Ch [] _w_24 _w_31 := (_S_28.trans _cw_31.of_nil)
              refine ⟨_S_32, ?_⟩
              refine DR_s 17 rfl (by kernel_rfl) rfl rfl (t_v (fun _ => (r_not rfl)) ?_)
              refine DR_s 18 rfl (by kernel_rfl) rfl rfl (t_v (fun _ => (r_pickF rfl rfl)) ?_)
              refine DR_done (by kernel_rfl) ?_
              refine thn_nrm (_hK_23 _ _ ?_)
              clear _hK_23
              refine W_cond rfl (fun _h58 => ?_) (fun _h58 => ?_)
              · have _h58 := bf_d (bt_n _h58)
                refine W_seq fun _K_33 _hK_33 => ?_
                refine W_region ?_
                refine WL_step rfl rfl (r_assign rfl) ?_
                refine WL_nil ?_
                refine thn_nrm (_hK_33 _ _ ?_)
                clear _hK_33
                refine W_ret (inB_ret (thn_ret (thn_ret (inB_ret (thn_ret ?_)))))
                clear _hK_16 _hK_22
                exact ret_intro [_] ⟨rfl, trivial⟩ ⟨congrArg Value.bool (by first | exact tt_true ⟨by omega, by omega, _h26, _h34, pos_all _ht (by omega)⟩ | exact tt_false (fun e => by first | exact _h34 e.2.2.2.1 | exact _h26 e.2.2.1 | (have _e1 := e.1; have _e2 := e.2.1; omega) | (have _e2 := val_L e _hy43; unfold isL at _e2; omega) | (have _e2 := val_F e _hy51; exact _h58 _e2))), E⟩
              · have _h58 := bt_d (bf_n _h58)
                refine W_skip ?_
                refine inB_nrm ?_
                refine thn_nrm (_hK_22 _ _ ?_)
                clear _hK_22
                refine W_region ?_
                refine WL_step rfl rfl (r_move rfl) ?_
                refine WL_step rfl rfl (r_add (by omega) rfl rfl) ?_
                refine WL_step rfl rfl (r_assign rfl) ?_
                refine WL_nil ?_
                have _f_34 := ((_f_25.ch0 _cw_27).ch0 _cw_31)
                exact thn_nrm (Exists.intro (k + 1) ⟨⟨E, (by omega), (pos_step _ht _hy43 _hy51 _h47 _h58), _f_34⟩, Sub.cons rfl (Sub.cons rfl (Sub.cons rfl (Sub.cons rfl (Sub.cons rfl (Sub.cons rfl (Sub.cons rfl (Sub.cons rfl (Sub.cons rfl (Sub.cons rfl (Sub.cons rfl (Sub.cons rfl (Sub.cons rfl (Sub.cons rfl (Sub.cons rfl (Sub.cons rfl (Sub.cons rfl (Sub.cons rfl (Sub.cons rfl (Sub.cons rfl (Sub.cons rfl (Sub.cons rfl (Sub.cons rfl (Sub.cons rfl (Sub.cons rfl (Sub.cons rfl (Sub.cons rfl (Sub.cons rfl (Sub.cons rfl (Sub.cons rfl (Sub.cons rfl (Sub.cons rfl (Sub.cons rfl (Sub.cons rfl (Sub.nil _)))))))))))))))))))))))))))))))))), (by first | omega | (dsimp only; omega))⟩)
          · have _h37 := bf_d _h37
            refine W_exit (thn_exit (thn_exit (inB_hit ?_)))
            refine thn_nrm (_hK_16 _ _ ?_)
            clear _hK_16
            refine W_seq fun _K_35 _hK_35 => ?_
            refine W_region ?_
            refine WL_step rfl rfl (r_assign rfl) ?_
            refine WL_nil ?_
            refine thn_nrm (_hK_35 _ _ ?_)
            clear _hK_35
            refine W_ret ?_
            clear _hK_20
            exact ret_intro [_] ⟨rfl, trivial⟩ ⟨congrArg Value.bool (by first | exact tt_true ⟨by omega, by omega, _h26, _h34, pos_all _ht (by omega)⟩ | exact tt_false (fun e => by first | exact _h34 e.2.2.2.1 | exact _h26 e.2.2.1 | (have _e1 := e.1; have _e2 := e.2.1; omega) | (have _e2 := val_L e _hy43; unfold isL at _e2; omega) | (have _e2 := val_F e _hy51; exact _h58 _e2))), E⟩

/-- spec.IsWord -/
theorem c_spec_IsWord {w : World} {_B_wd : Nat} {_v_wd : Value} {wd : List Int} (_h_wd : Ls ics 1 w _B_wd _v_wd wd) :
    Ctr Try.prog 89 #[_v_wd] w (fun v w' => v = .bool (tt (IsWd wd)) ∧ Ch [] w w') := by
  obtain ⟨_A_wd, _C_wd, _e1_wd⟩ := _h_wd.val
  subst _e1_wd
  have _l_wd := _h_wd.len
  have _h_wd := _h_wd.here (by decide)
  have E := Ch.refl [] w
  refine Ctr_of_W (N := 19) (vs0 := [(.slice _A_wd wd.length _C_wd)]) Try.func89 rfl rfl rfl ?_
  refine W_seq fun _K_1 _hK_1 => ?_
  refine W_region ?_
  refine WL_step rfl rfl (r_assign rfl) ?_
  refine WL_nil ?_
  refine thn_nrm (_hK_1 _ _ ?_)
  clear _hK_1
  refine W_seq fun _K_2 _hK_2 => ?_
  refine W_seq fun _K_3 _hK_3 => ?_
  refine W_region ?_
  refine WL_step rfl rfl (r_assign rfl) ?_
  refine WL_nil ?_
  refine thn_nrm (_hK_3 _ _ ?_)
  clear _hK_3
  refine W_block ?_
  refine W_loop (σ := Nat) (fun (k : Nat) => [(0, (.slice _A_wd wd.length _C_wd)), (3, (.int .i64 ((k : Nat) : Int)))]) (fun (k : Nat) wx => Ch [] w wx ∧ k ≤ wd.length ∧ WdP wd k) (fun (k : Nat) => wd.length - k) 0 (Sub.cons rfl (Sub.cons rfl (Sub.nil _))) ⟨E, (by omega), (wd_zero _)⟩ ?_
  rintro k _wr_4 ⟨E, _hk, _ht⟩
  have _E0h := E
  have _E0hz := _E0h.size
  refine W_seq fun _K_5 _hK_5 => ?_
  refine W_seq fun _K_6 _hK_6 => ?_
  refine W_region ?_
  refine WL_step rfl rfl (r_move rfl) ?_
  refine WL_step rfl rfl (r_move rfl) ?_
  refine WL_step rfl rfl (r_len (by rw [el35]; rfl) rfl) ?_
  refine WL_step rfl rfl (r_lss rfl rfl) ?_
  refine WL_nil ?_
  refine thn_nrm (_hK_6 _ _ ?_)
  clear _hK_6
  refine W_cond rfl (fun _h7 => ?_) (fun _h7 => ?_)
  · have _h7 := bt_d _h7
    refine W_skip ?_
    refine thn_nrm (_hK_5 _ _ ?_)
    clear _hK_5
    refine W_seq fun _K_7 _hK_7 => ?_
    refine W_block ?_
    refine W_seq fun _K_8 _hK_8 => ?_
    refine W_region ?_
    refine WL_step rfl rfl (r_move rfl) ?_
    refine WL_step rfl rfl (r_move rfl) ?_
    refine WL_s rfl rfl ?_
    have _f_9 := (_h_wd.ch0 _E0h)
    refine (s_index _f_9 ics_len el35 sz3 rfl rfl rfl (by omega) fun _p12 _y12 _hy12 _a12 => ?_)
    refine WL_step rfl rfl (r_loadAt0 _a12 agg3 rfl rfl) ?_
    refine WL_s rfl rfl ?_
    refine Step.call (r_call (xs := [.tmp 13]) fk96 rfl) (c_spec_l2Letter _ ) fun _v14 _w_10 _q14 => ?_
    obtain ⟨rfl, _cw_10⟩ := _q14
    have _cw_10z := _cw_10.size
    have E := E.trans _cw_10
    refine WL_step rfl rfl (r_not rfl) ?_
    refine WL_nil ?_
    refine thn_nrm (_hK_8 _ _ ?_)
    clear _hK_8
    refine W_cond rfl (fun _h15 => ?_) (fun _h15 => ?_)
    · have _h15 := bf_d (bt_n _h15)
      refine W_seq fun _K_11 _hK_11 => ?_
      refine W_region ?_
      refine WL_step rfl rfl (r_assign rfl) ?_
      refine WL_nil ?_
      refine thn_nrm (_hK_11 _ _ ?_)
      clear _hK_11
      refine W_ret (inB_ret (thn_ret (thn_ret (inB_ret (thn_ret ?_)))))
      clear _hK_2 _hK_7
      exact ret_intro [_] ⟨rfl, trivial⟩ ⟨congrArg Value.bool (by first | exact tt_false (fun e => _h15 (wd_val e _hy12)) | (rw [tt_dec]; exact tt_eq ⟨fun e => ⟨wd_all _ht (by omega), by omega⟩, fun e => by have := e.2; omega⟩)), E⟩
    · have _h15 := bt_d (bf_n _h15)
      refine W_skip ?_
      refine inB_nrm ?_
      refine thn_nrm (_hK_7 _ _ ?_)
      clear _hK_7
      refine W_region ?_
      refine WL_step rfl rfl (r_move rfl) ?_
      refine WL_step rfl rfl (r_add (by omega) rfl rfl) ?_
      refine WL_step rfl rfl (r_assign rfl) ?_
      refine WL_nil ?_
      exact thn_nrm (Exists.intro (k + 1) ⟨⟨E, (by omega), (wd_step _ht _hy12 _h15)⟩, Sub.cons rfl (Sub.cons rfl (Sub.nil _)), (by first | omega | (dsimp only; omega))⟩)
  · have _h7 := bf_d _h7
    refine W_exit (thn_exit (thn_exit (inB_hit ?_)))
    refine thn_nrm (_hK_2 _ _ ?_)
    clear _hK_2
    refine W_seq fun _K_12 _hK_12 => ?_
    refine W_region ?_
    refine WL_step rfl rfl (r_move rfl) ?_
    refine WL_step rfl rfl (r_len (by rw [el35]; rfl) rfl) ?_
    refine WL_step rfl rfl (r_leq rfl rfl) ?_
    refine WL_step rfl rfl (r_assign rfl) ?_
    refine WL_nil ?_
    refine thn_nrm (_hK_12 _ _ ?_)
    clear _hK_12
    refine W_ret ?_
    clear _hK_5
    exact ret_intro [_] ⟨rfl, trivial⟩ ⟨congrArg Value.bool (by first | exact tt_false (fun e => _h15 (wd_val e _hy12)) | (rw [tt_dec]; exact tt_eq ⟨fun e => ⟨wd_all _ht (by omega), by omega⟩, fun e => by have := e.2; omega⟩)), E⟩

/-- spec.l10Accepts -/
theorem c_spec_l10Accepts {w : World} {_B_pL : Nat} {_v_pL : Value} {pL : List Int} (_h_pL : Ls ics 1 w _B_pL _v_pL pL) (pfirst : Int) (plast : Int) {_B_pF : Nat} {_v_pF : Value} {pF : List Int} (_h_pF : Ls ics 1 w _B_pF _v_pF pF) (pnull : Bool) (set : Int) :
    Ctr Try.prog 91 #[(.agg #[_v_pL, (.int .i64 pfirst), (.int .i64 plast), _v_pF, (.bool pnull)]), (.int .i64 set)] w (fun v w' => v = .bool (accB plast pnull set) ∧ Ch [] w w') := by
  obtain ⟨_A_pL, _C_pL, _e1_pL⟩ := _h_pL.val
  subst _e1_pL
  have _l_pL := _h_pL.len
  have _h_pL := _h_pL.here (by decide)
  obtain ⟨_A_pF, _C_pF, _e1_pF⟩ := _h_pF.val
  subst _e1_pF
  have _l_pF := _h_pF.len
  have _h_pF := _h_pF.here (by decide)
  have E := Ch.refl [] w
  refine Ctr_of_W (N := 20) (vs0 := [(.agg #[(.slice _A_pL pL.length _C_pL), (.int .i64 pfirst), (.int .i64 plast), (.slice _A_pF pF.length _C_pF), (.bool pnull)]), (.int .i64 set)]) Try.func91 rfl rfl rfl ?_
  refine W_seq fun _K_1 _hK_1 => ?_
  refine W_region ?_
  refine WL_s rfl rfl ?_
  refine s_box rfl fun _b2 _w_2 _m2 _cw_2 _e2 => ?_
  have _cw_2z := _cw_2.size
  have E := E.trans _cw_2
  have _z2 := _m2.lt
  replace _m2 : Blk _w_2 _b2 49 [(.slice _A_pL pL.length _C_pL), (.int .i64 pfirst), (.int .i64 plast), (.slice _A_pF pF.length _C_pF), (.bool pnull)] := _m2
  refine WL_step rfl rfl (r_assign rfl) ?_
  refine WL_nil ?_
  refine thn_nrm (_hK_1 _ _ ?_)
  clear _hK_1
  refine W_seq fun _K_3 _hK_3 => ?_
  refine W_region ?_
  refine WL_step rfl rfl (r_move rfl) ?_
  refine WL_step rfl rfl (r_and rfl rfl) ?_
  refine WL_step rfl rfl (r_eql rfl rfl) ?_
  refine WL_step rfl rfl (r_move rfl) ?_
  refine WL_split (d := 8) rfl (fun _h8 => ?_) (fun _h8 => ?_)
  · have _h8 := bt_d _h8
    refine WL_step rfl rfl (r_fieldAddr fa49_4 rfl) ?_
    refine WL_step rfl rfl (r_loadAt _m2.at_ agg4 rfl rfl) ?_
    refine WL_step rfl rfl (r_pickT rfl rfl) ?_
    refine WL_step rfl rfl (r_move rfl) ?_
    refine WL_split (d := 12) rfl (fun _h12 => ?_) (fun _h12 => ?_)
    · refine WL_skip rfl rfl ?_
      refine WL_skip rfl rfl ?_
      refine WL_skip rfl rfl ?_
      refine WL_skip rfl rfl ?_
      refine WL_skip rfl rfl ?_
      refine WL_skip rfl rfl ?_
      refine WL_step rfl rfl (r_pickT rfl rfl) ?_
      refine WL_step rfl rfl (r_assign rfl) ?_
      refine WL_nil ?_
      refine thn_nrm (_hK_3 _ _ ?_)
      clear _hK_3
      refine W_ret ?_
      exact ret_intro [_] ⟨rfl, trivial⟩ ⟨congrArg Value.bool (by unfold accB; simp_all), E⟩
    · refine WL_step rfl rfl (r_move rfl) ?_
      refine WL_step rfl rfl (r_shr (by omega) rfl rfl) ?_
      refine WL_step rfl rfl (r_fieldAddr fa49_2 rfl) ?_
      refine WL_step rfl rfl (r_loadAt _m2.at_ agg3 rfl rfl) ?_
      refine WL_step rfl rfl (r_and rfl rfl) ?_
      refine WL_step rfl rfl (r_neq rfl rfl) ?_
      refine WL_step rfl rfl (r_pickF rfl rfl) ?_
      refine WL_step rfl rfl (r_assign rfl) ?_
      refine WL_nil ?_
      refine thn_nrm (_hK_3 _ _ ?_)
      clear _hK_3
      refine W_ret ?_
      exact ret_intro [_] ⟨rfl, trivial⟩ ⟨congrArg Value.bool (by unfold accB; simp_all), E⟩
  · have _h8 := bf_d _h8
    refine WL_skip rfl rfl ?_
    refine WL_skip rfl rfl ?_
    refine WL_step rfl rfl (r_pickF rfl rfl) ?_
    refine WL_step rfl rfl (r_move rfl) ?_
    refine WL_step rfl rfl (r_move rfl) ?_
    refine WL_step rfl rfl (r_shr (by omega) rfl rfl) ?_
    refine WL_step rfl rfl (r_fieldAddr fa49_2 rfl) ?_
    refine WL_step rfl rfl (r_loadAt _m2.at_ agg3 rfl rfl) ?_
    refine WL_step rfl rfl (r_and rfl rfl) ?_
    refine WL_step rfl rfl (r_neq rfl rfl) ?_
    refine WL_step rfl rfl (r_pickF rfl rfl) ?_
    refine WL_step rfl rfl (r_assign rfl) ?_
    refine WL_nil ?_
    refine thn_nrm (_hK_3 _ _ ?_)
    clear _hK_3
    refine W_ret ?_
    exact ret_intro [_] ⟨rfl, trivial⟩ ⟨congrArg Value.bool (by unfold accB; simp_all), E⟩

/-- spec.l10After -/
theorem c_spec_l10After {w : World} {_B_pL : Nat} {_v_pL : Value} {pL : List Int} (_h_pL : Ls ics 1 w _B_pL _v_pL pL) (pfirst : Int) (plast : Int) {_B_pF : Nat} {_v_pF : Value} {pF : List Int} (_h_pF : Ls ics 1 w _B_pF _v_pF pF) (pnull : Bool) (set : Int) (letter : Int) (hF : pF.length = pL.length) (hn : pL.length ≤ 20) :
    Ctr Try.prog 90 #[(.agg #[_v_pL, (.int .i64 pfirst), (.int .i64 plast), _v_pF, (.bool pnull)]), (.int .i64 set), (.int .i64 letter)] w (fun v w' => v = .int .i64 (afterP pL pfirst pF set letter) ∧ Ch [] w w') := by
  obtain ⟨_A_pL, _C_pL, _e1_pL⟩ := _h_pL.val
  subst _e1_pL
  have _l_pL := _h_pL.len
  have _h_pL := _h_pL.here (by decide)
  obtain ⟨_A_pF, _C_pF, _e1_pF⟩ := _h_pF.val
  subst _e1_pF
  have _l_pF := _h_pF.len
  have _h_pF := _h_pF.here (by decide)
  have E := Ch.refl [] w
  refine Ctr_of_W (N := 63) (vs0 := [(.agg #[(.slice _A_pL pL.length _C_pL), (.int .i64 pfirst), (.int .i64 plast), (.slice _A_pF pF.length _C_pF), (.bool pnull)]), (.int .i64 set), (.int .i64 letter)]) Try.func90 rfl rfl rfl ?_
  refine W_seq fun _K_1 _hK_1 => ?_
  refine W_region ?_
  refine WL_s rfl rfl ?_
  refine s_box rfl fun _b3 _w_2 _m3 _cw_2 _e3 => ?_
  have _cw_2z := _cw_2.size
  have E := E.trans _cw_2
  have _z3 := _m3.lt
  replace _m3 : Blk _w_2 _b3 49 [(.slice _A_pL pL.length _C_pL), (.int .i64 pfirst), (.int .i64 plast), (.slice _A_pF pF.length _C_pF), (.bool pnull)] := _m3
  refine WL_step rfl rfl (r_assign rfl) ?_
  refine WL_nil ?_
  refine thn_nrm (_hK_1 _ _ ?_)
  clear _hK_1
  refine W_seq fun _K_3 _hK_3 => ?_
  refine W_region ?_
  refine WL_step rfl rfl (r_assign rfl) ?_
  refine WL_nil ?_
  refine thn_nrm (_hK_3 _ _ ?_)
  clear _hK_3
  refine W_seq fun _K_4 _hK_4 => ?_
  refine W_seq fun _K_5 _hK_5 => ?_
  refine W_region ?_
  refine WL_step rfl rfl (r_move rfl) ?_
  refine WL_step rfl rfl (r_and rfl rfl) ?_
  refine WL_step rfl rfl (r_eql rfl rfl) ?_
  refine WL_nil ?_
  refine thn_nrm (_hK_5 _ _ ?_)
  clear _hK_5
  refine W_cond rfl (fun _h13 => ?_) (fun _h13 => ?_)
  · have _h13 := bt_d _h13
    refine W_region ?_
    refine WL_step rfl rfl (r_fieldAddr fa49_1 rfl) ?_
    refine WL_step rfl rfl (r_loadAt _m3.at_ agg3 rfl rfl) ?_
    refine WL_step rfl rfl (r_assign rfl) ?_
    refine WL_nil ?_
    refine thn_nrm (_hK_4 _ _ ?_)
    clear _hK_4
    refine W_seq fun _K_6 _hK_6 => ?_
    refine W_seq fun _K_7 _hK_7 => ?_
    refine W_region ?_
    refine WL_step rfl rfl (r_assign rfl) ?_
    refine WL_nil ?_
    refine thn_nrm (_hK_7 _ _ ?_)
    clear _hK_7
    refine W_block ?_
    refine W_loop (σ := Nat × Int) (fun ⟨k, m⟩ => [(0, (.agg #[(.slice _A_pL pL.length _C_pL), (.int .i64 pfirst), (.int .i64 plast), (.slice _A_pF pF.length _C_pF), (.bool pnull)])), (1, (.int .i64 set)), (2, (.int .i64 letter)), (3, (.pointer (some ⟨_b3, 0, none⟩))), (6, (.int .i64 0)), (7, (.int .i64 m)), (8, (.int .i64 ((k : Nat) : Int))), (11, (.int .i64 set)), (12, (.int .i64 (iand set 1))), (13, (.bool (decide ((iand set 1) = 1)))), (14, (.pointer (some (Addr.add ⟨_b3, 0, none⟩ 1)))), (15, (.int .i64 pfirst))]) (fun ⟨k, m⟩ wx => Ch [] w wx ∧ k ≤ pL.length ∧ m = nxt pF set (if iand set 1 = 1 then pfirst else 0) k ∧ Blk wx _b3 49 [(.slice _A_pL pL.length _C_pL), (.int .i64 pfirst), (.int .i64 plast), (.slice _A_pF pF.length _C_pF), (.bool pnull)]) (fun ⟨k, m⟩ => pL.length - k) (0, pfirst) (Sub.cons rfl (Sub.cons rfl (Sub.cons rfl (Sub.cons rfl (Sub.cons rfl (Sub.cons rfl (Sub.cons rfl (Sub.cons rfl (Sub.cons rfl (Sub.cons rfl (Sub.cons rfl (Sub.cons rfl (Sub.nil _))))))))))))) ⟨E, (by omega), (by first | exact (if_pos _h13).symm | exact (if_neg _h13).symm), _m3⟩ ?_
    rintro ⟨k, m⟩ _wr_8 ⟨E, _hk, hm, _F0_2⟩
    have _E0h := E
    have _E0hz := _E0h.size
    have _F0_2z := _F0_2.lt
    refine W_seq fun _K_9 _hK_9 => ?_
    refine W_seq fun _K_10 _hK_10 => ?_
    refine W_region ?_
    refine WL_step rfl rfl (r_move rfl) ?_
    refine WL_step rfl rfl (r_fieldAddr fa49_0 rfl) ?_
    refine WL_step rfl rfl (r_loadAt _F0_2.at_ agg35 rfl rfl) ?_
    refine WL_step rfl rfl (r_len (by rw [el35]; rfl) rfl) ?_
    refine WL_step rfl rfl (r_lss rfl rfl) ?_
    refine WL_nil ?_
    refine thn_nrm (_hK_10 _ _ ?_)
    clear _hK_10
    refine W_cond rfl (fun _h20 => ?_) (fun _h20 => ?_)
    · have _h20 := bt_d _h20
      refine W_skip ?_
      refine thn_nrm (_hK_9 _ _ ?_)
      clear _hK_9
      refine W_seq fun _K_11 _hK_11 => ?_
      refine W_block ?_
      refine W_seq fun _K_12 _hK_12 => ?_
      refine W_region ?_
      refine WL_step rfl rfl (r_move rfl) ?_
      refine WL_step rfl rfl (r_move rfl) ?_
      refine WL_step rfl rfl (r_add (by omega) rfl rfl) ?_
      refine WL_step rfl rfl (r_shr (by omega) rfl rfl) ?_
      refine WL_step rfl rfl (r_and rfl rfl) ?_
      refine WL_step rfl rfl (r_eql rfl rfl) ?_
      refine WL_nil ?_
      refine thn_nrm (_hK_12 _ _ ?_)
      clear _hK_12
      refine W_cond rfl (fun _h28 => ?_) (fun _h28 => ?_)
      · have _h28 := bt_d _h28
        refine W_region ?_
        refine WL_step rfl rfl (r_move rfl) ?_
        refine WL_step rfl rfl (r_fieldAddr fa49_3 rfl) ?_
        refine WL_step rfl rfl (r_loadAt _F0_2.at_ agg35 rfl rfl) ?_
        refine WL_step rfl rfl (r_move rfl) ?_
        refine WL_s rfl rfl ?_
        have _f_13 := (_h_pF.ch0 _E0h)
        refine (s_index _f_13 ics_len el35 sz3 rfl rfl rfl (by omega) fun _p33 _y33 _hy33 _a33 => ?_)
        refine WL_step rfl rfl (r_loadAt0 _a33 agg3 rfl rfl) ?_
        refine WL_step rfl rfl (r_or rfl rfl) ?_
        refine WL_step rfl rfl (r_assign rfl) ?_
        refine WL_nil ?_
        refine inB_nrm ?_
        refine thn_nrm (_hK_11 _ _ ?_)
        clear _hK_11
        refine W_region ?_
        refine WL_step rfl rfl (r_move rfl) ?_
        refine WL_step rfl rfl (r_add (by omega) rfl rfl) ?_
        refine WL_step rfl rfl (r_assign rfl) ?_
        refine WL_nil ?_
        exact thn_nrm (Exists.intro ((k + 1), (ior m _y33)) ⟨⟨E, (by omega), (by first | exact nxt_y _h28 hm _hy33 | exact nxt_n _h28 hm), _F0_2⟩, Sub.cons rfl (Sub.cons rfl (Sub.cons rfl (Sub.cons rfl (Sub.cons rfl (Sub.cons rfl (Sub.cons rfl (Sub.cons rfl (Sub.cons rfl (Sub.cons rfl (Sub.cons rfl (Sub.cons rfl (Sub.nil _)))))))))))), (by first | omega | (dsimp only; omega))⟩)
      · have _h28 := bf_d _h28
        refine W_skip ?_
        refine inB_nrm ?_
        refine thn_nrm (_hK_11 _ _ ?_)
        clear _hK_11
        refine W_region ?_
        refine WL_step rfl rfl (r_move rfl) ?_
        refine WL_step rfl rfl (r_add (by omega) rfl rfl) ?_
        refine WL_step rfl rfl (r_assign rfl) ?_
        refine WL_nil ?_
        exact thn_nrm (Exists.intro ((k + 1), m) ⟨⟨E, (by omega), (by first | exact nxt_y _h28 hm _hy33 | exact nxt_n _h28 hm), _F0_2⟩, Sub.cons rfl (Sub.cons rfl (Sub.cons rfl (Sub.cons rfl (Sub.cons rfl (Sub.cons rfl (Sub.cons rfl (Sub.cons rfl (Sub.cons rfl (Sub.cons rfl (Sub.cons rfl (Sub.cons rfl (Sub.nil _)))))))))))), (by first | omega | (dsimp only; omega))⟩)
    · have _h20 := bf_d _h20
      refine W_exit (thn_exit (thn_exit (inB_hit ?_)))
      refine thn_nrm (_hK_6 _ _ ?_)
      clear _hK_6
      refine W_seq fun _K_14 _hK_14 => ?_
      refine W_region ?_
      refine WL_step rfl rfl (r_assign rfl) ?_
      refine WL_nil ?_
      refine thn_nrm (_hK_14 _ _ ?_)
      clear _hK_14
      refine W_seq fun _K_15 _hK_15 => ?_
      refine W_seq fun _K_16 _hK_16 => ?_
      refine W_region ?_
      refine WL_step rfl rfl (r_assign rfl) ?_
      refine WL_nil ?_
      refine thn_nrm (_hK_16 _ _ ?_)
      clear _hK_16
      refine W_block ?_
      refine W_loop (σ := Nat × Int) (fun ⟨q, o⟩ => [(0, (.agg #[(.slice _A_pL pL.length _C_pL), (.int .i64 pfirst), (.int .i64 plast), (.slice _A_pF pF.length _C_pF), (.bool pnull)])), (1, (.int .i64 set)), (2, (.int .i64 letter)), (3, (.pointer (some ⟨_b3, 0, none⟩))), (6, (.int .i64 0)), (7, (.int .i64 m)), (8, (.int .i64 ((k : Nat) : Int))), (9, (.int .i64 o)), (10, (.int .i64 ((q : Nat) : Int))), (11, (.int .i64 set)), (12, (.int .i64 (iand set 1))), (13, (.bool (decide ((iand set 1) = 1)))), (14, (.pointer (some (Addr.add ⟨_b3, 0, none⟩ 1)))), (15, (.int .i64 pfirst)), (16, (.int .i64 ((k : Nat) : Int))), (17, (.pointer (some (Addr.add ⟨_b3, 0, none⟩ 0)))), (18, (.slice _A_pL pL.length _C_pL)), (19, (.int .i64 ((pL.length : Nat) : Int))), (20, (.bool (decide (((k : Nat) : Int) < ((pL.length : Nat) : Int)))))]) (fun ⟨q, o⟩ wx => Ch [] w wx ∧ q ≤ pL.length ∧ o = outP pL (nxt pF set (if iand set 1 = 1 then pfirst else 0) pL.length) letter q ∧ Blk wx _b3 49 [(.slice _A_pL pL.length _C_pL), (.int .i64 pfirst), (.int .i64 plast), (.slice _A_pF pF.length _C_pF), (.bool pnull)]) (fun ⟨q, o⟩ => pL.length - q) (0, 0) (Sub.cons rfl (Sub.cons rfl (Sub.cons rfl (Sub.cons rfl (Sub.cons rfl (Sub.cons rfl (Sub.cons rfl (Sub.cons rfl (Sub.cons rfl (Sub.cons rfl (Sub.cons rfl (Sub.cons rfl (Sub.cons rfl (Sub.cons rfl (Sub.cons rfl (Sub.cons rfl (Sub.cons rfl (Sub.cons rfl (Sub.cons rfl (Sub.nil _)))))))))))))))))))) ⟨E, (by omega), rfl, _F0_2⟩ ?_
      rintro ⟨q, o⟩ _wr_17 ⟨E, hq, ho, _F1_2⟩
      have _E1h := E
      have _E1hz := _E1h.size
      have _F1_2z := _F1_2.lt
      have hm2 : m = nxt pF set (if iand set 1 = 1 then pfirst else 0) pL.length := by rw [hm, show k = pL.length by omega]
      refine W_seq fun _K_18 _hK_18 => ?_
      refine W_seq fun _K_19 _hK_19 => ?_
      refine W_region ?_
      refine WL_step rfl rfl (r_move rfl) ?_
      refine WL_step rfl rfl (r_fieldAddr fa49_0 rfl) ?_
      refine WL_step rfl rfl (r_loadAt _F1_2.at_ agg35 rfl rfl) ?_
      refine WL_step rfl rfl (r_len (by rw [el35]; rfl) rfl) ?_
      refine WL_step rfl rfl (r_lss rfl rfl) ?_
      refine WL_nil ?_
      refine thn_nrm (_hK_19 _ _ ?_)
      clear _hK_19
      refine W_cond rfl (fun _h40 => ?_) (fun _h40 => ?_)
      · have _h40 := bt_d _h40
        refine W_skip ?_
        refine thn_nrm (_hK_18 _ _ ?_)
        clear _hK_18
        refine W_seq fun _K_20 _hK_20 => ?_
        refine W_block ?_
        refine W_seq fun _K_21 _hK_21 => ?_
        refine W_region ?_
        refine WL_step rfl rfl (r_move rfl) ?_
        refine WL_step rfl rfl (r_move rfl) ?_
        refine WL_step rfl rfl (r_shr (by omega) rfl rfl) ?_
        refine WL_step rfl rfl (r_and rfl rfl) ?_
        refine WL_step rfl rfl (r_eql rfl rfl) ?_
        refine WL_step rfl rfl (r_move rfl) ?_
        refine WL_split (d := 48) rfl (fun _h48 => ?_) (fun _h48 => ?_)
        · have _h48 := bt_d _h48
          refine WL_step rfl rfl (r_fieldAddr fa49_0 rfl) ?_
          refine WL_step rfl rfl (r_loadAt _F1_2.at_ agg35 rfl rfl) ?_
          refine WL_step rfl rfl (r_move rfl) ?_
          refine WL_s rfl rfl ?_
          have _f_22 := (_h_pL.ch0 _E1h)
          refine (s_index _f_22 ics_len el35 sz3 rfl rfl rfl (by omega) fun _p52 _y52 _hy52 _a52 => ?_)
          refine WL_step rfl rfl (r_loadAt0 _a52 agg3 rfl rfl) ?_
          refine WL_step rfl rfl (r_move rfl) ?_
          refine WL_step rfl rfl (r_eql rfl rfl) ?_
          refine WL_step rfl rfl (r_pickT rfl rfl) ?_
          refine WL_nil ?_
          refine thn_nrm (_hK_21 _ _ ?_)
          clear _hK_21
          refine W_cond rfl (fun _h56 => ?_) (fun _h56 => ?_)
          · have _h56 := bt_d _h56
            refine W_region ?_
            refine WL_step rfl rfl (r_move rfl) ?_
            refine WL_step rfl rfl (r_move rfl) ?_
            refine WL_step rfl rfl (r_add (by omega) rfl rfl) ?_
            refine WL_step rfl rfl (r_shl (by omega) rfl rfl) ?_
            refine WL_step rfl rfl (r_or rfl rfl) ?_
            refine WL_step rfl rfl (r_assign rfl) ?_
            refine WL_nil ?_
            refine inB_nrm ?_
            refine thn_nrm (_hK_20 _ _ ?_)
            clear _hK_20
            refine W_region ?_
            refine WL_step rfl rfl (r_move rfl) ?_
            refine WL_step rfl rfl (r_add (by omega) rfl rfl) ?_
            refine WL_step rfl rfl (r_assign rfl) ?_
            refine WL_nil ?_
            exact thn_nrm (Exists.intro ((q + 1), (ior o (ishl 1 (((q : Nat) : Int) + 1)))) ⟨⟨E, (by omega), (by first | exact out_y _hy52 _h56 (by rw [← hm2]; exact _h48) ho | exact out_n1 (by rw [← hm2]; exact _h48) ho | exact out_n2 _hy52 _h56 ho), _F1_2⟩, Sub.cons rfl (Sub.cons rfl (Sub.cons rfl (Sub.cons rfl (Sub.cons rfl (Sub.cons rfl (Sub.cons rfl (Sub.cons rfl (Sub.cons rfl (Sub.cons rfl (Sub.cons rfl (Sub.cons rfl (Sub.cons rfl (Sub.cons rfl (Sub.cons rfl (Sub.cons rfl (Sub.cons rfl (Sub.cons rfl (Sub.cons rfl (Sub.nil _))))))))))))))))))), (by first | omega | (dsimp only; omega))⟩)
          · have _h56 := bf_d _h56
            refine W_skip ?_
            refine inB_nrm ?_
            refine thn_nrm (_hK_20 _ _ ?_)
            clear _hK_20
            refine W_region ?_
            refine WL_step rfl rfl (r_move rfl) ?_
            refine WL_step rfl rfl (r_add (by omega) rfl rfl) ?_
            refine WL_step rfl rfl (r_assign rfl) ?_
            refine WL_nil ?_
            exact thn_nrm (Exists.intro ((q + 1), o) ⟨⟨E, (by omega), (by first | exact out_y _hy52 _h56 (by rw [← hm2]; exact _h48) ho | exact out_n1 (by rw [← hm2]; exact _h48) ho | exact out_n2 _hy52 _h56 ho), _F1_2⟩, Sub.cons rfl (Sub.cons rfl (Sub.cons rfl (Sub.cons rfl (Sub.cons rfl (Sub.cons rfl (Sub.cons rfl (Sub.cons rfl (Sub.cons rfl (Sub.cons rfl (Sub.cons rfl (Sub.cons rfl (Sub.cons rfl (Sub.cons rfl (Sub.cons rfl (Sub.cons rfl (Sub.cons rfl (Sub.cons rfl (Sub.cons rfl (Sub.nil _))))))))))))))))))), (by first | omega | (dsimp only; omega))⟩)
        · have _h48 := bf_d _h48
          refine WL_skip rfl rfl ?_
          refine WL_skip rfl rfl ?_
          refine WL_skip rfl rfl ?_
          refine WL_skip rfl rfl ?_
          refine WL_skip rfl rfl ?_
          refine WL_skip rfl rfl ?_
          refine WL_skip rfl rfl ?_
          refine WL_step rfl rfl (r_pickF rfl rfl) ?_
          refine WL_nil ?_
          refine thn_nrm (_hK_21 _ _ ?_)
          clear _hK_21
          refine W_condF rfl ?_
          refine W_skip ?_
          refine inB_nrm ?_
          refine thn_nrm (_hK_20 _ _ ?_)
          clear _hK_20
          refine W_region ?_
          refine WL_step rfl rfl (r_move rfl) ?_
          refine WL_step rfl rfl (r_add (by omega) rfl rfl) ?_
          refine WL_step rfl rfl (r_assign rfl) ?_
          refine WL_nil ?_
          exact thn_nrm (Exists.intro ((q + 1), o) ⟨⟨E, (by omega), (by first | exact out_y _hy52 _h56 (by rw [← hm2]; exact _h48) ho | exact out_n1 (by rw [← hm2]; exact _h48) ho | exact out_n2 _hy52 _h56 ho), _F1_2⟩, Sub.cons rfl (Sub.cons rfl (Sub.cons rfl (Sub.cons rfl (Sub.cons rfl (Sub.cons rfl (Sub.cons rfl (Sub.cons rfl (Sub.cons rfl (Sub.cons rfl (Sub.cons rfl (Sub.cons rfl (Sub.cons rfl (Sub.cons rfl (Sub.cons rfl (Sub.cons rfl (Sub.cons rfl (Sub.cons rfl (Sub.cons rfl (Sub.nil _))))))))))))))))))), (by first | omega | (dsimp only; omega))⟩)
      · have _h40 := bf_d _h40
        refine W_exit (thn_exit (thn_exit (inB_hit ?_)))
        refine thn_nrm (_hK_15 _ _ ?_)
        clear _hK_15
        refine W_seq fun _K_23 _hK_23 => ?_
        refine W_region ?_
        refine WL_step rfl rfl (r_move rfl) ?_
        refine WL_step rfl rfl (r_assign rfl) ?_
        refine WL_nil ?_
        refine thn_nrm (_hK_23 _ _ ?_)
        clear _hK_23
        refine W_ret ?_
        clear _hK_9 _hK_18
        exact ret_intro [_] ⟨rfl, trivial⟩ ⟨congrArg (Value.int .i64) (by unfold afterP; rw [ho, show q = pL.length by omega]), E⟩
  · have _h13 := bf_d _h13
    refine W_skip ?_
    refine thn_nrm (_hK_4 _ _ ?_)
    clear _hK_4
    refine W_seq fun _K_24 _hK_24 => ?_
    refine W_seq fun _K_25 _hK_25 => ?_
    refine W_region ?_
    refine WL_step rfl rfl (r_assign rfl) ?_
    refine WL_nil ?_
    refine thn_nrm (_hK_25 _ _ ?_)
    clear _hK_25
    refine W_block ?_
    refine W_loop (σ := Nat × Int) (fun ⟨k, m⟩ => [(0, (.agg #[(.slice _A_pL pL.length _C_pL), (.int .i64 pfirst), (.int .i64 plast), (.slice _A_pF pF.length _C_pF), (.bool pnull)])), (1, (.int .i64 set)), (2, (.int .i64 letter)), (3, (.pointer (some ⟨_b3, 0, none⟩))), (6, (.int .i64 0)), (7, (.int .i64 m)), (8, (.int .i64 ((k : Nat) : Int))), (11, (.int .i64 set)), (12, (.int .i64 (iand set 1))), (13, (.bool (decide ((iand set 1) = 1))))]) (fun ⟨k, m⟩ wx => Ch [] w wx ∧ k ≤ pL.length ∧ m = nxt pF set (if iand set 1 = 1 then pfirst else 0) k ∧ Blk wx _b3 49 [(.slice _A_pL pL.length _C_pL), (.int .i64 pfirst), (.int .i64 plast), (.slice _A_pF pF.length _C_pF), (.bool pnull)]) (fun ⟨k, m⟩ => pL.length - k) (0, 0) (Sub.cons rfl (Sub.cons rfl (Sub.cons rfl (Sub.cons rfl (Sub.cons rfl (Sub.cons rfl (Sub.cons rfl (Sub.cons rfl (Sub.cons rfl (Sub.cons rfl (Sub.nil _))))))))))) ⟨E, (by omega), (by first | exact (if_pos _h13).symm | exact (if_neg _h13).symm), _m3⟩ ?_
    rintro ⟨k, m⟩ _wr_26 ⟨E, _hk, hm, _F0_2⟩
    have _E0h := E
    have _E0hz := _E0h.size
    have _F0_2z := _F0_2.lt
    refine W_seq fun _K_27 _hK_27 => ?_
    refine W_seq fun _K_28 _hK_28 => ?_
    refine W_region ?_
    refine WL_step rfl rfl (r_move rfl) ?_
    refine WL_step rfl rfl (r_fieldAddr fa49_0 rfl) ?_
    refine WL_step rfl rfl (r_loadAt _F0_2.at_ agg35 rfl rfl) ?_
    refine WL_step rfl rfl (r_len (by rw [el35]; rfl) rfl) ?_
    refine WL_step rfl rfl (r_lss rfl rfl) ?_
    refine WL_nil ?_
    refine thn_nrm (_hK_28 _ _ ?_)
    clear _hK_28
    refine W_cond rfl (fun _h20 => ?_) (fun _h20 => ?_)
    · have _h20 := bt_d _h20
      refine W_skip ?_
      refine thn_nrm (_hK_27 _ _ ?_)
      clear _hK_27
      refine W_seq fun _K_29 _hK_29 => ?_
      refine W_block ?_
      refine W_seq fun _K_30 _hK_30 => ?_
      refine W_region ?_
      refine WL_step rfl rfl (r_move rfl) ?_
      refine WL_step rfl rfl (r_move rfl) ?_
      refine WL_step rfl rfl (r_add (by omega) rfl rfl) ?_
      refine WL_step rfl rfl (r_shr (by omega) rfl rfl) ?_
      refine WL_step rfl rfl (r_and rfl rfl) ?_
      refine WL_step rfl rfl (r_eql rfl rfl) ?_
      refine WL_nil ?_
      refine thn_nrm (_hK_30 _ _ ?_)
      clear _hK_30
      refine W_cond rfl (fun _h28 => ?_) (fun _h28 => ?_)
      · have _h28 := bt_d _h28
        refine W_region ?_
        refine WL_step rfl rfl (r_move rfl) ?_
        refine WL_step rfl rfl (r_fieldAddr fa49_3 rfl) ?_
        refine WL_step rfl rfl (r_loadAt _F0_2.at_ agg35 rfl rfl) ?_
        refine WL_step rfl rfl (r_move rfl) ?_
        refine WL_s rfl rfl ?_
        have _f_31 := (_h_pF.ch0 _E0h)
        refine (s_index _f_31 ics_len el35 sz3 rfl rfl rfl (by omega) fun _p33 _y33 _hy33 _a33 => ?_)
        refine WL_step rfl rfl (r_loadAt0 _a33 agg3 rfl rfl) ?_
        refine WL_step rfl rfl (r_or rfl rfl) ?_
        refine WL_step rfl rfl (r_assign rfl) ?_
        refine WL_nil ?_
        refine inB_nrm ?_
        refine thn_nrm (_hK_29 _ _ ?_)
        clear _hK_29
        refine W_region ?_
        refine WL_step rfl rfl (r_move rfl) ?_
        refine WL_step rfl rfl (r_add (by omega) rfl rfl) ?_
        refine WL_step rfl rfl (r_assign rfl) ?_
        refine WL_nil ?_
        exact thn_nrm (Exists.intro ((k + 1), (ior m _y33)) ⟨⟨E, (by omega), (by first | exact nxt_y _h28 hm _hy33 | exact nxt_n _h28 hm), _F0_2⟩, Sub.cons rfl (Sub.cons rfl (Sub.cons rfl (Sub.cons rfl (Sub.cons rfl (Sub.cons rfl (Sub.cons rfl (Sub.cons rfl (Sub.cons rfl (Sub.cons rfl (Sub.nil _)))))))))), (by first | omega | (dsimp only; omega))⟩)
      · have _h28 := bf_d _h28
        refine W_skip ?_
        refine inB_nrm ?_
        refine thn_nrm (_hK_29 _ _ ?_)
        clear _hK_29
        refine W_region ?_
        refine WL_step rfl rfl (r_move rfl) ?_
        refine WL_step rfl rfl (r_add (by omega) rfl rfl) ?_
        refine WL_step rfl rfl (r_assign rfl) ?_
        refine WL_nil ?_
        exact thn_nrm (Exists.intro ((k + 1), m) ⟨⟨E, (by omega), (by first | exact nxt_y _h28 hm _hy33 | exact nxt_n _h28 hm), _F0_2⟩, Sub.cons rfl (Sub.cons rfl (Sub.cons rfl (Sub.cons rfl (Sub.cons rfl (Sub.cons rfl (Sub.cons rfl (Sub.cons rfl (Sub.cons rfl (Sub.cons rfl (Sub.nil _)))))))))), (by first | omega | (dsimp only; omega))⟩)
    · have _h20 := bf_d _h20
      refine W_exit (thn_exit (thn_exit (inB_hit ?_)))
      refine thn_nrm (_hK_24 _ _ ?_)
      clear _hK_24
      refine W_seq fun _K_32 _hK_32 => ?_
      refine W_region ?_
      refine WL_step rfl rfl (r_assign rfl) ?_
      refine WL_nil ?_
      refine thn_nrm (_hK_32 _ _ ?_)
      clear _hK_32
      refine W_seq fun _K_33 _hK_33 => ?_
      refine W_seq fun _K_34 _hK_34 => ?_
      refine W_region ?_
      refine WL_step rfl rfl (r_assign rfl) ?_
      refine WL_nil ?_
      refine thn_nrm (_hK_34 _ _ ?_)
      clear _hK_34
      refine W_block ?_
      refine W_loop (σ := Nat × Int) (fun ⟨q, o⟩ => [(0, (.agg #[(.slice _A_pL pL.length _C_pL), (.int .i64 pfirst), (.int .i64 plast), (.slice _A_pF pF.length _C_pF), (.bool pnull)])), (1, (.int .i64 set)), (2, (.int .i64 letter)), (3, (.pointer (some ⟨_b3, 0, none⟩))), (6, (.int .i64 0)), (7, (.int .i64 m)), (8, (.int .i64 ((k : Nat) : Int))), (9, (.int .i64 o)), (10, (.int .i64 ((q : Nat) : Int))), (11, (.int .i64 set)), (12, (.int .i64 (iand set 1))), (13, (.bool (decide ((iand set 1) = 1)))), (16, (.int .i64 ((k : Nat) : Int))), (17, (.pointer (some (Addr.add ⟨_b3, 0, none⟩ 0)))), (18, (.slice _A_pL pL.length _C_pL)), (19, (.int .i64 ((pL.length : Nat) : Int))), (20, (.bool (decide (((k : Nat) : Int) < ((pL.length : Nat) : Int)))))]) (fun ⟨q, o⟩ wx => Ch [] w wx ∧ q ≤ pL.length ∧ o = outP pL (nxt pF set (if iand set 1 = 1 then pfirst else 0) pL.length) letter q ∧ Blk wx _b3 49 [(.slice _A_pL pL.length _C_pL), (.int .i64 pfirst), (.int .i64 plast), (.slice _A_pF pF.length _C_pF), (.bool pnull)]) (fun ⟨q, o⟩ => pL.length - q) (0, 0) (Sub.cons rfl (Sub.cons rfl (Sub.cons rfl (Sub.cons rfl (Sub.cons rfl (Sub.cons rfl (Sub.cons rfl (Sub.cons rfl (Sub.cons rfl (Sub.cons rfl (Sub.cons rfl (Sub.cons rfl (Sub.cons rfl (Sub.cons rfl (Sub.cons rfl (Sub.cons rfl (Sub.cons rfl (Sub.nil _)))))))))))))))))) ⟨E, (by omega), rfl, _F0_2⟩ ?_
      rintro ⟨q, o⟩ _wr_35 ⟨E, hq, ho, _F1_2⟩
      have _E1h := E
      have _E1hz := _E1h.size
      have _F1_2z := _F1_2.lt
      have hm2 : m = nxt pF set (if iand set 1 = 1 then pfirst else 0) pL.length := by rw [hm, show k = pL.length by omega]
      refine W_seq fun _K_36 _hK_36 => ?_
      refine W_seq fun _K_37 _hK_37 => ?_
      refine W_region ?_
      refine WL_step rfl rfl (r_move rfl) ?_
      refine WL_step rfl rfl (r_fieldAddr fa49_0 rfl) ?_
      refine WL_step rfl rfl (r_loadAt _F1_2.at_ agg35 rfl rfl) ?_
      refine WL_step rfl rfl (r_len (by rw [el35]; rfl) rfl) ?_
      refine WL_step rfl rfl (r_lss rfl rfl) ?_
      refine WL_nil ?_
      refine thn_nrm (_hK_37 _ _ ?_)
      clear _hK_37
      refine W_cond rfl (fun _h40 => ?_) (fun _h40 => ?_)
      · have _h40 := bt_d _h40
        refine W_skip ?_
        refine thn_nrm (_hK_36 _ _ ?_)
        clear _hK_36
        refine W_seq fun _K_38 _hK_38 => ?_
        refine W_block ?_
        refine W_seq fun _K_39 _hK_39 => ?_
        refine W_region ?_
        refine WL_step rfl rfl (r_move rfl) ?_
        refine WL_step rfl rfl (r_move rfl) ?_
        refine WL_step rfl rfl (r_shr (by omega) rfl rfl) ?_
        refine WL_step rfl rfl (r_and rfl rfl) ?_
        refine WL_step rfl rfl (r_eql rfl rfl) ?_
        refine WL_step rfl rfl (r_move rfl) ?_
        refine WL_split (d := 48) rfl (fun _h48 => ?_) (fun _h48 => ?_)
        · have _h48 := bt_d _h48
          refine WL_step rfl rfl (r_fieldAddr fa49_0 rfl) ?_
          refine WL_step rfl rfl (r_loadAt _F1_2.at_ agg35 rfl rfl) ?_
          refine WL_step rfl rfl (r_move rfl) ?_
          refine WL_s rfl rfl ?_
          have _f_40 := (_h_pL.ch0 _E1h)
          refine (s_index _f_40 ics_len el35 sz3 rfl rfl rfl (by omega) fun _p52 _y52 _hy52 _a52 => ?_)
          refine WL_step rfl rfl (r_loadAt0 _a52 agg3 rfl rfl) ?_
          refine WL_step rfl rfl (r_move rfl) ?_
          refine WL_step rfl rfl (r_eql rfl rfl) ?_
          refine WL_step rfl rfl (r_pickT rfl rfl) ?_
          refine WL_nil ?_
          refine thn_nrm (_hK_39 _ _ ?_)
          clear _hK_39
          refine W_cond rfl (fun _h56 => ?_) (fun _h56 => ?_)
          · have _h56 := bt_d _h56
            refine W_region ?_
            refine WL_step rfl rfl (r_move rfl) ?_
            refine WL_step rfl rfl (r_move rfl) ?_
            refine WL_step rfl rfl (r_add (by omega) rfl rfl) ?_
            refine WL_step rfl rfl (r_shl (by omega) rfl rfl) ?_
            refine WL_step rfl rfl (r_or rfl rfl) ?_
            refine WL_step rfl rfl (r_assign rfl) ?_
            refine WL_nil ?_
            refine inB_nrm ?_
            refine thn_nrm (_hK_38 _ _ ?_)
            clear _hK_38
            refine W_region ?_
            refine WL_step rfl rfl (r_move rfl) ?_
            refine WL_step rfl rfl (r_add (by omega) rfl rfl) ?_
            refine WL_step rfl rfl (r_assign rfl) ?_
            refine WL_nil ?_
            exact thn_nrm (Exists.intro ((q + 1), (ior o (ishl 1 (((q : Nat) : Int) + 1)))) ⟨⟨E, (by omega), (by first | exact out_y _hy52 _h56 (by rw [← hm2]; exact _h48) ho | exact out_n1 (by rw [← hm2]; exact _h48) ho | exact out_n2 _hy52 _h56 ho), _F1_2⟩, Sub.cons rfl (Sub.cons rfl (Sub.cons rfl (Sub.cons rfl (Sub.cons rfl (Sub.cons rfl (Sub.cons rfl (Sub.cons rfl (Sub.cons rfl (Sub.cons rfl (Sub.cons rfl (Sub.cons rfl (Sub.cons rfl (Sub.cons rfl (Sub.cons rfl (Sub.cons rfl (Sub.cons rfl (Sub.nil _))))))))))))))))), (by first | omega | (dsimp only; omega))⟩)
          · have _h56 := bf_d _h56
            refine W_skip ?_
            refine inB_nrm ?_
            refine thn_nrm (_hK_38 _ _ ?_)
            clear _hK_38
            refine W_region ?_
            refine WL_step rfl rfl (r_move rfl) ?_
            refine WL_step rfl rfl (r_add (by omega) rfl rfl) ?_
            refine WL_step rfl rfl (r_assign rfl) ?_
            refine WL_nil ?_
            exact thn_nrm (Exists.intro ((q + 1), o) ⟨⟨E, (by omega), (by first | exact out_y _hy52 _h56 (by rw [← hm2]; exact _h48) ho | exact out_n1 (by rw [← hm2]; exact _h48) ho | exact out_n2 _hy52 _h56 ho), _F1_2⟩, Sub.cons rfl (Sub.cons rfl (Sub.cons rfl (Sub.cons rfl (Sub.cons rfl (Sub.cons rfl (Sub.cons rfl (Sub.cons rfl (Sub.cons rfl (Sub.cons rfl (Sub.cons rfl (Sub.cons rfl (Sub.cons rfl (Sub.cons rfl (Sub.cons rfl (Sub.cons rfl (Sub.cons rfl (Sub.nil _))))))))))))))))), (by first | omega | (dsimp only; omega))⟩)
        · have _h48 := bf_d _h48
          refine WL_skip rfl rfl ?_
          refine WL_skip rfl rfl ?_
          refine WL_skip rfl rfl ?_
          refine WL_skip rfl rfl ?_
          refine WL_skip rfl rfl ?_
          refine WL_skip rfl rfl ?_
          refine WL_skip rfl rfl ?_
          refine WL_step rfl rfl (r_pickF rfl rfl) ?_
          refine WL_nil ?_
          refine thn_nrm (_hK_39 _ _ ?_)
          clear _hK_39
          refine W_condF rfl ?_
          refine W_skip ?_
          refine inB_nrm ?_
          refine thn_nrm (_hK_38 _ _ ?_)
          clear _hK_38
          refine W_region ?_
          refine WL_step rfl rfl (r_move rfl) ?_
          refine WL_step rfl rfl (r_add (by omega) rfl rfl) ?_
          refine WL_step rfl rfl (r_assign rfl) ?_
          refine WL_nil ?_
          exact thn_nrm (Exists.intro ((q + 1), o) ⟨⟨E, (by omega), (by first | exact out_y _hy52 _h56 (by rw [← hm2]; exact _h48) ho | exact out_n1 (by rw [← hm2]; exact _h48) ho | exact out_n2 _hy52 _h56 ho), _F1_2⟩, Sub.cons rfl (Sub.cons rfl (Sub.cons rfl (Sub.cons rfl (Sub.cons rfl (Sub.cons rfl (Sub.cons rfl (Sub.cons rfl (Sub.cons rfl (Sub.cons rfl (Sub.cons rfl (Sub.cons rfl (Sub.cons rfl (Sub.cons rfl (Sub.cons rfl (Sub.cons rfl (Sub.cons rfl (Sub.nil _))))))))))))))))), (by first | omega | (dsimp only; omega))⟩)
      · have _h40 := bf_d _h40
        refine W_exit (thn_exit (thn_exit (inB_hit ?_)))
        refine thn_nrm (_hK_33 _ _ ?_)
        clear _hK_33
        refine W_seq fun _K_41 _hK_41 => ?_
        refine W_region ?_
        refine WL_step rfl rfl (r_move rfl) ?_
        refine WL_step rfl rfl (r_assign rfl) ?_
        refine WL_nil ?_
        refine thn_nrm (_hK_41 _ _ ?_)
        clear _hK_41
        refine W_ret ?_
        clear _hK_27 _hK_36
        exact ret_intro [_] ⟨rfl, trivial⟩ ⟨congrArg (Value.int .i64) (by unfold afterP; rw [ho, show q = pL.length by omega]), E⟩

/-- spec.PositionsMatch -/
theorem c_spec_PositionsMatch {w : World} {_B_pL : Nat} {_v_pL : Value} {pL : List Int} (_h_pL : Ls ics 1 w _B_pL _v_pL pL) (pfirst : Int) (plast : Int) {_B_pF : Nat} {_v_pF : Value} {pF : List Int} (_h_pF : Ls ics 1 w _B_pF _v_pF pF) (pnull : Bool) {_B_wd : Nat} {_v_wd : Value} {wd : List Int} (_h_wd : Ls ics 1 w _B_wd _v_wd wd) :
    Ctr Try.prog 44 #[(.agg #[_v_pL, (.int .i64 pfirst), (.int .i64 plast), _v_pF, (.bool pnull)]), _v_wd] w (fun v w' => v = .bool (tt ((ValidP pL pfirst plast pF ∧ IsWd wd) ∧ accB plast pnull (runP pL pfirst pF wd wd.length) = true)) ∧ Ch [] w w') := by
  obtain ⟨_A_pL, _C_pL, _e1_pL⟩ := _h_pL.val
  subst _e1_pL
  have _l_pL := _h_pL.len
  have _h_pL := _h_pL.here (by decide)
  obtain ⟨_A_pF, _C_pF, _e1_pF⟩ := _h_pF.val
  subst _e1_pF
  have _l_pF := _h_pF.len
  have _h_pF := _h_pF.here (by decide)
  obtain ⟨_A_wd, _C_wd, _e1_wd⟩ := _h_wd.val
  subst _e1_wd
  have _l_wd := _h_wd.len
  have _h_wd := _h_wd.here (by decide)
  have E := Ch.refl [] w
  refine Ctr_of_W (N := 31) (vs0 := [(.agg #[(.slice _A_pL pL.length _C_pL), (.int .i64 pfirst), (.int .i64 plast), (.slice _A_pF pF.length _C_pF), (.bool pnull)]), (.slice _A_wd wd.length _C_wd)]) Try.func44 rfl rfl rfl ?_
  refine W_seq fun _K_1 _hK_1 => ?_
  refine W_region ?_
  refine WL_s rfl rfl ?_
  refine s_box rfl fun _b2 _w_2 _m2 _cw_2 _e2 => ?_
  have _cw_2z := _cw_2.size
  have E := E.trans _cw_2
  have _z2 := _m2.lt
  replace _m2 : Blk _w_2 _b2 49 [(.slice _A_pL pL.length _C_pL), (.int .i64 pfirst), (.int .i64 plast), (.slice _A_pF pF.length _C_pF), (.bool pnull)] := _m2
  refine WL_step rfl rfl (r_assign rfl) ?_
  refine WL_nil ?_
  refine thn_nrm (_hK_1 _ _ ?_)
  clear _hK_1
  refine W_seq fun _K_3 _hK_3 => ?_
  refine W_seq fun _K_4 _hK_4 => ?_
  refine W_region ?_
  refine WL_step rfl rfl (r_loadAtA0 _m2.at_ agg49 sz49 rfl) ?_
  refine WL_s rfl rfl ?_
  have _f_5 := (_h_pL.ch0 _cw_2)
  have _f_6 := (_h_pF.ch0 _cw_2)
  refine Step.call (r_call (xs := [.tmp 7]) fk88 rfl) (c_spec_IsValidPositions _f_5 _ _ _f_6 _ ) fun _v8 _w_7 _q8 => ?_
  obtain ⟨rfl, _cw_7⟩ := _q8
  have _cw_7z := _cw_7.size
  have E := E.trans _cw_7
  refine WL_step rfl rfl (r_not rfl) ?_
  refine WL_step rfl rfl (r_move rfl) ?_
  refine WL_split (d := 10) rfl (fun _h10 => ?_) (fun _h10 => ?_)
  · have _h10 := bf_t (bt_n _h10)
    refine WL_skip rfl rfl ?_
    refine WL_skip rfl rfl ?_
    refine WL_skip rfl rfl ?_
    refine WL_step rfl rfl (r_pickT rfl rfl) ?_
    refine WL_nil ?_
    refine thn_nrm (_hK_4 _ _ ?_)
    clear _hK_4
    refine W_condT rfl ?_
    refine W_seq fun _K_8 _hK_8 => ?_
    refine W_region ?_
    refine WL_step rfl rfl (r_assign rfl) ?_
    refine WL_nil ?_
    refine thn_nrm (_hK_8 _ _ ?_)
    clear _hK_8
    refine W_ret (thn_ret ?_)
    clear _hK_3
    exact ret_intro [_] ⟨rfl, trivial⟩ ⟨congrArg Value.bool (by first | exact tt_false (fun e => _h10 e.1.1) | exact tt_false (fun e => _h14 e.1.2) | (rw [hs, show k = wd.length by omega]; cases hb : accB plast pnull (runP pL pfirst pF wd wd.length) <;> first | exact tt_true ⟨⟨_h10, _h14⟩, rfl⟩ | exact tt_false (fun e => by cases e.2))), E⟩
  · have _h10 := bt_t (bf_n _h10)
    refine WL_step rfl rfl (r_move rfl) ?_
    refine WL_s rfl rfl ?_
    have _f_9 := ((_h_wd.ch0 _cw_2).ch0 _cw_7)
    refine Step.call (r_call (xs := [.tmp 11]) fk89 rfl) (c_spec_IsWord _f_9 ) fun _v12 _w_10 _q12 => ?_
    obtain ⟨rfl, _cw_10⟩ := _q12
    have _cw_10z := _cw_10.size
    have E := E.trans _cw_10
    refine WL_step rfl rfl (r_not rfl) ?_
    refine WL_step rfl rfl (r_pickF rfl rfl) ?_
    refine WL_nil ?_
    refine thn_nrm (_hK_4 _ _ ?_)
    clear _hK_4
    refine W_cond rfl (fun _h14 => ?_) (fun _h14 => ?_)
    · have _h14 := bf_t (bt_n _h14)
      refine W_seq fun _K_11 _hK_11 => ?_
      refine W_region ?_
      refine WL_step rfl rfl (r_assign rfl) ?_
      refine WL_nil ?_
      refine thn_nrm (_hK_11 _ _ ?_)
      clear _hK_11
      refine W_ret (thn_ret ?_)
      clear _hK_3
      exact ret_intro [_] ⟨rfl, trivial⟩ ⟨congrArg Value.bool (by first | exact tt_false (fun e => _h10 e.1.1) | exact tt_false (fun e => _h14 e.1.2) | (rw [hs, show k = wd.length by omega]; cases hb : accB plast pnull (runP pL pfirst pF wd wd.length) <;> first | exact tt_true ⟨⟨_h10, _h14⟩, rfl⟩ | exact tt_false (fun e => by cases e.2))), E⟩
    · have _h14 := bt_t (bf_n _h14)
      refine W_skip ?_
      refine thn_nrm (_hK_3 _ _ ?_)
      clear _hK_3
      refine W_seq fun _K_12 _hK_12 => ?_
      refine W_region ?_
      refine WL_step rfl rfl (r_assign rfl) ?_
      refine WL_nil ?_
      refine thn_nrm (_hK_12 _ _ ?_)
      clear _hK_12
      refine W_seq fun _K_13 _hK_13 => ?_
      refine W_seq fun _K_14 _hK_14 => ?_
      refine W_region ?_
      refine WL_step rfl rfl (r_assign rfl) ?_
      refine WL_nil ?_
      refine thn_nrm (_hK_14 _ _ ?_)
      clear _hK_14
      refine W_block ?_
      have _f_15 := ((_f_5.ch0 _cw_7).ch0 _cw_10)
      have _f_16 := ((_f_6.ch0 _cw_7).ch0 _cw_10)
      have _f_17 := (_f_9.ch0 _cw_10)
      have _f_18 := ((_m2.ch0 _cw_7).ch0 _cw_10)
      refine W_loop (σ := Nat × Int) (fun ⟨k, s⟩ => [(0, (.agg #[(.slice _A_pL pL.length _C_pL), (.int .i64 pfirst), (.int .i64 plast), (.slice _A_pF pF.length _C_pF), (.bool pnull)])), (1, (.slice _A_wd wd.length _C_wd)), (2, (.pointer (some ⟨_b2, 0, none⟩))), (4, (.bool false)), (5, (.int .i64 s)), (6, (.int .i64 ((k : Nat) : Int))), (7, (.agg #[(.slice _A_pL pL.length _C_pL), (.int .i64 pfirst), (.int .i64 plast), (.slice _A_pF pF.length _C_pF), (.bool pnull)])), (8, (.bool (tt (ValidP pL pfirst plast pF)))), (9, (.bool (!(tt (ValidP pL pfirst plast pF))))), (10, (.bool false)), (11, (.slice _A_wd wd.length _C_wd)), (12, (.bool (tt (IsWd wd)))), (13, (.bool (!(tt (IsWd wd))))), (14, (.bool (!(tt (IsWd wd)))))]) (fun ⟨k, s⟩ wx => Ch [] w wx ∧ k ≤ wd.length ∧ s = runP pL pfirst pF wd k ∧ Ls ics 1 wx w.heap.size (.slice _A_pL pL.length _C_pL) pL ∧ Ls ics 1 wx w.heap.size (.slice _A_pF pF.length _C_pF) pF ∧ Ls ics 1 wx w.heap.size (.slice _A_wd wd.length _C_wd) wd ∧ Blk wx _b2 49 [(.slice _A_pL pL.length _C_pL), (.int .i64 pfirst), (.int .i64 plast), (.slice _A_pF pF.length _C_pF), (.bool pnull)]) (fun ⟨k, s⟩ => wd.length - k) (0, 1) (Sub.cons rfl (Sub.cons rfl (Sub.cons rfl (Sub.cons rfl (Sub.cons rfl (Sub.cons rfl (Sub.cons rfl (Sub.cons rfl (Sub.cons rfl (Sub.cons rfl (Sub.cons rfl (Sub.cons rfl (Sub.cons rfl (Sub.cons rfl (Sub.nil _))))))))))))))) ⟨E, (by omega), rfl, _f_15, _f_16, _f_17, _f_18⟩ ?_
      rintro ⟨k, s⟩ _wr_19 ⟨E, _hk, hs, _F0_0, _F0_1, _F0_2, _F0_3⟩
      have _E0h := E
      have _E0hz := _E0h.size
      have _F0_3z := _F0_3.lt
      refine W_seq fun _K_20 _hK_20 => ?_
      refine W_seq fun _K_21 _hK_21 => ?_
      refine W_region ?_
      refine WL_step rfl rfl (r_move rfl) ?_
      refine WL_step rfl rfl (r_move rfl) ?_
      refine WL_step rfl rfl (r_len (by rw [el35]; rfl) rfl) ?_
      refine WL_step rfl rfl (r_lss rfl rfl) ?_
      refine WL_nil ?_
      refine thn_nrm (_hK_21 _ _ ?_)
      clear _hK_21
      refine W_cond rfl (fun _h18 => ?_) (fun _h18 => ?_)
      · have _h18 := bt_d _h18
        refine W_skip ?_
        refine thn_nrm (_hK_20 _ _ ?_)
        clear _hK_20
        refine W_seq fun _K_22 _hK_22 => ?_
        refine W_block ?_
        refine W_drawC [] 8 mixed rfl fun _w_23 _cw_23 => ?_
        have _cw_23z := _cw_23.size
        have E := E.trans _cw_23
        have _f_24 := (_F0_3.ch0 _cw_23)
        refine DR_s 0 rfl (by kernel_rfl) rfl rfl (t_loadAtA0 _f_24.at_ (fun i hi => by first | exact absurd hi (List.not_mem_nil) | (have _h1 := List.mem_singleton.1 hi; omega)) agg49 sz49 rfl ?_)
        refine DR_s 1 rfl (by kernel_rfl) rfl rfl (t_v (fun _ => (r_move rfl)) ?_)
        refine DR_s 2 rfl (by kernel_rfl) rfl rfl (t_v (fun _ => (r_move rfl)) ?_)
        refine DR_s 3 rfl (by kernel_rfl) rfl rfl (t_v (fun _ => (r_move rfl)) ?_)
        have _f_25 := (_F0_2.ch0 _cw_23)
        refine DR_s 4 rfl (by kernel_rfl) rfl rfl (t_index _f_25 ics_len el35 sz3 rfl rfl rfl (by omega) fun _p25 _y25 _hy25 _a25 => ?_)
        refine DR_s 5 rfl (by kernel_rfl) rfl rfl (t_loadAt0 _a25 (fun i hi => by first | exact absurd hi (List.not_mem_nil) | (have _h1 := List.mem_singleton.1 hi; omega)) agg3 rfl rfl ?_)
        refine DR_one 6 (by kernel_rfl) ?_
        refine DO_s rfl rfl rfl ?_
        have _f_26 := (_F0_0.ch0 _cw_23)
        have _f_27 := (_F0_1.ch0 _cw_23)
        refine Step.call (r_call (xs := [.tmp 21, .tmp 22, .tmp 26]) fk90 rfl) (c_spec_l10After _f_26 _ _ _f_27 _ _ _ _h10.2.1 _h10.1) fun _v27 _w_28 _q27 => ?_
        obtain ⟨rfl, _cw_28⟩ := _q27
        have _cw_28z := _cw_28.size
        have E := E.trans _cw_28
        have _S_29 : Ch [] _w_23 _w_28 := ((Ch.refl _ _).trans _cw_28.of_nil)
        refine ⟨_S_29, ?_⟩
        refine DR_s 7 rfl (by kernel_rfl) rfl rfl (t_v (fun _ => (r_assign rfl)) ?_)
        refine DR_done (by kernel_rfl) ?_
        refine inB_nrm ?_
        refine thn_nrm (_hK_22 _ _ ?_)
        clear _hK_22
        refine W_region ?_
        refine WL_step rfl rfl (r_move rfl) ?_
        refine WL_step rfl rfl (r_add (by omega) rfl rfl) ?_
        refine WL_step rfl rfl (r_assign rfl) ?_
        refine WL_nil ?_
        have _f_30 := (_f_26.ch0 _cw_28)
        have _f_31 := (_f_27.ch0 _cw_28)
        have _f_32 := (_f_25.ch0 _cw_28)
        have _f_33 := (_f_24.ch0 _cw_28)
        exact thn_nrm (Exists.intro ((k + 1), afterP pL pfirst pF s _y25) ⟨⟨E, (by omega), (run_step hs _hy25), _f_30, _f_31, _f_32, _f_33⟩, Sub.cons rfl (Sub.cons rfl (Sub.cons rfl (Sub.cons rfl (Sub.cons rfl (Sub.cons rfl (Sub.cons rfl (Sub.cons rfl (Sub.cons rfl (Sub.cons rfl (Sub.cons rfl (Sub.cons rfl (Sub.cons rfl (Sub.cons rfl (Sub.nil _)))))))))))))), (by first | omega | (dsimp only; omega))⟩)
      · have _h18 := bf_d _h18
        refine W_exit (thn_exit (thn_exit (inB_hit ?_)))
        refine thn_nrm (_hK_13 _ _ ?_)
        clear _hK_13
        refine W_seq fun _K_34 _hK_34 => ?_
        refine W_region ?_
        refine WL_step rfl rfl (r_loadAtA0 _F0_3.at_ agg49 sz49 rfl) ?_
        refine WL_step rfl rfl (r_move rfl) ?_
        refine WL_s rfl rfl ?_
        refine Step.call (r_call (xs := [.tmp 28, .tmp 29]) fk91 rfl) (c_spec_l10Accepts _F0_0 _ _ _F0_1 _ _ ) fun _v30 _w_35 _q30 => ?_
        obtain ⟨rfl, _cw_35⟩ := _q30
        have _cw_35z := _cw_35.size
        have E := E.trans _cw_35
        refine WL_step rfl rfl (r_assign rfl) ?_
        refine WL_nil ?_
        refine thn_nrm (_hK_34 _ _ ?_)
        clear _hK_34
        refine W_ret ?_
        clear _hK_20
        exact ret_intro [_] ⟨rfl, trivial⟩ ⟨congrArg Value.bool (by first | exact tt_false (fun e => _h10 e.1.1) | exact tt_false (fun e => _h14 e.1.2) | (rw [hs, show k = wd.length by omega]; cases hb : accB plast pnull (runP pL pfirst pF wd wd.length) <;> first | exact tt_true ⟨⟨_h10, _h14⟩, rfl⟩ | exact tt_false (fun e => by cases e.2))), E⟩

/-- laws.FnExactPositionsMatch -/
theorem c_laws_FnExactPositionsMatch {w : World} {_B_pL : Nat} {_v_pL : Value} {pL : List Int} (_h_pL : Ls ics 1 w _B_pL _v_pL pL) (pfirst : Int) (plast : Int) {_B_pF : Nat} {_v_pF : Value} {pF : List Int} (_h_pF : Ls ics 1 w _B_pF _v_pF pF) (pnull : Bool) {_B_wd : Nat} {_v_wd : Value} {wd : List Int} (_h_wd : Ls ics 1 w _B_wd _v_wd wd) :
    Ctr Try.prog 13 #[(.agg #[_v_pL, (.int .i64 pfirst), (.int .i64 plast), _v_pF, (.bool pnull)]), _v_wd] w (fun v w' => v = .bool (true) ∧ Ch [] w w') := by
  obtain ⟨_A_pL, _C_pL, _e1_pL⟩ := _h_pL.val
  subst _e1_pL
  have _l_pL := _h_pL.len
  have _h_pL := _h_pL.here (by decide)
  obtain ⟨_A_pF, _C_pF, _e1_pF⟩ := _h_pF.val
  subst _e1_pF
  have _l_pF := _h_pF.len
  have _h_pF := _h_pF.here (by decide)
  obtain ⟨_A_wd, _C_wd, _e1_wd⟩ := _h_wd.val
  subst _e1_wd
  have _l_wd := _h_wd.len
  have _h_wd := _h_wd.here (by decide)
  have E := Ch.refl [] w
  refine Ctr_of_W (N := 43) (vs0 := [(.agg #[(.slice _A_pL pL.length _C_pL), (.int .i64 pfirst), (.int .i64 plast), (.slice _A_pF pF.length _C_pF), (.bool pnull)]), (.slice _A_wd wd.length _C_wd)]) Try.func13 rfl rfl rfl ?_
  refine W_seq fun _K_1 _hK_1 => ?_
  refine W_region ?_
  refine WL_s rfl rfl ?_
  refine s_box rfl fun _b2 _w_2 _m2 _cw_2 _e2 => ?_
  have _cw_2z := _cw_2.size
  have E := E.trans _cw_2
  have _z2 := _m2.lt
  replace _m2 : Blk _w_2 _b2 46 [(.slice _A_pL pL.length _C_pL), (.int .i64 pfirst), (.int .i64 plast), (.slice _A_pF pF.length _C_pF), (.bool pnull)] := _m2
  refine WL_step rfl rfl (r_assign rfl) ?_
  refine WL_nil ?_
  refine thn_nrm (_hK_1 _ _ ?_)
  clear _hK_1
  refine W_seq fun _K_3 _hK_3 => ?_
  refine W_seq fun _K_4 _hK_4 => ?_
  refine W_region ?_
  refine WL_step rfl rfl (r_move rfl) ?_
  refine WL_step rfl rfl (r_len (by rw [el35]; rfl) rfl) ?_
  refine WL_step rfl rfl (r_gtr rfl rfl) ?_
  refine WL_nil ?_
  refine thn_nrm (_hK_4 _ _ ?_)
  clear _hK_4
  refine W_cond rfl (fun _h12 => ?_) (fun _h12 => ?_)
  · have _h12 := bt_d _h12
    refine W_seq fun _K_5 _hK_5 => ?_
    refine W_region ?_
    refine WL_step rfl rfl (r_assign rfl) ?_
    refine WL_nil ?_
    refine thn_nrm (_hK_5 _ _ ?_)
    clear _hK_5
    refine W_ret (thn_ret ?_)
    clear _hK_3
    exact ret_intro [_] ⟨rfl, trivial⟩ ⟨congrArg Value.bool (by first | rfl | (exfalso; exact absurd _h12 (by simp)) | (exfalso; omega) | (exfalso; revert _h12; simp <;> omega)), E⟩
  · have _h12 := bf_d _h12
    refine W_skip ?_
    refine thn_nrm (_hK_3 _ _ ?_)
    clear _hK_3
    refine W_seq fun _K_6 _hK_6 => ?_
    refine W_region ?_
    refine WL_step rfl rfl (r_assign rfl) ?_
    refine WL_nil ?_
    refine thn_nrm (_hK_6 _ _ ?_)
    clear _hK_6
    refine W_seq fun _K_7 _hK_7 => ?_
    refine W_region ?_
    refine WL_step rfl rfl (r_loadAtA0 _m2.at_ agg46 sz46 rfl) ?_
    refine WL_step rfl rfl (r_move rfl) ?_
    refine WL_s rfl rfl ?_
    have _f_8 := (_h_pL.ch0 _cw_2)
    have _f_9 := (_h_pF.ch0 _cw_2)
    refine Step.call (r_call (xs := [.tmp 13, .tmp 14]) fk43 rfl) (c_laws_szPositions _f_8 _ _ _f_9 _ _ (by omega) (by omega)) fun _v15 _w_10 _q15 => ?_
    obtain ⟨rfl, _cw_10⟩ := _q15
    have _cw_10z := _cw_10.size
    have E := E.trans _cw_10
    refine WL_step rfl rfl (r_assign rfl) ?_
    refine WL_nil ?_
    refine thn_nrm (_hK_7 _ _ ?_)
    clear _hK_7
    refine W_seq fun _K_11 _hK_11 => ?_
    refine W_seq fun _K_12 _hK_12 => ?_
    refine W_region ?_
    refine WL_step rfl rfl (r_move rfl) ?_
    refine WL_step rfl rfl (r_lss rfl rfl) ?_
    refine WL_nil ?_
    refine thn_nrm (_hK_12 _ _ ?_)
    clear _hK_12
    refine W_cond rfl (fun _h17 => ?_) (fun _h17 => ?_)
    · have _h17 := bt_d _h17
      refine W_seq fun _K_13 _hK_13 => ?_
      refine W_region ?_
      refine WL_step rfl rfl (r_assign rfl) ?_
      refine WL_nil ?_
      refine thn_nrm (_hK_13 _ _ ?_)
      clear _hK_13
      refine W_ret (thn_ret ?_)
      clear _hK_11
      exact ret_intro [_] ⟨rfl, trivial⟩ ⟨congrArg Value.bool (by first | rfl | (exfalso; exact absurd _h17 (by simp)) | (exfalso; omega) | (exfalso; revert _h17; simp <;> omega)), E⟩
    · have _h17 := bf_d _h17
      refine W_skip ?_
      refine thn_nrm (_hK_11 _ _ ?_)
      clear _hK_11
      refine W_seq fun _K_14 _hK_14 => ?_
      refine W_region ?_
      have _f_15 := (_m2.ch0 _cw_10)
      refine WL_step rfl rfl (r_loadAtA0 _f_15.at_ agg46 sz46 rfl) ?_
      refine WL_s rfl rfl ?_
      have _f_16 := (_f_8.ch0 _cw_10)
      have _f_17 := (_f_9.ch0 _cw_10)
      refine Step.call (r_call (xs := [.tmp 18]) fk45 rfl) (c_laws_toPositions _f_16 _ _ _f_17 _ (by omega)) fun _v19 _w_18 _q19 => ?_
      obtain ⟨_u19, _t19, rfl, _q19, _lo19, _q219, _lo219, _cw_18⟩ := _q19
      have _cw_18z := _cw_18.size
      have E := E.trans _cw_18
      obtain ⟨_Au19, _Cu19, _eu19⟩ := _q19.val
      subst _eu19
      have _lu19 := _q19.len
      have _hiu19 := _q19.lt
      obtain ⟨_At19, _Ct19, _et19⟩ := _q219.val
      subst _et19
      have _lt19 := _q219.len
      have _hit19 := _q219.lt
      refine WL_step rfl rfl (r_move rfl) ?_
      refine WL_s rfl rfl ?_
      have _f_19 := (((_h_wd.ch0 _cw_2).ch0 _cw_10).ch0 _cw_18)
      refine Step.call (r_call (xs := [.tmp 20]) fk25 rfl) (c_laws_toIntS _f_19 (by omega)) fun _v21 _w_20 _q21 => ?_
      obtain ⟨_q21, _lo21, _cw_20⟩ := _q21
      have _cw_20z := _cw_20.size
      have E := E.trans _cw_20
      obtain ⟨_Av21, _Cv21, _ev21⟩ := _q21.val
      subst _ev21
      have _lv21 := _q21.len
      have _hiv21 := _q21.lt
      refine WL_s rfl rfl ?_
      have _f_21 := (_q19.ch0 _cw_20)
      have _f_22 := (_q219.ch0 _cw_20)
      refine Step.call (r_call (xs := [.tmp 19, .tmp 21]) fk44 rfl) (c_spec_PositionsMatch _f_21.ls _ _ _f_22.ls _ _q21.ls ) fun _v22 _w_23 _q22 => ?_
      obtain ⟨rfl, _cw_23⟩ := _q22
      have _cw_23z := _cw_23.size
      have E := E.trans _cw_23
      refine WL_step rfl rfl (r_assign rfl) ?_
      refine WL_nil ?_
      refine thn_nrm (_hK_14 _ _ ?_)
      clear _hK_14
      refine W_seq fun _K_24 _hK_24 => ?_
      refine W_region ?_
      have _f_25 := (((_f_15.ch0 _cw_18).ch0 _cw_20).ch0 _cw_23)
      refine WL_step rfl rfl (r_loadAtA0 _f_25.at_ agg46 sz46 rfl) ?_
      refine WL_s rfl rfl ?_
      have _f_26 := (((_f_16.ch0 _cw_18).ch0 _cw_20).ch0 _cw_23)
      have _f_27 := (((_f_17.ch0 _cw_18).ch0 _cw_20).ch0 _cw_23)
      refine Step.call (r_call (xs := [.tmp 23]) fk45 rfl) (c_laws_toPositions _f_26 _ _ _f_27 _ (by omega)) fun _v24 _w_28 _q24 => ?_
      obtain ⟨_u24, _t24, rfl, _q24, _lo24, _q224, _lo224, _cw_28⟩ := _q24
      have _cw_28z := _cw_28.size
      have E := E.trans _cw_28
      obtain ⟨_Au24, _Cu24, _eu24⟩ := _q24.val
      subst _eu24
      have _lu24 := _q24.len
      have _hiu24 := _q24.lt
      obtain ⟨_At24, _Ct24, _et24⟩ := _q224.val
      subst _et24
      have _lt24 := _q224.len
      have _hit24 := _q224.lt
      refine WL_s rfl rfl ?_
      refine s_alloc zr49 fun _b7 _w_29 _m7 _cw_29 _e7 => ?_
      have _cw_29z := _cw_29.size
      have E := E.trans _cw_29
      have _z7 := _m7.lt
      replace _m7 : Blk _w_29 _b7 49 [(.slice none 0 0), (.int .i64 0), (.int .i64 0), (.slice none 0 0), (.bool false)] := _m7
      refine WL_s rfl rfl ?_
      refine s_storeA (off := 0) 5 _m7 sz49 rfl (us := [(.slice _Au24 (pL).length _Cu24), (.int .i64 pfirst), (.int .i64 plast), (.slice _At24 (pF).length _Ct24), (.bool pnull)]) rfl rfl rfl rfl fun _w_30 _m_31 _cw_30 => ?_
      have _cw_30z := _cw_30.size
      have E := E.step _cw_30 (fun i hi => .inl (by have _h1 := List.mem_singleton.1 hi; omega))
      replace _m_31 : Blk _w_30 _b7 49 [(.slice _Au24 (pL).length _Cu24), (.int .i64 pfirst), (.int .i64 plast), (.slice _At24 (pF).length _Ct24), (.bool pnull)] := _m_31
      refine WL_nil ?_
      refine thn_nrm (_hK_24 _ _ ?_)
      clear _hK_24
      refine W_seq fun _K_32 _hK_32 => ?_
      refine W_region ?_
      refine WL_step rfl rfl (r_move rfl) ?_
      refine WL_s rfl rfl ?_
      have _f_33 := (((((_f_19.ch0 _cw_20).ch0 _cw_23).ch0 _cw_28).ch0 _cw_29).ch _cw_30 (fun i hi => by have _h1 := List.mem_singleton.1 hi; omega))
      refine Step.call (r_call (xs := [.tmp 25]) fk25 rfl) (c_laws_toIntS _f_33 (by omega)) fun _v26 _w_34 _q26 => ?_
      obtain ⟨_q26, _lo26, _cw_34⟩ := _q26
      have _cw_34z := _cw_34.size
      have E := E.trans _cw_34
      obtain ⟨_Av26, _Cv26, _ev26⟩ := _q26.val
      subst _ev26
      have _lv26 := _q26.len
      have _hiv26 := _q26.lt
      refine WL_step rfl rfl (r_assign rfl) ?_
      refine WL_nil ?_
      refine thn_nrm (_hK_32 _ _ ?_)
      clear _hK_32
      refine W_seq fun _K_35 _hK_35 => ?_
      refine W_region ?_
      have _f_36 := (_m_31.ch0 _cw_34)
      refine WL_step rfl rfl (r_loadAtA0 _f_36.at_ agg49 sz49 rfl) ?_
      refine WL_step rfl rfl (r_move rfl) ?_
      refine WL_s rfl rfl ?_
      have _f_37 := (((_q24.ch0 _cw_29).ch _cw_30 (fun g hg hm => by have _h1 := List.mem_singleton.1 hm; have _h2 := _lo24 g hg; have _h3 := _hiu24 g hg; omega)).ch0 _cw_34)
      have _f_38 := (((_q224.ch0 _cw_29).ch _cw_30 (fun g hg hm => by have _h1 := List.mem_singleton.1 hm; have _h2 := _lo224 g hg; have _h3 := _hit24 g hg; omega)).ch0 _cw_34)
      refine Step.call (r_call (xs := [.tmp 27, .tmp 28]) fk46 rfl) (c_impl_PositionsMatch _f_37.ls _ _ _f_38.ls _ _q26.ls ) fun _v29 _w_39 _q29 => ?_
      obtain ⟨rfl, _cw_39⟩ := _q29
      have _cw_39z := _cw_39.size
      have E := E.trans _cw_39
      refine WL_step rfl rfl (r_assign rfl) ?_
      refine WL_nil ?_
      refine thn_nrm (_hK_35 _ _ ?_)
      clear _hK_35
      refine W_seq fun _K_40 _hK_40 => ?_
      refine W_seq fun _K_41 _hK_41 => ?_
      refine W_region ?_
      refine WL_step rfl rfl (r_move rfl) ?_
      refine WL_step rfl rfl (r_move rfl) ?_
      refine WL_step rfl rfl (r_neqB un4 rfl rfl) ?_
      refine WL_nil ?_
      refine thn_nrm (_hK_41 _ _ ?_)
      clear _hK_41
      refine W_cond rfl (fun _h32 => ?_) (fun _h32 => ?_)
      · have _h32 := bf_e (bt_n _h32)
        refine W_seq fun _K_42 _hK_42 => ?_
        refine W_region ?_
        refine WL_step rfl rfl (r_assign rfl) ?_
        refine WL_nil ?_
        refine thn_nrm (_hK_42 _ _ ?_)
        clear _hK_42
        refine W_ret (thn_ret ?_)
        clear _hK_40
        exact ret_intro [_] ⟨rfl, trivial⟩ ⟨congrArg Value.bool (by first | rfl | (exfalso; exact absurd _h32 (by simp)) | (exfalso; omega) | (exfalso; revert _h32; simp <;> omega)), E⟩
      · have _h32 := bt_e (bf_n _h32)
        refine W_skip ?_
        refine thn_nrm (_hK_40 _ _ ?_)
        clear _hK_40
        refine W_seq fun _K_43 _hK_43 => ?_
        refine W_seq fun _K_44 _hK_44 => ?_
        refine W_drawC [] 5 mixed rfl fun _w_45 _cw_45 => ?_
        have _cw_45z := _cw_45.size
        have E := E.trans _cw_45
        have _f_46 := ((_f_36.ch0 _cw_39).ch0 _cw_45)
        refine DR_s 0 rfl (by kernel_rfl) rfl rfl (t_loadAtA0 _f_46.at_ (fun i hi => by first | exact absurd hi (List.not_mem_nil) | (have _h1 := List.mem_singleton.1 hi; omega)) agg49 sz49 rfl ?_)
        have _f_47 := ((((((_f_25.ch0 _cw_28).ch0 _cw_29).ch _cw_30 (fun hm => by have _h1 := List.mem_singleton.1 hm; omega)).ch0 _cw_34).ch0 _cw_39).ch0 _cw_45)
        refine DR_s 1 rfl (by kernel_rfl) rfl rfl (t_loadAtA0 _f_47.at_ (fun i hi => by first | exact absurd hi (List.not_mem_nil) | (have _h1 := List.mem_singleton.1 hi; omega)) agg46 sz46 rfl ?_)
        refine DR_one 2 (by kernel_rfl) ?_
        refine DO_s rfl rfl rfl ?_
        have _f_48 := ((((((_f_26.ch0 _cw_28).ch0 _cw_29).ch _cw_30 (fun i hi => by have _h1 := List.mem_singleton.1 hi; omega)).ch0 _cw_34).ch0 _cw_39).ch0 _cw_45)
        have _f_49 := ((((((_f_27.ch0 _cw_28).ch0 _cw_29).ch _cw_30 (fun i hi => by have _h1 := List.mem_singleton.1 hi; omega)).ch0 _cw_34).ch0 _cw_39).ch0 _cw_45)
        refine Step.call (r_call (xs := [.tmp 34]) fk45 rfl) (c_laws_toPositions _f_48 _ _ _f_49 _ (by omega)) fun _v35 _w_50 _q35 => ?_
        obtain ⟨_u35, _t35, rfl, _q35, _lo35, _q235, _lo235, _cw_50⟩ := _q35
        have _cw_50z := _cw_50.size
        have E := E.trans _cw_50
        obtain ⟨_Au35, _Cu35, _eu35⟩ := _q35.val
        subst _eu35
        have _lu35 := _q35.len
        have _hiu35 := _q35.lt
        obtain ⟨_At35, _Ct35, _et35⟩ := _q235.val
        subst _et35
        have _lt35 := _q235.len
        have _hit35 := _q235.lt
        have _S_51 : Ch [] _w_45 _w_50 := ((Ch.refl _ _).trans _cw_50.of_nil)
        refine ⟨_S_51, ?_⟩
        refine DR_one 3 (by kernel_rfl) ?_
        refine DO_s rfl rfl rfl ?_
        have _f_52 := (((_f_37.ch0 _cw_39).ch0 _cw_45).ch0 _cw_50)
        have _f_53 := (((_f_38.ch0 _cw_39).ch0 _cw_45).ch0 _cw_50)
        refine Step.call (r_call (xs := [.tmp 33, .tmp 35]) fk47 rfl) (c_laws_eqPositions _f_52.ls _ _ _f_53.ls _ _q35.ls _ _ _q235.ls _ ) fun _v36 _w_54 _q36 => ?_
        obtain ⟨rfl, _cw_54⟩ := _q36
        have _cw_54z := _cw_54.size
        have E := E.trans _cw_54
        have _S_55 : Ch [] _w_45 _w_54 := (_S_51.trans _cw_54.of_nil)
        refine ⟨_S_55, ?_⟩
        refine DR_s 4 rfl (by kernel_rfl) rfl rfl (t_v (fun _ => (r_not rfl)) ?_)
        refine DR_done (by kernel_rfl) ?_
        refine thn_nrm (_hK_44 _ _ ?_)
        clear _hK_44
        refine W_cond rfl (fun _h37 => ?_) (fun _h37 => ?_)
        · have _h37 := bf_t (bt_n _h37)
          refine W_seq fun _K_56 _hK_56 => ?_
          refine W_region ?_
          refine WL_step rfl rfl (r_assign rfl) ?_
          refine WL_nil ?_
          refine thn_nrm (_hK_56 _ _ ?_)
          clear _hK_56
          refine W_ret (thn_ret ?_)
          clear _hK_43
          exact ret_intro [_] ⟨rfl, trivial⟩ ⟨congrArg Value.bool (by first | rfl | (exfalso; exact absurd _h37 (by simp)) | (exfalso; omega) | (exfalso; revert _h37; simp <;> omega)), E⟩
        · have _h37 := bt_t (bf_n _h37)
          refine W_skip ?_
          refine thn_nrm (_hK_43 _ _ ?_)
          clear _hK_43
          refine W_seq fun _K_57 _hK_57 => ?_
          refine W_seq fun _K_58 _hK_58 => ?_
          refine W_region ?_
          refine WL_step rfl rfl (r_move rfl) ?_
          refine WL_step rfl rfl (r_move rfl) ?_
          refine WL_s rfl rfl ?_
          have _f_59 := (((((_f_33.ch0 _cw_34).ch0 _cw_39).ch0 _cw_45).ch0 _cw_50).ch0 _cw_54)
          refine Step.call (r_call (xs := [.tmp 39]) fk25 rfl) (c_laws_toIntS _f_59 (by omega)) fun _v40 _w_60 _q40 => ?_
          obtain ⟨_q40, _lo40, _cw_60⟩ := _q40
          have _cw_60z := _cw_60.size
          have E := E.trans _cw_60
          obtain ⟨_Av40, _Cv40, _ev40⟩ := _q40.val
          subst _ev40
          have _lv40 := _q40.len
          have _hiv40 := _q40.lt
          refine WL_s rfl rfl ?_
          have _f_61 := (((((_q26.ch0 _cw_39).ch0 _cw_45).ch0 _cw_50).ch0 _cw_54).ch0 _cw_60)
          refine Step.call (r_call (xs := [.tmp 38, .tmp 40]) fk27 rfl) (c_laws_eqIntS _f_61.ls _q40.ls ) fun _v41 _w_62 _q41 => ?_
          obtain ⟨rfl, _cw_62⟩ := _q41
          have _cw_62z := _cw_62.size
          have E := E.trans _cw_62
          refine WL_step rfl rfl (r_not rfl) ?_
          refine WL_nil ?_
          refine thn_nrm (_hK_58 _ _ ?_)
          clear _hK_58
          refine W_cond rfl (fun _h42 => ?_) (fun _h42 => ?_)
          · have _h42 := bf_d (bt_n _h42)
            refine W_seq fun _K_63 _hK_63 => ?_
            refine W_region ?_
            refine WL_step rfl rfl (r_assign rfl) ?_
            refine WL_nil ?_
            refine thn_nrm (_hK_63 _ _ ?_)
            clear _hK_63
            refine W_ret (thn_ret ?_)
            clear _hK_57
            exact ret_intro [_] ⟨rfl, trivial⟩ ⟨congrArg Value.bool (by first | rfl | (exfalso; exact absurd _h42 (by simp)) | (exfalso; omega) | (exfalso; revert _h42; simp <;> omega)), E⟩
          · have _h42 := bt_d (bf_n _h42)
            refine W_skip ?_
            refine thn_nrm (_hK_57 _ _ ?_)
            clear _hK_57
            refine W_seq fun _K_64 _hK_64 => ?_
            refine W_region ?_
            refine WL_step rfl rfl (r_assign rfl) ?_
            refine WL_nil ?_
            refine thn_nrm (_hK_64 _ _ ?_)
            clear _hK_64
            refine W_ret ?_
            exact ret_intro [_] ⟨rfl, trivial⟩ ⟨congrArg Value.bool (by first | rfl | (exfalso; exact absurd _h42 (by simp)) | (exfalso; omega) | (exfalso; revert _h42; simp <;> omega)), E⟩

end Go.Proofs.Ytdhadlkeogoiiaa
