/- Walks of functions that FnExactShortestAccepted reaches: what each returns, and that it leaves the memory that was there alone. -/
import Derived.Test.YtliecidadhlieaaKF
import Derived.Test.YtliecidadhlieaaKG
import Derived.Test.YtliecidadhlieaaKH
import Derived.Test.YtliecidadhlieaaKI
import Derived.Test.YtliecidadhlieaaKJ
import Derived.Test.YtliecidadhlieaaKM
import Derived.Test.YtliecidadhlieaaKN
import Derived.Test.YtliecidadhlieaaKO
import Derived.Test.YtliecidadhlieaaKP
import Derived.Test.YtliecidadhlieaaKQ
import Derived.Test.YtliecidadhlieaaKR
import Derived.Test.YtliecidadhlieaaKS
import Derived.Test.YtliecidadhlieaaKT
import Derived.Test.YtliecidadhlieaaKU
import Derived.Test.YtliecidadhlieaaKV
import Derived.Test.YtliecidadhlieaaKX
import Derived.Test.YtliecidadhlieaaKY
import Derived.Test.YtliecidadhlieaaKZ
import Derived.Test.YtliecidadhlieaaJA
import Derived.Test.YtliecidadhlieaaJB
import Derived.Test.YtliecidadhlieaaJC
import Derived.Test.YtliecidadhlieaaJD
import Derived.Test.YtliecidadhlieaaJE
import Derived.Test.YtliecidadhlieaaJF
import Derived.Test.YtliecidadhlieaaJG
import Derived.Test.YtliecidadhlieaaJH
import Derived.Test.YtliecidadhlieaaJI
import Derived.Test.YtliecidadhlieaaJK
import Derived.Test.YtliecidadhlieaaJM
import Derived.Test.YtliecidadhlieaaJN
import Derived.Test.YtliecidadhlieaaJO
import Derived.Test.YtliecidadhlieaaJP
import Derived.Test.YtliecidadhlieaaJQ
import Derived.Test.YtliecidadhlieaaJR
import Derived.Test.YtliecidadhlieaaJS
import Derived.Test.YtliecidadhlieaaJT
import Derived.Test.YtliecidadhlieaaJU
import Derived.Test.YtliecidadhlieaaWExactMissingWord
import Derived.Test.YtliecidadhlieaaWExactMissingWordb
import Derived.Test.YtliecidadhlieaaProg
namespace Go.Proofs.Ytliecidadhlieaa
open Go.KLib Go.Shelf
set_option maxRecDepth 20000
set_option linter.unusedVariables false
set_option linter.unusedSimpArgs false
namespace TExactShortestAccepted
theorem agg25 : aggB Try.prog 25 = some true := by kernel_rfl
theorem agg28 : aggB Try.prog 28 = some true := by kernel_rfl
theorem agg3 : aggB Try.prog 3 = some false := by kernel_rfl
theorem agg31 : aggB Try.prog 31 = some false := by kernel_rfl
theorem agg80 : aggB Try.prog 80 = some true := by kernel_rfl
theorem by3 : bytesB Try.prog 3 = some 8 := by kernel_rfl
theorem by80 : bytesB Try.prog 80 = some 32 := by kernel_rfl
theorem el22 : elB Try.prog 22 = some 4 := by kernel_rfl
theorem el23 : elB Try.prog 23 = some 31 := by kernel_rfl
theorem el31 : elB Try.prog 31 = some 3 := by kernel_rfl
theorem el81 : elB Try.prog 81 = some 80 := by kernel_rfl
theorem fa28_0 : faB Try.prog 28 0 = some 0 := by kernel_rfl
theorem fa80_0 : faB Try.prog 80 0 = some 0 := by kernel_rfl
theorem fa80_1 : faB Try.prog 80 1 = some 1 := by kernel_rfl
theorem fk11 : fnB Try.prog 11 = true := by kernel_rfl
theorem fk13 : fnB Try.prog 13 = true := by kernel_rfl
theorem fk16 : fnB Try.prog 16 = true := by kernel_rfl
theorem fk18 : fnB Try.prog 18 = true := by kernel_rfl
theorem fk19 : fnB Try.prog 19 = true := by kernel_rfl
theorem fk20 : fnB Try.prog 20 = true := by kernel_rfl
theorem fk21 : fnB Try.prog 21 = true := by kernel_rfl
theorem fk24 : fnB Try.prog 24 = true := by kernel_rfl
theorem fk25 : fnB Try.prog 25 = true := by kernel_rfl
theorem fk33 : fnB Try.prog 33 = true := by kernel_rfl
theorem fk40 : fnB Try.prog 40 = true := by kernel_rfl
theorem fk46 : fnB Try.prog 46 = true := by kernel_rfl
theorem fk47 : fnB Try.prog 47 = true := by kernel_rfl
theorem fk48 : fnB Try.prog 48 = true := by kernel_rfl
theorem fk65 : fnB Try.prog 65 = true := by kernel_rfl
theorem fk9 : fnB Try.prog 9 = true := by kernel_rfl
theorem mixed : Try.prog.follows .mixedOrders = true := by kernel_rfl
theorem pl28 : placesB Try.prog 28 = some [(0, 1), (1, 1), (2, 1)] := by kernel_rfl
theorem pl80 : placesB Try.prog 80 = some [(0, 1), (1, 1)] := by kernel_rfl
theorem sz25 : sizeB Try.prog 25 = some 3 := by kernel_rfl
theorem sz28 : sizeB Try.prog 28 = some 3 := by kernel_rfl
theorem sz3 : sizeB Try.prog 3 = some 1 := by kernel_rfl
theorem sz31 : sizeB Try.prog 31 = some 1 := by kernel_rfl
theorem sz4 : sizeB Try.prog 4 = some 1 := by kernel_rfl
theorem sz80 : sizeB Try.prog 80 = some 2 := by kernel_rfl
theorem un3 : Try.prog.underlying 3 = some (.int .i64) := by kernel_rfl
theorem un4 : Try.prog.underlying 4 = some (.bool) := by kernel_rfl
theorem un78 : Try.prog.underlying 78 = some (.map 3 4) := by kernel_rfl
theorem zr28 : zeroB Try.prog 28 = some (.agg #[.int .i64 0, .slice none 0 0, .slice none 0 0]) := by kernel_rfl
theorem zr3 : zeroB Try.prog 3 = some (.int .i64 0) := by kernel_rfl
theorem zr31 : zeroB Try.prog 31 = some (.slice none 0 0) := by kernel_rfl
theorem zr4 : zeroB Try.prog 4 = some (.bool false) := by kernel_rfl
theorem zr80 : zeroB Try.prog 80 = some (.agg #[.int .i64 0, .slice none 0 0]) := by kernel_rfl
end TExactShortestAccepted
open TExactShortestAccepted

/-- impl.leastWord[int] -/
theorem c_impl_leastWord_int {w : World} (first : Int) (nextc0S : Int) {LL_nextc0A _B_nextc0A : Nat} {_v_nextc0A : Value} {nextc0A : List Bool} (_h_nextc0A : Ls bcs 1 w LL_nextc0A _B_nextc0A _v_nextc0A nextc0A) {LL_snextc0N _B_snextc0N : Nat} {_v_snextc0N : Value} {snextc0N : List Sv} (_h_snextc0N : Ls Sv.cs 1 w LL_snextc0N _B_snextc0N _v_snextc0N snextc0N) {LR_nextc0N BB_nextc0N : Nat} {nextc0N : List (List Int)} (_rd_nextc0N : Rd ics 1 w LR_nextc0N BB_nextc0N snextc0N nextc0N) (testc0S : Int) {LL_testc0A _B_testc0A : Nat} {_v_testc0A : Value} {testc0A : List Bool} (_h_testc0A : Ls bcs 1 w LL_testc0A _B_testc0A _v_testc0A testc0A) {LL_stestc0N _B_stestc0N : Nat} {_v_stestc0N : Value} {stestc0N : List Sv} (_h_stestc0N : Ls Sv.cs 1 w LL_stestc0N _B_stestc0N _v_stestc0N stestc0N) {LR_testc0N BB_testc0N : Nat} {testc0N : List (List Int)} (_rd_testc0N : Rd ics 1 w LR_testc0N BB_testc0N stestc0N testc0N) (hva : ValidA nextc0S nextc0A nextc0N) (hs : inA nextc0A first) (_e1 : nextc0A = testc0A) :
    Ctr Try.prog 47 #[(.int .i64 first), (.func (.func 48) #[(.agg #[(.int .i64 nextc0S), _v_nextc0A, _v_snextc0N])] #[]), (.func (.func 40) #[(.agg #[(.int .i64 testc0S), _v_testc0A, _v_stestc0N])] #[])] w (fun v w' => ∃ (_u0 : Value), v = .tuple #[_u0, .bool ((saF testc0A nextc0N first).2)] ∧ Ol ics 3 1 w' _u0 ((saF testc0A nextc0N first).1) ∧ Lo w.heap.size _u0 ∧ Ch [] w w') := by
  obtain ⟨_A_nextc0A, _C_nextc0A, _e1_nextc0A⟩ := _h_nextc0A.val
  subst _e1_nextc0A
  have _l_nextc0A := _h_nextc0A.len
  have _h_nextc0A := _h_nextc0A.here (by decide)
  obtain ⟨_A_snextc0N, _C_snextc0N, _e1_snextc0N⟩ := _h_snextc0N.val
  subst _e1_snextc0N
  have _l_snextc0N := _h_snextc0N.len
  have _h_snextc0N := _h_snextc0N.here (by decide)
  have _rd_nextc0N := _rd_nextc0N.here (by decide)
  have _rl_nextc0N := _rd_nextc0N.1
  obtain ⟨_A_testc0A, _C_testc0A, _e1_testc0A⟩ := _h_testc0A.val
  subst _e1_testc0A
  have _l_testc0A := _h_testc0A.len
  have _h_testc0A := _h_testc0A.here (by decide)
  obtain ⟨_A_stestc0N, _C_stestc0N, _e1_stestc0N⟩ := _h_stestc0N.val
  subst _e1_stestc0N
  have _l_stestc0N := _h_stestc0N.len
  have _h_stestc0N := _h_stestc0N.here (by decide)
  have _rd_testc0N := _rd_testc0N.here (by decide)
  have _rl_testc0N := _rd_testc0N.1
  have E := Ch.refl [] w
  have hin := inI_all hva hs; have hle := lenI hva hs; have hwl := wlenI nextc0N first; have el9 := congrArg List.length _e1
  refine Ctr_of_W (N := 60) (vs0 := [(.int .i64 first), (.func (.func 48) #[(.agg #[(.int .i64 nextc0S), (.slice _A_nextc0A nextc0A.length _C_nextc0A), (.slice _A_snextc0N snextc0N.length _C_snextc0N)])] #[]), (.func (.func 40) #[(.agg #[(.int .i64 testc0S), (.slice _A_testc0A testc0A.length _C_testc0A), (.slice _A_stestc0N stestc0N.length _C_stestc0N)])] #[])]) Try.func47 rfl rfl rfl ?_
  refine W_seq fun _K_1 _hK_1 => ?_
  refine W_region ?_
  refine WL_step rfl rfl (r_assign rfl) ?_
  refine WL_step rfl rfl (r_assign rfl) ?_
  refine WL_nil ?_
  refine thn_nrm (_hK_1 _ _ ?_)
  clear _hK_1
  refine W_seq fun _K_2 _hK_2 => ?_
  refine W_region ?_
  refine WL_s rfl rfl ?_
  refine s_makeMap kvI fun _b13 _w_3 _m13 _cw_3 _e13 => ?_
  have _cw_3z := _cw_3.size
  have E := E.trans _cw_3
  have _z13 := _m13.lt
  replace _m13 : Mp kvI _w_3 _b13 ([] : List Int) := _m13
  refine WL_step rfl rfl (r_move rfl) ?_
  refine WL_s rfl rfl ?_
  refine s_mapIns first un78 (keyT_int un3) _m13 rfl rfl rfl (by simp) fun _w_4 _m_5 _cw_4 => ?_
  have _cw_4z := _cw_4.size
  have E := E.step _cw_4 (fun i hi => .inl (by have _h1 := List.mem_singleton.1 hi; omega))
  replace _m_5 : Mp kvI _w_4 _b13 ([first]) := _m_5
  refine WL_step rfl rfl (r_move rfl) ?_
  refine WL_step rfl rfl (r_assign rfl) ?_
  refine WL_nil ?_
  refine thn_nrm (_hK_2 _ _ ?_)
  clear _hK_2
  refine W_seq fun _K_6 _hK_6 => ?_
  refine W_seq fun _K_7 _hK_7 => ?_
  refine W_region ?_
  refine WL_step rfl rfl (r_move rfl) ?_
  refine WL_step rfl rfl (r_build (parts := [(0, .tmp 16)]) (cells := [(.int .i64 first), (.slice none 0 0)]) zr80 pl80 rfl rfl) ?_
  refine WL_s rfl rfl ?_
  refine s_buildSlice (cs := Qi.cs) (parts := [(0, .tmp 17)]) (⟨0, ⟨none, 0, 0⟩⟩ : Qi) [(⟨first, (⟨none, 0, 0⟩ : Sv)⟩ : Qi)] el81 sz80 zr80 Qi.len (by decide) rfl rfl rfl (by decide) (by decide) rfl fun _v18 _w_8 _q18 _lo18 _cw_8 => ?_
  have _cw_8z := _cw_8.size
  have E := E.trans _cw_8
  obtain ⟨_Av18, _Cv18, _ev18⟩ := _q18.val
  subst _ev18
  have _lv18 := _q18.len
  have _hiv18 := _q18.lt
  refine WL_step rfl rfl (r_assign rfl) ?_
  refine WL_nil ?_
  refine thn_nrm (_hK_7 _ _ ?_)
  clear _hK_7
  refine W_block ?_
  have _oi_9 : Ol Qi.cs 80 2 _w_8 (.slice _Av18 ([(⟨first, (⟨none, 0, 0⟩ : Sv)⟩ : Qi)]).length _Cv18) ((zq (bE (nxI nextc0N) first 0) [(⟨none, 0, 0⟩ : Sv)]).drop 0) := by
    have hx := _q18
    exact hx
  have _f_11 := (_m_5.ch0 _cw_8)
  have _oi_10 : Mp kvI _w_8 _b13 ((bE (nxI nextc0N) first 0).map (·.1)) := by
    have hx := _f_11
    exact hx
  refine W_loop (σ := Nat × List Sv × Value) (fun ⟨k, V, kq⟩ => [(1, (.func (.func 48) #[(.agg #[(.int .i64 nextc0S), (.slice _A_nextc0A nextc0A.length _C_nextc0A), (.slice _A_snextc0N snextc0N.length _C_snextc0N)])] #[])), (2, (.func (.func 40) #[(.agg #[(.int .i64 testc0S), (.slice _A_testc0A testc0A.length _C_testc0A), (.slice _A_stestc0N stestc0N.length _C_stestc0N)])] #[])), (8, (.map (some _b13))), (9, kq)]) (fun ⟨k, V, kq⟩ wx => Ch [] w wx ∧ _w_8.heap.size ≤ wx.heap.size ∧ (k ≤ (bE (nxI nextc0N) first k).length) ∧ (V.length = (bE (nxI nextc0N) first k).length) ∧ (∀ j x, j < k → (bE (nxI nextc0N) first j)[j]? = some x → (accA testc0A) x.1 = false) ∧ Ol Qi.cs 80 2 wx kq ((zq (bE (nxI nextc0N) first k) V).drop k) ∧ Lo _w_4.heap.size kq ∧ Mp kvI wx _b13 ((bE (nxI nextc0N) first k).map (·.1)) ∧ Od ics 3 1 wx _w_8.heap.size wx.heap.size V ((bE (nxI nextc0N) first k).map (·.2)) ∧ (Sep kq V)) (fun ⟨k, V, kq⟩ => 170 - k) (0, [(⟨none, 0, 0⟩ : Sv)], (.slice _Av18 ([(⟨first, (⟨none, 0, 0⟩ : Sv)⟩ : Qi)]).length _Cv18)) (Sub.cons rfl (Sub.cons rfl (Sub.cons rfl (Sub.cons rfl (Sub.nil _))))) ⟨E, (Nat.le_refl _), (Nat.zero_le _), rfl, (fun _ _ h => absurd h (by omega)), _oi_9, _lo18, _oi_10, Od.one_nil, nil1Sep⟩ ?_
  rintro ⟨k, V, kq⟩ _wr_12 ⟨E, _zz0, _hk, hV, hf, _o0_9, _lo0_9, _m0_8, od, _spl0_9⟩
  have _E0h := E
  have _E0hz := _E0h.size
  have m0_8z := _m0_8.lt
  obtain ⟨Akq, Ckq, ekq⟩ := _o0_9.val
  subst ekq
  have lkq := _o0_9.len
  have hikq := _o0_9.lt
  have hlk := hle k
  have zl9 := zq_len hV
  have zd9 := List.length_drop (l := zq (bE (nxI nextc0N) first k) V) (i := k)
  refine W_seq fun _K_13 _hK_13 => ?_
  refine W_seq fun _K_14 _hK_14 => ?_
  refine W_region ?_
  refine WL_step rfl rfl (r_move rfl) ?_
  refine WL_step rfl rfl (r_len (by rw [el81]; rfl) rfl) ?_
  refine WL_step rfl rfl (r_gtr rfl rfl) ?_
  refine WL_nil ?_
  refine thn_nrm (_hK_14 _ _ ?_)
  clear _hK_14
  refine W_cond rfl (fun _h21 => ?_) (fun _h21 => ?_)
  · have _kb_15 := _h21
    have _h21 := bt_d _h21
    refine W_skip ?_
    refine thn_nrm (_hK_13 _ _ ?_)
    clear _hK_13
    refine W_seq fun _K_16 _hK_16 => ?_
    refine W_block ?_
    refine W_seq fun _K_17 _hK_17 => ?_
    refine W_region ?_
    refine WL_step rfl rfl (r_move rfl) ?_
    refine WL_s rfl rfl ?_
    refine (s_index (j := 0) _o0_9.ls Qi.len el81 sz80 rfl rfl rfl (by omega) fun _p25 _y25 _hy25 _a25 => ?_)
    obtain ⟨x25, _u25, _A25, _C25, he25, hs25, rfl, _fs25⟩ := zq_row _hy25 od
    have _l25 := _fs25.len
    replace _fs25 : Ls ics 1 _wr_12 0 _wr_12.heap.size (.slice _A25 _u25.length _C25) _u25 := _fs25
    have hi25 := hin k _ (mem_of_get he25)
    dsimp only at hi25
    refine WL_step rfl rfl (r_loadAtA0 _a25 agg80 sz80 rfl) ?_
    refine WL_s rfl rfl ?_
    refine s_alloc zr80 fun _b10 _w_18 _m10 _cw_18 _e10 => ?_
    have _cw_18z := _cw_18.size
    have E := E.trans _cw_18
    have _z10 := _m10.lt
    replace _m10 : Blk _w_18 _b10 80 [(.int .i64 0), (.slice none 0 0)] := _m10
    refine WL_s rfl rfl ?_
    refine s_storeA (off := 0) 2 _m10 sz80 rfl (us := [(.int .i64 x25), (.slice _A25 _u25.length _C25)]) rfl rfl rfl rfl fun _w_19 _m_20 _cw_19 => ?_
    have _cw_19z := _cw_19.size
    have E := E.step _cw_19 (fun i hi => .inl (by have _h1 := List.mem_singleton.1 hi; omega))
    replace _m_20 : Blk _w_19 _b10 80 [(.int .i64 x25), (.slice _A25 _u25.length _C25)] := _m_20
    refine WL_nil ?_
    refine thn_nrm (_hK_17 _ _ ?_)
    clear _hK_17
    refine W_seq fun _K_21 _hK_21 => ?_
    refine W_seq fun _K_22 _hK_22 => ?_
    refine W_region ?_
    refine WL_step rfl rfl (r_move rfl) ?_
    refine WL_step rfl rfl (r_fieldAddr fa80_0 rfl) ?_
    refine WL_step rfl rfl (r_loadAt _m_20.at_ agg3 rfl rfl) ?_
    refine WL_s rfl rfl ?_
    have _f_23 := (((_h_testc0A.ch0 _E0h).ch0 _cw_18).ch _cw_19 (fun i hi => by have _h1 := List.mem_singleton.1 hi; omega))
    have _f_24 := (((_rd_testc0N.ch0 _E0h).ch0 _cw_18).ch _cw_19 (fun i hi => by have _h1 := List.mem_singleton.1 hi; omega))
    have _f_25 := (((_h_stestc0N.ch0 _E0h).ch0 _cw_18).ch _cw_19 (fun i hi => by have _h1 := List.mem_singleton.1 hi; omega))
    refine Step.call (r_callV (xs := [.tmp 29]) (as' := [(.agg #[(.int .i64 testc0S), (.slice _A_testc0A testc0A.length _C_testc0A), (.slice _A_stestc0N stestc0N.length _C_stestc0N)]), (.int .i64 x25)]) fk40 rfl rfl rfl) (c_impl_Automaton_accepts _ _f_23 _f_25 _f_24 _ (by unfold inA at hi25; omega)) fun _v30 _w_26 _q30 => ?_
    obtain ⟨rfl, _cw_26⟩ := _q30
    have _cw_26z := _cw_26.size
    have E := E.trans _cw_26
    refine WL_nil ?_
    refine thn_nrm (_hK_22 _ _ ?_)
    clear _hK_22
    refine W_cond rfl (fun _h30 => ?_) (fun _h30 => ?_)
    · have _kb_27 := _h30
      refine W_seq fun _K_28 _hK_28 => ?_
      refine W_region ?_
      refine WL_step rfl rfl (r_fieldAddr fa80_1 rfl) ?_
      have _f_29 := (_m_20.ch0 _cw_26)
      refine WL_step rfl rfl (r_loadAt _f_29.at_ agg31 rfl rfl) ?_
      refine WL_s rfl rfl ?_
      have _f_30 := (((od.ch0 _cw_18).ch _cw_19 (fun i hi => by have _h1 := List.mem_singleton.1 hi; omega)).ch0 _cw_26)
      have _f_31 : _ := zq_word _f_30 hs25 he25
      refine Step.call (r_call (xs := [.tmp 32]) fk65 rfl) (c_impl_copyInts _f_31 (by have _z1 := hwl k _ (mem_of_get he25); dsimp only at _z1; omega)) fun _v33 _w_32 _q33 => ?_
      obtain ⟨_q33, _lo33, _cw_32⟩ := _q33
      have _cw_32z := _cw_32.size
      have E := E.trans _cw_32
      obtain ⟨_Av33, _Cv33, _ev33⟩ := _q33.val
      subst _ev33
      have _lv33 := _q33.len
      have _hiv33 := _q33.lt
      refine WL_step rfl rfl (r_assign rfl) ?_
      refine WL_step rfl rfl (r_assign rfl) ?_
      refine WL_nil ?_
      refine thn_nrm (_hK_28 _ _ ?_)
      clear _hK_28
      refine W_ret (thn_ret (inB_ret (thn_ret (thn_ret (inB_ret (thn_ret ?_))))))
      clear _hK_6 _hK_16 _hK_21
      have _o_33 : Ol ics 3 1 _w_32 (.slice _Av33 (_u25).length _Cv33) ((saF testc0A nextc0N first).1) := by
        have hx := _q33
        first | (rw [← sa_eq (bres_hit he25 _h30 hf)]; exact hx) | (rw [← sa_eq (bres_none (zq_no hV (by omega)) hf)]; simpa using hx)
      exact ret_intro [_, _] ⟨rfl, ⟨rfl, trivial⟩⟩ ⟨(.slice _Av33 (_u25).length _Cv33), (congrArg (fun zq => (Value.tuple #[(.slice _Av33 (_u25).length _Cv33), .bool zq])) (by first | rw [← sa_eq (bres_hit he25 _h30 hf)] | rw [← sa_eq (bres_none (zq_no hV (by omega)) hf)])), _o_33, (Lo.down _lo33 (by omega)), E⟩
    · have _kb_27 := _h30
      refine W_skip ?_
      refine thn_nrm (_hK_21 _ _ ?_)
      clear _hK_21
      refine W_seq fun _K_34 _hK_34 => ?_
      refine W_region ?_
      refine WL_step rfl rfl (r_assign rfl) ?_
      refine WL_nil ?_
      refine thn_nrm (_hK_34 _ _ ?_)
      clear _hK_34
      refine W_block ?_
      have _f_35 := (((_o0_9.ch0 _cw_18).ch _cw_19 (fun g hg hm => by have _h0 := List.mem_singleton.1 hm; have _h2 := _lo0_9 _ hg; have _h3 := hikq _ hg; omega)).ch0 _cw_26)
      have _oi_36 : Ol Qi.cs 80 2 _w_26 (.slice Akq ((zq (bE (nxI nextc0N) first k) V).drop k).length Ckq) ((zq (bx (nxI nextc0N) (x25, _u25) (bE (nxI nextc0N) first k) 0) V).drop k) := by
        have hx := _f_35
        exact hx
      have _f_38 := (((_m0_8.ch0 _cw_18).ch _cw_19 (fun hm => by have _h1 := List.mem_singleton.1 hm; omega)).ch0 _cw_26)
      have _oi_37 : Mp kvI _w_26 _b13 ((bx (nxI nextc0N) (x25, _u25) (bE (nxI nextc0N) first k) 0).map (·.1)) := by
        have hx := _f_38
        exact hx
      have _f_39 := (((od.ch0 _cw_18).ch _cw_19 (fun i hi => by have _h1 := List.mem_singleton.1 hi; omega)).ch0 _cw_26)
      have _f_40 := (_f_23.ch0 _cw_26)
      have _f_41 := (_f_25.ch0 _cw_26)
      have _f_42 := (_f_24.ch0 _cw_26)
      have _f_43 := (_m_20.ch0 _cw_26)
      refine W_loop (σ := Nat × List Sv × Value) (fun ⟨m, V2, kr⟩ => [(1, (.func (.func 48) #[(.agg #[(.int .i64 nextc0S), (.slice _A_nextc0A nextc0A.length _C_nextc0A), (.slice _A_snextc0N snextc0N.length _C_snextc0N)])] #[])), (2, (.func (.func 40) #[(.agg #[(.int .i64 testc0S), (.slice _A_testc0A testc0A.length _C_testc0A), (.slice _A_stestc0N stestc0N.length _C_stestc0N)])] #[])), (8, (.map (some _b13))), (9, kr), (10, (.pointer (some ⟨_b10, 0, none⟩))), (11, (.int .i64 ((m : Nat) : Int))), (21, (.bool (decide (0 < ((((zq (bE (nxI nextc0N) first k) V).drop k).length : Nat) : Int))))), (30, (.bool (accA testc0A x25)))]) (fun ⟨m, V2, kr⟩ wx => Ch [] w wx ∧ _w_26.heap.size ≤ wx.heap.size ∧ (m ≤ 9) ∧ (V2.length = (bx (nxI nextc0N) (x25, _u25) (bE (nxI nextc0N) first k) m).length) ∧ (V2[k]? = some (⟨_A25, _u25.length, _C25⟩ : Sv)) ∧ Ls bcs 1 wx LL_testc0A w.heap.size (.slice _A_testc0A testc0A.length _C_testc0A) testc0A ∧ Ls Sv.cs 1 wx LL_stestc0N w.heap.size (.slice _A_stestc0N stestc0N.length _C_stestc0N) stestc0N ∧ Rd ics 1 wx LR_testc0N w.heap.size stestc0N testc0N ∧ Blk wx _b10 80 [(.int .i64 x25), (.slice _A25 _u25.length _C25)] ∧ Ol Qi.cs 80 2 wx kr ((zq (bx (nxI nextc0N) (x25, _u25) (bE (nxI nextc0N) first k) m) V2).drop k) ∧ Lo _w_4.heap.size kr ∧ Mp kvI wx _b13 ((bx (nxI nextc0N) (x25, _u25) (bE (nxI nextc0N) first k) m).map (·.1)) ∧ Od ics 3 1 wx _w_8.heap.size wx.heap.size V2 ((bx (nxI nextc0N) (x25, _u25) (bE (nxI nextc0N) first k) m).map (·.2)) ∧ (_b10 ∉ bl kr) ∧ (Sep kr V2)) (fun ⟨m, V2, kr⟩ => 9 - m) (0, V, (.slice Akq ((zq (bE (nxI nextc0N) first k) V).drop k).length Ckq)) (Sub.cons rfl (Sub.cons rfl (Sub.cons rfl (Sub.cons rfl (Sub.cons rfl (Sub.cons rfl (Sub.cons rfl (Sub.cons rfl (Sub.nil _))))))))) ⟨E, (Nat.le_refl _), (by omega), hV, hs25, _f_40, _f_41, _f_42, _f_43, _oi_36, _lo0_9, _oi_37, (_f_39.up (Nat.le_refl _) (by omega)), (fun hm => by have _h1 := _lo0_9 _ hm; have _h2 := hikq _ hm; omega), _spl0_9⟩ ?_
      rintro ⟨m, V2, kr⟩ _wr_44 ⟨E, _zz1, hm, hV2, hvk, _F1_3, _F1_4, _F1_5, _F1_6, _o1_9, _lo1_9, _m1_8, od2, _nbz1_9_10, _spl1_9⟩
      have _E1h := E
      have _E1hz := _E1h.size
      have _F1_6z := _F1_6.lt
      have m1_8z := _m1_8.lt
      obtain ⟨Akr, Ckr, ekr⟩ := _o1_9.val
      subst ekr
      have lkr := _o1_9.len
      have hikr := _o1_9.lt
      refine W_seq fun _K_45 _hK_45 => ?_
      refine W_seq fun _K_46 _hK_46 => ?_
      refine W_region ?_
      refine WL_step rfl rfl (r_move rfl) ?_
      refine WL_step rfl rfl (r_lss rfl rfl) ?_
      refine WL_nil ?_
      refine thn_nrm (_hK_46 _ _ ?_)
      clear _hK_46
      refine W_cond rfl (fun _h35 => ?_) (fun _h35 => ?_)
      · have _kb_47 := _h35
        have _h35 := bt_d _h35
        refine W_skip ?_
        refine thn_nrm (_hK_45 _ _ ?_)
        clear _hK_45
        refine W_seq fun _K_48 _hK_48 => ?_
        refine W_block ?_
        refine W_seq fun _K_49 _hK_49 => ?_
        refine W_region ?_
        refine WL_step rfl rfl (r_move rfl) ?_
        refine WL_step rfl rfl (r_fieldAddr fa80_0 rfl) ?_
        refine WL_step rfl rfl (r_loadAt _F1_6.at_ agg3 rfl rfl) ?_
        refine WL_step rfl rfl (r_move rfl) ?_
        refine WL_s rfl rfl ?_
        have _f_50 := (_h_nextc0A.ch0 _E1h)
        have _f_51 := (_rd_nextc0N.ch0 _E1h)
        have _f_52 := (_h_snextc0N.ch0 _E1h)
        refine Step.call (r_callV (xs := [.tmp 40, .tmp 41]) (as' := [(.agg #[(.int .i64 nextc0S), (.slice _A_nextc0A nextc0A.length _C_nextc0A), (.slice _A_snextc0N snextc0N.length _C_snextc0N)]), (.int .i64 x25), (.int .i64 ((m : Nat) : Int))]) fk48 rfl rfl rfl) (c_impl_Automaton_move _ _f_50 _f_52 _f_51 _ _ hva hi25) fun _v42 _w_53 _q42 => ?_
        obtain ⟨rfl, _cw_53⟩ := _q42
        have _cw_53z := _cw_53.size
        have E := E.trans _cw_53
        refine WL_step rfl rfl (r_assign rfl) ?_
        refine WL_nil ?_
        refine thn_nrm (_hK_49 _ _ ?_)
        clear _hK_49
        refine W_seq fun _K_54 _hK_54 => ?_
        refine W_region ?_
        refine WL_step rfl rfl (r_move rfl) ?_
        refine WL_step rfl rfl (r_move rfl) ?_
        have _f_55 := (_m1_8.ch0 _cw_53)
        refine WL_step rfl rfl (r_mapLook (moveA nextc0N x25 ((m : Nat) : Int)) un78 zr4 (keyT_int un3) _f_55 rfl rfl) ?_
        refine WL_step rfl rfl (r_not rfl) ?_
        refine WL_nil ?_
        refine thn_nrm (_hK_54 _ _ ?_)
        clear _hK_54
        refine W_cond rfl (fun _h46 => ?_) (fun _h46 => ?_)
        · have _kb_56 := _h46
          have _h46 := bf_d (bt_n _h46)
          have hm46 := _h46
          refine W_seq fun _K_57 _hK_57 => ?_
          refine W_region ?_
          refine WL_step rfl rfl (r_move rfl) ?_
          refine WL_step rfl rfl (r_move rfl) ?_
          refine WL_s rfl rfl ?_
          refine s_mapPut (moveA nextc0N x25 ((m : Nat) : Int)) un78 (keyT_int un3) _f_55 rfl rfl rfl (hm46) fun _w_58 _m_59 _cw_58 => ?_
          have _cw_58z := _cw_58.size
          have E := E.step _cw_58 (fun i hi => .inl (by have _h1 := List.mem_singleton.1 hi; omega))
          replace _m_59 : Mp kvI _w_58 _b13 (((bx (nxI nextc0N) (x25, _u25) (bE (nxI nextc0N) first k) m).map (·.1)) ++ [(moveA nextc0N x25 ((m : Nat) : Int))]) := _m_59
          refine WL_nil ?_
          refine thn_nrm (_hK_57 _ _ ?_)
          clear _hK_57
          refine W_region ?_
          refine WL_step rfl rfl (r_move rfl) ?_
          refine WL_step rfl rfl (r_move rfl) ?_
          refine WL_step rfl rfl (r_fieldAddr fa80_1 rfl) ?_
          have _f_60 := ((_F1_6.ch0 _cw_53).ch _cw_58 (fun hm => by have _h1 := List.mem_singleton.1 hm; omega))
          refine WL_step rfl rfl (r_loadAt _f_60.at_ agg31 rfl rfl) ?_
          refine WL_s rfl rfl ?_
          have _f_61 := ((od2.ch0 _cw_53).ch _cw_58 (fun i hi => by have _h1 := List.mem_singleton.1 hi; omega))
          have _f_62 : _ := zq_word _f_61 hvk (bx_get he25)
          refine Step.call (r_call (xs := [.tmp 52]) fk65 rfl) (c_impl_copyInts _f_62 (by have _z1 := hwl k _ (mem_of_get he25); dsimp only at _z1; omega)) fun _v53 _w_63 _q53 => ?_
          obtain ⟨_q53, _lo53, _cw_63⟩ := _q53
          have _cw_63z := _cw_63.size
          have E := E.trans _cw_63
          obtain ⟨_Av53, _Cv53, _ev53⟩ := _q53.val
          subst _ev53
          have _lv53 := _q53.len
          have _hiv53 := _q53.lt
          refine WL_step rfl rfl (r_move rfl) ?_
          refine WL_s rfl rfl ?_
          refine s_buildSlice (cs := ics) (parts := [(0, .tmp 54)]) (0 : Int) [((m : Nat) : Int)] el31 sz3 zr3 ics_len (by decide) rfl rfl rfl (by decide) (by decide) rfl fun _v55 _w_64 _q55 _lo55 _cw_64 => ?_
          have _cw_64z := _cw_64.size
          have E := E.trans _cw_64
          obtain ⟨_Av55, _Cv55, _ev55⟩ := _q55.val
          subst _ev55
          have _lv55 := _q55.len
          have _hiv55 := _q55.lt
          refine WL_s rfl rfl ?_
          have _f_66 := (_q53.ch0 _cw_64)
          refine s_append (cs := ics) el31 sz3 by3 zr3 rfl (by decide) ics_one _f_66 _q55.ls rfl rfl (by have _z1 := hwl k _ (mem_of_get he25); dsimp only at _z1; simp only [List.length_singleton]; omega) (by have _z1 := hwl k _ (mem_of_get he25); dsimp only at _z1; simp only [List.length_singleton]; omega) _lo53 (by omega) fun _v56 _w_65 _q56 _lo56 _ap56 _cw_65 => ?_
          have _cw_65z := _cw_65.size
          have E := E.step _cw_65 (fun i hi => .inl (by have _h1 := _lo53 _ hi; omega))
          obtain ⟨_Av56, _Cv56, _ev56⟩ := _q56.val
          subst _ev56
          have _lv56 := _q56.len
          have _hiv56 := _q56.lt
          refine WL_step rfl rfl (r_build (parts := [(0, .tmp 50), (1, .tmp 56)]) (cells := [(.int .i64 (moveA nextc0N x25 ((m : Nat) : Int))), (.slice _Av56 ((_u25 ++ [((m : Nat) : Int)])).length _Cv56)]) zr80 pl80 rfl rfl) ?_
          refine WL_s rfl rfl ?_
          refine s_buildSlice (cs := Qi.cs) (parts := [(0, .tmp 57)]) (⟨0, ⟨none, 0, 0⟩⟩ : Qi) [(⟨moveA nextc0N x25 ((m : Nat) : Int), (⟨_Av56, ((_u25 ++ [((m : Nat) : Int)])).length, _Cv56⟩ : Sv)⟩ : Qi)] el81 sz80 zr80 Qi.len (by decide) rfl rfl rfl (by decide) (by decide) rfl fun _v58 _w_67 _q58 _lo58 _cw_67 => ?_
          have _cw_67z := _cw_67.size
          have E := E.trans _cw_67
          obtain ⟨_Av58, _Cv58, _ev58⟩ := _q58.val
          subst _ev58
          have _lv58 := _q58.len
          have _hiv58 := _q58.lt
          refine WL_s rfl rfl ?_
          have _f_69 := ((((((_o1_9.ch0 _cw_53).ch _cw_58 (fun g hg hm => by have _h0 := List.mem_singleton.1 hm; have _h2 := _lo1_9 _ hg; have _h3 := hikr _ hg; omega)).ch0 _cw_63).ch0 _cw_64).ch _cw_65 (fun g hg hm => by have _h1 := _lo53 _ hm; have _h2 := _hiv53 _ hm; have _h3 := _lo1_9 _ hg; have _h4 := hikr _ hg; omega)).ch0 _cw_67)
          refine s_append (cs := Qi.cs) el81 sz80 by80 zr80 rfl (by decide) Qi.one _f_69 _q58.ls rfl rfl (by have _z1 := bx_le9 (m := m) he25 (by omega); have _z2 := hle (k + 1); have _z3 := zq_len hV2; simp only [List.length_singleton, List.length_drop]; omega) (by have _z1 := bx_le9 (m := m) he25 (by omega); have _z2 := hle (k + 1); have _z3 := zq_len hV2; simp only [List.length_singleton, List.length_drop]; omega) _lo1_9 (by omega) fun _v59 _w_68 _q59 _lo59 _ap59 _cw_68 => ?_
          have _cw_68z := _cw_68.size
          have E := E.step _cw_68 (fun i hi => .inl (by have _h1 := _lo1_9 _ hi; omega))
          obtain ⟨_Av59, _Cv59, _ev59⟩ := _q59.val
          subst _ev59
          have _lv59 := _q59.len
          have _hiv59 := _q59.lt
          refine WL_step rfl rfl (r_assign rfl) ?_
          refine WL_nil ?_
          refine inB_nrm ?_
          refine thn_nrm (_hK_48 _ _ ?_)
          clear _hK_48
          refine W_region ?_
          refine WL_step rfl rfl (r_move rfl) ?_
          refine WL_step rfl rfl (r_add (by omega) rfl rfl) ?_
          refine WL_step rfl rfl (r_assign rfl) ?_
          refine WL_nil ?_
          have _on_70 : Ol Qi.cs 80 2 _w_68 (.slice _Av59 (((zq (bx (nxI nextc0N) (x25, _u25) (bE (nxI nextc0N) first k) m) V2).drop k ++ [(⟨moveA nextc0N x25 ((m : Nat) : Int), (⟨_Av56, ((_u25 ++ [((m : Nat) : Int)])).length, _Cv56⟩ : Sv)⟩ : Qi)])).length _Cv59) ((zq (bx (nxI nextc0N) (x25, _u25) (bE (nxI nextc0N) first k) (m + 1)) (V2 ++ [(⟨_Av56, ((_u25 ++ [((m : Nat) : Int)])).length, _Cv56⟩ : Sv)])).drop k) := by
            have hx := _q59
            first | (rw [bx_y hm46]; exact hx) | (rw [bx_n hm46, zq_drop hV2 (Nat.le_of_lt (bx_lt he25))]; exact hx)
          have _f_72 := (((((_m_59.ch0 _cw_63).ch0 _cw_64).ch _cw_65 (fun hm => by have _h1 := _lo53 _ hm; have _h2 := _hiv53 _ hm; omega)).ch0 _cw_67).ch _cw_68 (fun hm => by have _h1 := _lo1_9 _ hm; have _h2 := hikr _ hm; omega))
          have _on_71 : Mp kvI _w_68 _b13 ((bx (nxI nextc0N) (x25, _u25) (bE (nxI nextc0N) first k) (m + 1)).map (·.1)) := by
            have hx := _f_72
            first | (rw [bx_y hm46]; exact hx) | (rw [bx_n hm46, List.map_append]; exact hx)
          have _f_73 := (((((_f_61.ch0 _cw_63).ch0 _cw_64).ch _cw_65 (fun i hm => by have _h1 := _lo53 _ hm; have _h2 := _hiv53 _ hm; omega)).ch0 _cw_67).chS _cw_68 _spl1_9)
          have _f_74 := ((_q56.ch0 _cw_67).ch _cw_68 (fun g hg hm => by rcases _ap56 with ea | ea; (rw [ea] at hg; have _h1 := _lo1_9 _ hm; have _h2 := hikr _ hm; have _h3 := _lo53 _ hg; have _h4 := _hiv53 _ hg; omega); (have z2hg := _hiv56 _ hg; rw [ea] at hg; have _z1 := List.mem_singleton.1 hg; have _h1 := _lo1_9 _ hm; have _h2 := hikr _ hm; omega)))
          have _f_75 := (((((((_F1_3.ch0 _cw_53).ch _cw_58 (fun i hi => by have _h1 := List.mem_singleton.1 hi; omega)).ch0 _cw_63).ch0 _cw_64).ch _cw_65 (fun i hi => by have _h1 := _lo53 _ hi; omega)).ch0 _cw_67).ch _cw_68 (fun i hi => by have _h1 := _lo1_9 _ hi; omega))
          have _f_76 := (((((((_F1_4.ch0 _cw_53).ch _cw_58 (fun i hi => by have _h1 := List.mem_singleton.1 hi; omega)).ch0 _cw_63).ch0 _cw_64).ch _cw_65 (fun i hi => by have _h1 := _lo53 _ hi; omega)).ch0 _cw_67).ch _cw_68 (fun i hi => by have _h1 := _lo1_9 _ hi; omega))
          have _f_77 := (((((((_F1_5.ch0 _cw_53).ch _cw_58 (fun i hi => by have _h1 := List.mem_singleton.1 hi; omega)).ch0 _cw_63).ch0 _cw_64).ch _cw_65 (fun i hi => by have _h1 := _lo53 _ hi; omega)).ch0 _cw_67).ch _cw_68 (fun i hi => by have _h1 := _lo1_9 _ hi; omega))
          have _f_78 := (((((_f_60.ch0 _cw_63).ch0 _cw_64).ch _cw_65 (fun hm => by have _h1 := _lo53 _ hm; have _h2 := _hiv53 _ hm; omega)).ch0 _cw_67).ch _cw_68 (fun hm => by exact _nbz1_9_10 (by first | exact hm | exact _h0 ▸ hm)))
          exact thn_nrm (Exists.intro ((m + 1), (V2 ++ [(⟨_Av56, ((_u25 ++ [((m : Nat) : Int)])).length, _Cv56⟩ : Sv)]), (.slice _Av59 (((zq (bx (nxI nextc0N) (x25, _u25) (bE (nxI nextc0N) first k) m) V2).drop k ++ [(⟨moveA nextc0N x25 ((m : Nat) : Int), (⟨_Av56, ((_u25 ++ [((m : Nat) : Int)])).length, _Cv56⟩ : Sv)⟩ : Qi)])).length _Cv59)) ⟨⟨E, (by omega), (by omega), (by first | (rw [bx_y hm46]; exact hV2) | (rw [bx_n hm46]; simp only [List.length_append, hV2, List.length_singleton])), (by first | exact hvk | exact get_app hvk), _f_75, _f_76, _f_77, _f_78, _on_70, (Lo.down _lo59 (by omega)), _on_71, (by rw [bx_n hm46, List.map_append]; exact Od.snoc _f_73 _f_74 (Lo.down _lo56 (by omega)) (fun g hg => by have _h1 := _hiv56 g hg; omega) (by omega) (by omega)), (fun hm => by rcases _ap59 with ea | ea; (rw [ea] at hm; exact _nbz1_9_10 (by first | exact hm | exact _h0 ▸ hm)); (have z2hm := _hiv59 _ hm; rw [ea] at hm; have _z1 := List.mem_singleton.1 hm; omega)), (fun u hu g hg hm => by rcases List.mem_append.1 hu with hu | hu; (rcases _ap59 with ea | ea; (rw [ea] at hm; exact _spl1_9 _ hu _ hg hm); (have z2hm := _hiv59 _ hm; rw [ea] at hm; have _z1 := List.mem_singleton.1 hm; have _h9 := _f_73.rng hu hg; omega)); (rw [List.mem_singleton.1 hu] at hg; replace hg : g ∈ bl (.slice _Av56 ((_u25 ++ [((m : Nat) : Int)])).length _Cv56) := hg; rcases _ap56 with ea | ea; (rw [ea] at hg; rcases _ap59 with ea | ea; (rw [ea] at hm; have _h1 := _lo1_9 _ hm; have _h2 := hikr _ hm; have _h3 := _lo53 _ hg; have _h4 := _hiv53 _ hg; omega); (have z2hm := _hiv59 _ hm; rw [ea] at hm; have _z1 := List.mem_singleton.1 hm; have _h3 := _lo53 _ hg; have _h4 := _hiv53 _ hg; omega)); (have z2hg := _hiv56 _ hg; rw [ea] at hg; have _z1 := List.mem_singleton.1 hg; rcases _ap59 with ea | ea; (rw [ea] at hm; have _h1 := _lo1_9 _ hm; have _h2 := hikr _ hm; omega); (have z2hm := _hiv59 _ hm; rw [ea] at hm; have _z1 := List.mem_singleton.1 hm; omega))))⟩, Sub.cons rfl (Sub.cons rfl (Sub.cons rfl (Sub.cons rfl (Sub.cons rfl (Sub.cons rfl (Sub.cons rfl (Sub.cons rfl (Sub.nil _)))))))), (by first | omega | (dsimp only; omega))⟩)
        · have _kb_56 := _h46
          have _h46 := bt_d (bf_n _h46)
          have hm46 := _h46
          refine W_skip ?_
          refine inB_nrm ?_
          refine thn_nrm (_hK_48 _ _ ?_)
          clear _hK_48
          refine W_region ?_
          refine WL_step rfl rfl (r_move rfl) ?_
          refine WL_step rfl rfl (r_add (by omega) rfl rfl) ?_
          refine WL_step rfl rfl (r_assign rfl) ?_
          refine WL_nil ?_
          have _f_80 := (_o1_9.ch0 _cw_53)
          have _on_79 : Ol Qi.cs 80 2 _w_53 (.slice Akr ((zq (bx (nxI nextc0N) (x25, _u25) (bE (nxI nextc0N) first k) m) V2).drop k).length Ckr) ((zq (bx (nxI nextc0N) (x25, _u25) (bE (nxI nextc0N) first k) (m + 1)) V2).drop k) := by
            have hx := _f_80
            first | (rw [bx_y hm46]; exact hx) | (rw [bx_n hm46, zq_drop hV2 (Nat.le_of_lt (bx_lt he25))]; exact hx)
          have _on_81 : Mp kvI _w_53 _b13 ((bx (nxI nextc0N) (x25, _u25) (bE (nxI nextc0N) first k) (m + 1)).map (·.1)) := by
            have hx := _f_55
            first | (rw [bx_y hm46]; exact hx) | (rw [bx_n hm46, List.map_append]; exact hx)
          have _f_82 := (od2.ch0 _cw_53)
          have _f_83 := (_F1_3.ch0 _cw_53)
          have _f_84 := (_F1_4.ch0 _cw_53)
          have _f_85 := (_F1_5.ch0 _cw_53)
          have _f_86 := (_F1_6.ch0 _cw_53)
          exact thn_nrm (Exists.intro ((m + 1), V2, (.slice Akr ((zq (bx (nxI nextc0N) (x25, _u25) (bE (nxI nextc0N) first k) m) V2).drop k).length Ckr)) ⟨⟨E, (by omega), (by omega), (by first | (rw [bx_y hm46]; exact hV2) | (rw [bx_n hm46]; simp only [List.length_append, hV2, List.length_singleton])), (by first | exact hvk | exact get_app hvk), _f_83, _f_84, _f_85, _f_86, _on_79, (Lo.down _lo1_9 (by omega)), _on_81, (by rw [bx_y hm46]; exact _f_82.up (Nat.le_refl _) (by omega)), (fun hm => by exact _nbz1_9_10 (by first | exact hm | exact _h0 ▸ hm)), (fun u hu g hg hm => by exact _spl1_9 _ hu _ hg hm)⟩, Sub.cons rfl (Sub.cons rfl (Sub.cons rfl (Sub.cons rfl (Sub.cons rfl (Sub.cons rfl (Sub.cons rfl (Sub.cons rfl (Sub.nil _)))))))), (by first | omega | (dsimp only; omega))⟩)
      · have _kb_47 := _h35
        have _h35 := bf_d _h35
        have zl2 := zq_len hV2
        have zd2 := List.length_drop (l := zq (bx (nxI nextc0N) (x25, _u25) (bE (nxI nextc0N) first k) m) V2) (i := k)
        have zk2 := bx_lt (m := m) he25
        refine W_exit (thn_exit (thn_exit (inB_hit ?_)))
        refine inB_nrm ?_
        refine thn_nrm (_hK_16 _ _ ?_)
        clear _hK_16
        refine W_region ?_
        refine WL_step rfl rfl (r_move rfl) ?_
        refine WL_s rfl rfl ?_
        refine (s_cutO (ys := (((zq (bx (nxI nextc0N) (x25, _u25) (bE (nxI nextc0N) first k) m) V2).drop k).drop 1)) 1 (((zq (bx (nxI nextc0N) (x25, _u25) (bE (nxI nextc0N) first k) m) V2).drop k).length) _o1_9 Qi.len el81 sz80 rfl ⟨_, _, rfl, by omega⟩ rfl (by omega) (by omega) (cut_all _ _) fun _v23 _q23 _bb23 _ln23 => ?_)
        obtain ⟨_A23, _C23, _e23⟩ := _q23.val
        subst _e23
        have _l23 := _q23.len
        have hi23 := _q23.lt
        refine WL_step rfl rfl (r_assign rfl) ?_
        refine WL_nil ?_
        have _on_87 : Ol Qi.cs 80 2 _wr_44 (.slice _A23 ((((zq (bx (nxI nextc0N) (x25, _u25) (bE (nxI nextc0N) first k) m) V2).drop k).drop 1)).length _C23) ((zq (bE (nxI nextc0N) first (k + 1)) V2).drop (k + 1)) := by
          have hx := _q23
          rw [bE_succ he25, show 9 = m by omega]; exact hx.eq (by rw [List.drop_drop])
        have _on_88 : Mp kvI _wr_44 _b13 ((bE (nxI nextc0N) first (k + 1)).map (·.1)) := by
          have hx := _m1_8
          rw [bE_succ he25, show 9 = m by omega]; exact hx
        exact thn_nrm (Exists.intro ((k + 1), V2, (.slice _A23 ((((zq (bx (nxI nextc0N) (x25, _u25) (bE (nxI nextc0N) first k) m) V2).drop k).drop 1)).length _C23)) ⟨⟨E, (by omega), (by have _z9 := bx_lt (m := 9) he25; rw [← bE_succ he25] at _z9; omega), (by rw [bE_succ he25, show 9 = m by omega]; exact hV2), (fst_step hf he25 _h30), _on_87, (Lo.down (fun g hg => _lo1_9 g (_bb23 ▸ hg)) (by omega)), _on_88, (by rw [bE_succ he25, show 9 = m by omega]; exact od2.up (Nat.le_refl _) (by omega)), (fun u hu g hg hm => by rw [_bb23] at hm; exact _spl1_9 _ hu _ hg hm)⟩, Sub.cons rfl (Sub.cons rfl (Sub.cons rfl (Sub.cons rfl (Sub.nil _)))), (by first | omega | (dsimp only; omega))⟩)
  · have _kb_15 := _h21
    have _h21 := bf_d _h21
    refine W_exit (thn_exit (thn_exit (inB_hit ?_)))
    refine thn_nrm (_hK_6 _ _ ?_)
    clear _hK_6
    refine W_seq fun _K_89 _hK_89 => ?_
    refine W_region ?_
    refine WL_step rfl rfl (r_assign rfl) ?_
    refine WL_step rfl rfl (r_assign rfl) ?_
    refine WL_nil ?_
    refine thn_nrm (_hK_89 _ _ ?_)
    clear _hK_89
    refine W_ret ?_
    clear _hK_13
    have _o_90 : Ol ics 3 1 _wr_12 (.slice none 0 0) ((saF testc0A nextc0N first).1) := by
      have hx := (Ol.nil (cs := ics) (e := 3) (k := 1) _wr_12)
      first | (rw [← sa_eq (bres_hit he25 _h30 hf)]; exact hx) | (rw [← sa_eq (bres_none (zq_no hV (by omega)) hf)]; simpa using hx)
    exact ret_intro [_, _] ⟨rfl, ⟨rfl, trivial⟩⟩ ⟨(.slice none 0 0), (congrArg (fun zq => (Value.tuple #[(.slice none 0 0), .bool zq])) (by first | rw [← sa_eq (bres_hit he25 _h30 hf)] | rw [← sa_eq (bres_none (zq_no hV (by omega)) hf)])), _o_90, (Lo.nil _), E⟩

/-- impl.ShortestAccepted -/
theorem c_impl_ShortestAccepted {w : World} (aS : Int) {LL_aA _B_aA : Nat} {_v_aA : Value} {aA : List Bool} (_h_aA : Ls bcs 1 w LL_aA _B_aA _v_aA aA) {LL_saN _B_saN : Nat} {_v_saN : Value} {saN : List Sv} (_h_saN : Ls Sv.cs 1 w LL_saN _B_saN _v_saN saN) {LR_aN BB_aN : Nat} {aN : List (List Int)} (_rd_aN : Rd ics 1 w LR_aN BB_aN saN aN) :
    Ctr Try.prog 25 #[(.agg #[(.int .i64 aS), _v_aA, _v_saN])] w (fun v w' => ∃ (_u0 : Value), v = .tuple #[_u0, .bool ((saR aS aA aN).2)] ∧ Ol ics 3 1 w' _u0 ((saR aS aA aN).1) ∧ Lo w.heap.size _u0 ∧ Ch [] w w') := by
  obtain ⟨_A_aA, _C_aA, _e1_aA⟩ := _h_aA.val
  subst _e1_aA
  have _l_aA := _h_aA.len
  have _h_aA := _h_aA.here (by decide)
  obtain ⟨_A_saN, _C_saN, _e1_saN⟩ := _h_saN.val
  subst _e1_saN
  have _l_saN := _h_saN.len
  have _h_saN := _h_saN.here (by decide)
  have _rd_aN := _rd_aN.here (by decide)
  have _rl_aN := _rd_aN.1
  have E := Ch.refl [] w
  refine Ctr_of_W (N := 16) (vs0 := [(.agg #[(.int .i64 aS), (.slice _A_aA aA.length _C_aA), (.slice _A_saN saN.length _C_saN)])]) Try.func25 rfl rfl rfl ?_
  refine W_seq fun _K_1 _hK_1 => ?_
  refine W_region ?_
  refine WL_s rfl rfl ?_
  refine s_box rfl fun _b1 _w_2 _m1 _cw_2 _e1 => ?_
  have _cw_2z := _cw_2.size
  have E := E.trans _cw_2
  have _z1 := _m1.lt
  replace _m1 : Blk _w_2 _b1 28 [(.int .i64 aS), (.slice _A_aA aA.length _C_aA), (.slice _A_saN saN.length _C_saN)] := _m1
  refine WL_step rfl rfl (r_assign rfl) ?_
  refine WL_step rfl rfl (r_assign rfl) ?_
  refine WL_nil ?_
  refine thn_nrm (_hK_1 _ _ ?_)
  clear _hK_1
  refine W_seq fun _K_3 _hK_3 => ?_
  refine W_seq fun _K_4 _hK_4 => ?_
  refine W_region ?_
  refine WL_step rfl rfl (r_loadAtA0 _m1.at_ agg28 sz28 rfl) ?_
  refine WL_s rfl rfl ?_
  have _f_5 := (_h_aA.ch0 _cw_2)
  have _f_6 := (_rd_aN.ch0 _cw_2)
  have _f_7 := (_h_saN.ch0 _cw_2)
  refine Step.call (r_call (xs := [.tmp 4]) fk33 rfl) (c_impl_IsValidAutomaton _ _f_5 _f_7 _f_6 ) fun _v5 _w_8 _q5 => ?_
  obtain ⟨rfl, _cw_8⟩ := _q5
  have _cw_8z := _cw_8.size
  have E := E.trans _cw_8
  refine WL_step rfl rfl (r_not rfl) ?_
  refine WL_nil ?_
  refine thn_nrm (_hK_4 _ _ ?_)
  clear _hK_4
  refine W_cond rfl (fun _h6 => ?_) (fun _h6 => ?_)
  · have _kb_9 := _h6
    have _h6 := bf_t (bt_n _h6)
    refine W_seq fun _K_10 _hK_10 => ?_
    refine W_region ?_
    refine WL_step rfl rfl (r_assign rfl) ?_
    refine WL_step rfl rfl (r_assign rfl) ?_
    refine WL_nil ?_
    refine thn_nrm (_hK_10 _ _ ?_)
    clear _hK_10
    refine W_ret (thn_ret ?_)
    clear _hK_3
    have _o_11 : Ol ics 3 1 _w_8 (.slice none 0 0) ((saR aS aA aN).1) := by
      have hx := (Ol.nil (cs := ics) (e := 3) (k := 1) _w_8)
      first | (rw [saR_F _h6]; exact hx) | (rw [saR_n _h6]; simpa using hx)
    exact ret_intro [_, _] ⟨rfl, ⟨rfl, trivial⟩⟩ ⟨(.slice none 0 0), (congrArg (fun zq => (Value.tuple #[(.slice none 0 0), .bool zq])) (by first | rw [saR_F _h6] | rw [saR_n _h6])), _o_11, (Lo.nil _), E⟩
  · have _kb_9 := _h6
    have _h6 := bt_t (bf_n _h6)
    refine W_skip ?_
    refine thn_nrm (_hK_3 _ _ ?_)
    clear _hK_3
    refine W_seq fun _K_12 _hK_12 => ?_
    refine W_region ?_
    refine WL_step rfl rfl (r_fieldAddr fa28_0 rfl) ?_
    have _f_13 := (_m1.ch0 _cw_8)
    refine WL_step rfl rfl (r_loadAt _f_13.at_ agg3 rfl rfl) ?_
    refine WL_step rfl rfl (r_loadAtA0 _f_13.at_ agg28 sz28 rfl) ?_
    refine WL_step rfl rfl (r_makeFunc (xs := [.tmp 9]) (ys := []) rfl rfl) ?_
    refine WL_step rfl rfl (r_loadAtA0 _f_13.at_ agg28 sz28 rfl) ?_
    refine WL_step rfl rfl (r_makeFunc (xs := [.tmp 11]) (ys := []) rfl rfl) ?_
    refine WL_s rfl rfl ?_
    have _f_14 := (_f_5.ch0 _cw_8)
    have _f_15 := (_f_6.ch0 _cw_8)
    have _f_16 := (_f_7.ch0 _cw_8)
    refine Step.call (r_call (xs := [.tmp 8, .tmp 10, .tmp 12]) fk47 rfl) (c_impl_leastWord_int _ _ _f_14 _f_16 _f_15 _ _f_14 _f_16 _f_15 _h6 (inA_start _h6) rfl) fun _v13 _w_17 _q13 => ?_
    obtain ⟨u13_0, rfl, _q_u13_0, _lo_u13_0, _cw_17⟩ := _q13
    have _cw_17z := _cw_17.size
    have E := E.trans _cw_17
    obtain ⟨Au13_0, Cu13_0, eu13_0⟩ := _q_u13_0.val
    subst eu13_0
    have lu13_0 := _q_u13_0.len
    have _hiu13_0 := _q_u13_0.lt
    refine WL_step rfl rfl (r_extract rfl rfl) ?_
    refine WL_step rfl rfl (r_extract rfl rfl) ?_
    refine WL_step rfl rfl (r_assign rfl) ?_
    refine WL_step rfl rfl (r_assign rfl) ?_
    refine WL_nil ?_
    refine thn_nrm (_hK_12 _ _ ?_)
    clear _hK_12
    refine W_ret ?_
    have _o_18 : Ol ics 3 1 _w_17 (.slice Au13_0 ((saF aA aN aS).1).length Cu13_0) ((saR aS aA aN).1) := by
      have hx := _q_u13_0
      first | (rw [saR_F _h6]; exact hx) | (rw [saR_n _h6]; simpa using hx)
    exact ret_intro [_, _] ⟨rfl, ⟨rfl, trivial⟩⟩ ⟨(.slice Au13_0 ((saF aA aN aS).1).length Cu13_0), (congrArg (fun zq => (Value.tuple #[(.slice Au13_0 ((saF aA aN aS).1).length Cu13_0), .bool zq])) (by first | rw [saR_F _h6] | rw [saR_n _h6])), _o_18, (Lo.down _lo_u13_0 (by omega)), E⟩

/-- spec.l11Nothing -/
theorem c_spec_l11Nothing {w : World}  :
    Ctr Try.prog 46 #[] w (fun v w' => ∃ (u0x1 : Value) (u0x2 : Value) (vs0x2 : List Sv), v = .agg #[.int .i64 0, u0x1, u0x2] ∧ Ol bcs 4 1 w' u0x1 ([false]) ∧ Lo w.heap.size u0x1 ∧ Ol Sv.cs 31 1 w' u0x2 vs0x2 ∧ Lo w.heap.size u0x2 ∧ Od ics 3 1 w' w.heap.size w'.heap.size vs0x2 ([List.replicate 9 (-1 : Int)]) ∧ Sep u0x2 vs0x2 ∧ (∀ g ∈ bl u0x1, g ∉ bl u0x2) ∧ Sep u0x1 vs0x2 ∧ Ch [] w w') := by
  have E := Ch.refl [] w
  refine Ctr_of_W (N := 15) (vs0 := []) Try.func46 rfl rfl rfl ?_
  refine W_seq fun _K_1 _hK_1 => ?_
  refine W_region ?_
  refine WL_s rfl rfl ?_
  refine s_alloc zr28 fun _b0 _w_2 _m0 _cw_2 _e0 => ?_
  have _cw_2z := _cw_2.size
  have E := E.trans _cw_2
  have _z0 := _m0.lt
  replace _m0 : Blk _w_2 _b0 28 [(.int .i64 0), (.slice none 0 0), (.slice none 0 0)] := _m0
  refine WL_nil ?_
  refine thn_nrm (_hK_1 _ _ ?_)
  clear _hK_1
  refine W_seq fun _K_3 _hK_3 => ?_
  refine W_region ?_
  refine WL_s rfl rfl ?_
  refine s_buildSlice0 (k := 1) ics el31 sz3 fun _v3 _w_4 _q3 _lo3 _cw_4 => ?_
  have _cw_4z := _cw_4.size
  have E := E.trans _cw_4
  obtain ⟨_Av3, _Cv3, _ev3⟩ := _q3.val
  subst _ev3
  have _lv3 := _q3.len
  have _hiv3 := _q3.lt
  refine WL_step rfl rfl (r_assign rfl) ?_
  refine WL_nil ?_
  refine thn_nrm (_hK_3 _ _ ?_)
  clear _hK_3
  refine W_seq fun _K_5 _hK_5 => ?_
  refine W_seq fun _K_6 _hK_6 => ?_
  refine W_region ?_
  refine WL_step rfl rfl (r_assign rfl) ?_
  refine WL_nil ?_
  refine thn_nrm (_hK_6 _ _ ?_)
  clear _hK_6
  refine W_block ?_
  have _oi_7 : Ol ics 3 1 _w_4 (.slice _Av3 (([] : List Int)).length _Cv3) (List.replicate 0 (-1 : Int)) := by
    have hx := _q3
    simpa using hx
  have _f_8 := (_m0.ch0 _cw_4)
  refine W_loop (σ := Nat × Value) (fun ⟨k, kv⟩ => [(0, (.pointer (some ⟨_b0, 0, none⟩))), (1, kv), (2, (.int .i64 ((k : Nat) : Int)))]) (fun ⟨k, kv⟩ wx => Ch [] w wx ∧ _w_4.heap.size ≤ wx.heap.size ∧ (k ≤ 9) ∧ Blk wx _b0 28 [(.int .i64 0), (.slice none 0 0), (.slice none 0 0)] ∧ Ol ics 3 1 wx kv (List.replicate k (-1 : Int)) ∧ Lo _w_2.heap.size kv) (fun ⟨k, kv⟩ => 9 - k) (0, (.slice _Av3 (([] : List Int)).length _Cv3)) (Sub.cons rfl (Sub.cons rfl (Sub.cons rfl (Sub.nil _)))) ⟨E, (Nat.le_refl _), (by omega), _f_8, _oi_7, _lo3⟩ ?_
  rintro ⟨k, kv⟩ _wr_9 ⟨E, _zz0, _hk, _F0_0, _o0_1, _lo0_1⟩
  have _E0h := E
  have _E0hz := _E0h.size
  have _F0_0z := _F0_0.lt
  obtain ⟨Akv, Ckv, ekv⟩ := _o0_1.val
  subst ekv
  have lkv := _o0_1.len
  have hikv := _o0_1.lt
  refine W_seq fun _K_10 _hK_10 => ?_
  refine W_seq fun _K_11 _hK_11 => ?_
  refine W_region ?_
  refine WL_step rfl rfl (r_move rfl) ?_
  refine WL_step rfl rfl (r_lss rfl rfl) ?_
  refine WL_nil ?_
  refine thn_nrm (_hK_11 _ _ ?_)
  clear _hK_11
  refine W_cond rfl (fun _h5 => ?_) (fun _h5 => ?_)
  · have _kb_12 := _h5
    have _h5 := bt_d _h5
    refine W_skip ?_
    refine thn_nrm (_hK_10 _ _ ?_)
    clear _hK_10
    refine W_seq fun _K_13 _hK_13 => ?_
    refine W_block ?_
    refine W_region ?_
    refine WL_step rfl rfl (r_move rfl) ?_
    refine WL_s rfl rfl ?_
    refine s_buildSlice (cs := ics) (parts := [(0, .const (Go.Value.int Go.IntKind.i64 (-1)))]) (0 : Int) [(-1)] el31 sz3 zr3 ics_len (by decide) rfl rfl rfl (by decide) (by decide) rfl fun _v9 _w_14 _q9 _lo9 _cw_14 => ?_
    have _cw_14z := _cw_14.size
    have E := E.trans _cw_14
    obtain ⟨_Av9, _Cv9, _ev9⟩ := _q9.val
    subst _ev9
    have _lv9 := _q9.len
    have _hiv9 := _q9.lt
    refine WL_s rfl rfl ?_
    have _f_16 := (_o0_1.ch0 _cw_14)
    refine s_append (cs := ics) el31 sz3 by3 zr3 rfl (by decide) ics_one _f_16 _q9.ls rfl rfl (by first | omega | (simp only [List.length_append, List.length_nil, List.length_cons, List.length_replicate, List.length_set, List.length_reverse, List.length_map] at *; omega) | (simp at *; omega)) (by first | omega | (simp only [List.length_append, List.length_nil, List.length_cons, List.length_replicate, List.length_set, List.length_reverse, List.length_map] at *; omega) | (simp at *; omega)) _lo0_1 (by omega) fun _v10 _w_15 _q10 _lo10 _ap10 _cw_15 => ?_
    have _cw_15z := _cw_15.size
    have E := E.step _cw_15 (fun i hi => .inl (by have _h1 := _lo0_1 _ hi; omega))
    obtain ⟨_Av10, _Cv10, _ev10⟩ := _q10.val
    subst _ev10
    have _lv10 := _q10.len
    have _hiv10 := _q10.lt
    refine WL_step rfl rfl (r_assign rfl) ?_
    refine WL_nil ?_
    refine inB_nrm ?_
    refine thn_nrm (_hK_13 _ _ ?_)
    clear _hK_13
    refine W_region ?_
    refine WL_step rfl rfl (r_move rfl) ?_
    refine WL_step rfl rfl (r_add (by omega) rfl rfl) ?_
    refine WL_step rfl rfl (r_assign rfl) ?_
    refine WL_nil ?_
    have _on_17 : Ol ics 3 1 _w_15 (.slice _Av10 ((List.replicate k (-1 : Int) ++ [(-1)])).length _Cv10) (List.replicate (k + 1) (-1 : Int)) := by
      have hx := _q10
      rw [List.replicate_succ'] ; exact hx
    have _f_18 := ((_F0_0.ch0 _cw_14).ch _cw_15 (fun hm => by have _h1 := _lo0_1 _ hm; have _h2 := hikv _ hm; omega))
    exact thn_nrm (Exists.intro ((k + 1), (.slice _Av10 ((List.replicate k (-1 : Int) ++ [(-1)])).length _Cv10)) ⟨⟨E, (by omega), (by omega), _f_18, _on_17, (Lo.down _lo10 (by omega))⟩, Sub.cons rfl (Sub.cons rfl (Sub.cons rfl (Sub.nil _))), (by first | omega | (dsimp only; omega))⟩)
  · have _kb_12 := _h5
    have _h5 := bf_d _h5
    refine W_exit (thn_exit (thn_exit (inB_hit ?_)))
    refine thn_nrm (_hK_5 _ _ ?_)
    clear _hK_5
    refine W_seq fun _K_19 _hK_19 => ?_
    refine W_region ?_
    refine WL_s rfl rfl ?_
    refine s_buildSlice (cs := bcs) (parts := [(0, .const (Go.Value.bool false))]) false [false] el22 sz4 zr4 bcs_len (by decide) rfl rfl rfl (by decide) (by decide) rfl fun _v11 _w_20 _q11 _lo11 _cw_20 => ?_
    have _cw_20z := _cw_20.size
    have E := E.trans _cw_20
    obtain ⟨_Av11, _Cv11, _ev11⟩ := _q11.val
    subst _ev11
    have _lv11 := _q11.len
    have _hiv11 := _q11.lt
    refine WL_step rfl rfl (r_move rfl) ?_
    refine WL_s rfl rfl ?_
    refine s_buildSlice (cs := Sv.cs) (parts := [(0, .tmp 12)]) (⟨none, 0, 0⟩ : Sv) [(⟨Akv, (List.replicate k (-1 : Int)).length, Ckv⟩ : Sv)] el23 sz31 zr31 Sv.len (by decide) rfl rfl rfl (by decide) (by decide) rfl fun _v13 _w_21 _q13 _lo13 _cw_21 => ?_
    have _cw_21z := _cw_21.size
    have E := E.trans _cw_21
    obtain ⟨_Av13, _Cv13, _ev13⟩ := _q13.val
    subst _ev13
    have _lv13 := _q13.len
    have _hiv13 := _q13.lt
    have _f_22 := ((_o0_1.ch0 _cw_20).ch0 _cw_21)
    have od13 : Od ics 3 1 _w_21 _w_2.heap.size _wr_9.heap.size ([(⟨Akv, (List.replicate k (-1 : Int)).length, Ckv⟩ : Sv)]) ([List.replicate k (-1 : Int)]) := Od.snoc (hi := _w_2.heap.size) (vs := []) (xs := []) Od.nil _f_22 (Lo.down _lo0_1 (by omega)) (fun g hg => by have _h1 := hikv g hg; omega) (by omega) (by omega)
    have spn13 : Sep (.slice _Av13 ([(⟨Akv, (List.replicate k (-1 : Int)).length, Ckv⟩ : Sv)]).length _Cv13) [(⟨Akv, (List.replicate k (-1 : Int)).length, Ckv⟩ : Sv)] := fun u hu g hg hm => by rw [List.mem_singleton.1 hu] at hg; have _h1 := hikv _ hg; have _h2 := _lo13 _ hm; omega
    refine WL_step rfl rfl (r_build (parts := [(1, .tmp 11), (2, .tmp 13)]) (cells := [(.int .i64 0), (.slice _Av11 ([false]).length _Cv11), (.slice _Av13 ([(⟨Akv, (List.replicate k (-1 : Int)).length, Ckv⟩ : Sv)]).length _Cv13)]) zr28 pl28 rfl rfl) ?_
    refine WL_s rfl rfl ?_
    have _f_23 := ((_F0_0.ch0 _cw_20).ch0 _cw_21)
    refine s_storeA (off := 0) 3 _f_23 sz28 rfl (us := [(.int .i64 0), (.slice _Av11 ([false]).length _Cv11), (.slice _Av13 ([(⟨Akv, (List.replicate k (-1 : Int)).length, Ckv⟩ : Sv)]).length _Cv13)]) rfl rfl rfl rfl fun _w_24 _m_25 _cw_24 => ?_
    have _cw_24z := _cw_24.size
    have E := E.step _cw_24 (fun i hi => .inl (by have _h1 := List.mem_singleton.1 hi; omega))
    replace _m_25 : Blk _w_24 _b0 28 [(.int .i64 0), (.slice _Av11 ([false]).length _Cv11), (.slice _Av13 ([(⟨Akv, (List.replicate k (-1 : Int)).length, Ckv⟩ : Sv)]).length _Cv13)] := _m_25
    refine WL_nil ?_
    refine thn_nrm (_hK_19 _ _ ?_)
    clear _hK_19
    refine W_ret ?_
    clear _hK_10
    have _f_26 := ((_q11.ch0 _cw_21).ch _cw_24 (fun g hg hm => by have _h0 := List.mem_singleton.1 hm; have _h2 := _lo11 _ hg; have _h3 := _hiv11 _ hg; omega))
    have _o_27 : Ol bcs 4 1 _w_24 (.slice _Av11 ([false]).length _Cv11) ([false]) := by
      have hx := _f_26
      first | exact hx | simpa using hx
    have _f_30 := (_q13.ch _cw_24 (fun g hg hm => by have _h0 := List.mem_singleton.1 hm; have _h2 := _lo13 _ hg; have _h3 := _hiv13 _ hg; omega))
    have _f_31 := (od13.ch _cw_24 (fun i hi => by have _h1 := List.mem_singleton.1 hi; omega))
    have _o_28 : Ol Sv.cs 31 1 _w_24 (.slice _Av13 ([(⟨Akv, (List.replicate k (-1 : Int)).length, Ckv⟩ : Sv)]).length _Cv13) ([(⟨Akv, (List.replicate k (-1 : Int)).length, Ckv⟩ : Sv)]) := by
      have hx := _f_30
      exact hx
    have _o_29 : Od ics 3 1 _w_24 w.heap.size _w_24.heap.size ([(⟨Akv, (List.replicate k (-1 : Int)).length, Ckv⟩ : Sv)]) ([List.replicate 9 (-1 : Int)]) := by
      have hx := _f_31.up (lo' := w.heap.size) (hi' := _w_24.heap.size) (by omega) (by omega)
      rw [show 9 = k by omega]; exact hx
    exact ret_intro [_] (resOf_loadA _m_25 rfl agg28 sz28 trivial) ⟨(.slice _Av11 ([false]).length _Cv11), (.slice _Av13 ([(⟨Akv, (List.replicate k (-1 : Int)).length, Ckv⟩ : Sv)]).length _Cv13), ([(⟨Akv, (List.replicate k (-1 : Int)).length, Ckv⟩ : Sv)]), (congrArg (fun zq => (Value.agg #[.int .i64 zq, (.slice _Av11 ([false]).length _Cv11), (.slice _Av13 ([(⟨Akv, (List.replicate k (-1 : Int)).length, Ckv⟩ : Sv)]).length _Cv13)])) (by first | rfl | simp_all)), _o_27, (Lo.down _lo11 (by omega)), _o_28, (Lo.down _lo13 (by omega)), _o_29, spn13, (fun g hm hg => by have _h1 := _lo11 _ hm; have _h2 := _hiv11 _ hm; have _h3 := _lo13 _ hg; have _h4 := _hiv13 _ hg; omega), (Od.sepO _f_31 (fun g hm => by have _h1 := _lo11 _ hm; have _h2 := _hiv11 _ hm; omega)), E⟩

/-- spec.ShortestAccepted -/
theorem c_spec_ShortestAccepted {w : World} (aS : Int) {LL_aA _B_aA : Nat} {_v_aA : Value} {aA : List Bool} (_h_aA : Ls bcs 1 w LL_aA _B_aA _v_aA aA) {LL_saN _B_saN : Nat} {_v_saN : Value} {saN : List Sv} (_h_saN : Ls Sv.cs 1 w LL_saN _B_saN _v_saN saN) {LR_aN BB_aN : Nat} {aN : List (List Int)} (_rd_aN : Rd ics 1 w LR_aN BB_aN saN aN) :
    Ctr Try.prog 24 #[(.agg #[(.int .i64 aS), _v_aA, _v_saN])] w (fun v w' => ∃ (_u0 : Value), v = .tuple #[_u0, .bool ((saR aS aA aN).2)] ∧ Ol ics 3 1 w' _u0 ((saR aS aA aN).1) ∧ Lo w.heap.size _u0 ∧ Ch [] w w') := by
  obtain ⟨_A_aA, _C_aA, _e1_aA⟩ := _h_aA.val
  subst _e1_aA
  have _l_aA := _h_aA.len
  have _h_aA := _h_aA.here (by decide)
  obtain ⟨_A_saN, _C_saN, _e1_saN⟩ := _h_saN.val
  subst _e1_saN
  have _l_saN := _h_saN.len
  have _h_saN := _h_saN.here (by decide)
  have _rd_aN := _rd_aN.here (by decide)
  have _rl_aN := _rd_aN.1
  have E := Ch.refl [] w
  refine Ctr_of_W (N := 14) (vs0 := [(.agg #[(.int .i64 aS), (.slice _A_aA aA.length _C_aA), (.slice _A_saN saN.length _C_saN)])]) Try.func24 rfl rfl rfl ?_
  refine W_seq fun _K_1 _hK_1 => ?_
  refine W_region ?_
  refine WL_s rfl rfl ?_
  refine s_box rfl fun _b1 _w_2 _m1 _cw_2 _e1 => ?_
  have _cw_2z := _cw_2.size
  have E := E.trans _cw_2
  have _z1 := _m1.lt
  replace _m1 : Blk _w_2 _b1 28 [(.int .i64 aS), (.slice _A_aA aA.length _C_aA), (.slice _A_saN saN.length _C_saN)] := _m1
  refine WL_step rfl rfl (r_assign rfl) ?_
  refine WL_step rfl rfl (r_assign rfl) ?_
  refine WL_nil ?_
  refine thn_nrm (_hK_1 _ _ ?_)
  clear _hK_1
  refine W_seq fun _K_3 _hK_3 => ?_
  refine W_drawC [] 8 mixed rfl fun _w_4 _cw_4 => ?_
  have _cw_4z := _cw_4.size
  have E := E.trans _cw_4
  have _f_5 := (_m1.ch0 _cw_4)
  refine DR_s 1 rfl (by kernel_rfl) rfl rfl (t_loadAtA0 _f_5.at_ (fun i hi => absurd hi List.not_mem_nil) agg28 sz28 rfl ?_)
  refine DR_one 0 (by kernel_rfl) ?_
  refine DO_s rfl rfl rfl ?_
  refine Step.call (r_call (xs := []) fk46 rfl) (c_spec_l11Nothing  ) fun _v7 _w_6 _q7 => ?_
  obtain ⟨u7_0x1, u7_0x2, _vs7_0x2, rfl, _q_u7_0x1, _lo_u7_0x1, _q_u7_0x2, _lo_u7_0x2, _od_vs7_0x2, _sep_vs7_0x2, _dj_u7_0x1_u7_0x2, _sep_u7_0x1_vs7_0x2, _cw_6⟩ := _q7
  have _cw_6z := _cw_6.size
  have E := E.trans _cw_6
  obtain ⟨Au7_0x1, Cu7_0x1, eu7_0x1⟩ := _q_u7_0x1.val
  subst eu7_0x1
  have lu7_0x1 := _q_u7_0x1.len
  have _hiu7_0x1 := _q_u7_0x1.lt
  obtain ⟨Au7_0x2, Cu7_0x2, eu7_0x2⟩ := _q_u7_0x2.val
  subst eu7_0x2
  have lu7_0x2 := _q_u7_0x2.len
  have _hiu7_0x2 := _q_u7_0x2.lt
  have _S_7 : Ch [] _w_4 _w_6 := ((Ch.refl _ _).trans _cw_6)
  refine ⟨_S_7, ?_⟩
  refine DR_one 2 (by kernel_rfl) ?_
  refine DO_s rfl rfl rfl ?_
  have _f_8 := (((_h_aA.ch0 _cw_2).ch0 _cw_4).ch0 _cw_6)
  have _f_9 := (((_rd_aN.ch0 _cw_2).ch0 _cw_4).ch0 _cw_6)
  have _f_10 := (((_h_saN.ch0 _cw_2).ch0 _cw_4).ch0 _cw_6)
  refine Step.call (r_call (xs := [.tmp 7, .tmp 8]) fk16 rfl) (c_spec_MissingWord _ _q_u7_0x1.ls _q_u7_0x2.ls _od_vs7_0x2.rd _ _f_8 _f_10 _f_9 ) fun _v9 _w_11 _q9 => ?_
  obtain ⟨u9_0, rfl, _q_u9_0, _lo_u9_0, _cw_11⟩ := _q9
  have _cw_11z := _cw_11.size
  have E := E.trans _cw_11
  obtain ⟨Au9_0, Cu9_0, eu9_0⟩ := _q_u9_0.val
  subst eu9_0
  have lu9_0 := _q_u9_0.len
  have _hiu9_0 := _q_u9_0.lt
  have _S_12 : Ch [] _w_4 _w_11 := (_S_7.trans _cw_11)
  refine ⟨_S_12, ?_⟩
  refine DR_s 3 rfl (by kernel_rfl) rfl rfl (t_v (fun _ => (r_move rfl)) ?_)
  refine DR_s 4 rfl (by kernel_rfl) rfl rfl (t_v (fun _ => (r_extract rfl rfl)) ?_)
  refine DR_s 5 rfl (by kernel_rfl) rfl rfl (t_v (fun _ => (r_extract rfl rfl)) ?_)
  refine DR_s 6 rfl (by kernel_rfl) rfl rfl (t_v (fun _ => (r_assign rfl)) ?_)
  refine DR_s 7 rfl (by kernel_rfl) rfl rfl (t_v (fun _ => (r_assign rfl)) ?_)
  refine DR_done (by kernel_rfl) ?_
  refine thn_nrm (_hK_3 _ _ ?_)
  clear _hK_3
  refine W_seq fun _K_13 _hK_13 => ?_
  refine W_region ?_
  refine WL_step rfl rfl (r_move rfl) ?_
  refine WL_step rfl rfl (r_move rfl) ?_
  refine WL_step rfl rfl (r_assign rfl) ?_
  refine WL_step rfl rfl (r_assign rfl) ?_
  refine WL_nil ?_
  refine thn_nrm (_hK_13 _ _ ?_)
  clear _hK_13
  refine W_ret ?_
  have _o_14 : Ol ics 3 1 _w_11 (.slice Au9_0 ((msR 0 ([false]) ([List.replicate 9 (-1 : Int)]) aS aA aN).1).length Cu9_0) ((saR aS aA aN).1) := by
    have hx := _q_u9_0
    rw [← sa_nothing nothing_ok]; exact hx
  exact ret_intro [_, _] ⟨rfl, ⟨rfl, trivial⟩⟩ ⟨(.slice Au9_0 ((msR 0 ([false]) ([List.replicate 9 (-1 : Int)]) aS aA aN).1).length Cu9_0), (congrArg (fun zq => (Value.tuple #[(.slice Au9_0 ((msR 0 ([false]) ([List.replicate 9 (-1 : Int)]) aS aA aN).1).length Cu9_0), .bool zq])) (by rw [← sa_nothing nothing_ok])), _o_14, (Lo.down _lo_u9_0 (by omega)), E⟩

/-- laws.FnExactShortestAccepted -/
theorem c_laws_FnExactShortestAccepted {w : World} (aS : Int) {LL_aA _B_aA : Nat} {_v_aA : Value} {aA : List Bool} (_h_aA : Ls bcs 1 w LL_aA _B_aA _v_aA aA) {LL_saN _B_saN : Nat} {_v_saN : Value} {saN : List Sv} (_h_saN : Ls Sv.cs 1 w LL_saN _B_saN _v_saN saN) {LR_aN BB_aN : Nat} {aN : List (List Int)} (_rd_aN : Rd ics 1 w LR_aN BB_aN saN aN) :
    Ctr Try.prog 7 #[(.agg #[(.int .i64 aS), _v_aA, _v_saN])] w (fun v w' => v = .bool (true) ∧ Ch [] w w') := by
  obtain ⟨_A_aA, _C_aA, _e1_aA⟩ := _h_aA.val
  subst _e1_aA
  have _l_aA := _h_aA.len
  have _h_aA := _h_aA.here (by decide)
  obtain ⟨_A_saN, _C_saN, _e1_saN⟩ := _h_saN.val
  subst _e1_saN
  have _l_saN := _h_saN.len
  have _h_saN := _h_saN.here (by decide)
  have _rd_aN := _rd_aN.here (by decide)
  have _rl_aN := _rd_aN.1
  have E := Ch.refl [] w
  have ml9 := saR_len aS aA aN
  refine Ctr_of_W (N := 96) (vs0 := [(.agg #[(.int .i64 aS), (.slice _A_aA aA.length _C_aA), (.slice _A_saN saN.length _C_saN)])]) Try.func7 rfl rfl rfl ?_
  refine W_seq fun _K_1 _hK_1 => ?_
  refine W_region ?_
  refine WL_s rfl rfl ?_
  refine s_box rfl fun _b1 _w_2 _m1 _cw_2 _e1 => ?_
  have _cw_2z := _cw_2.size
  have E := E.trans _cw_2
  have _z1 := _m1.lt
  replace _m1 : Blk _w_2 _b1 25 [(.int .i64 aS), (.slice _A_aA aA.length _C_aA), (.slice _A_saN saN.length _C_saN)] := _m1
  refine WL_step rfl rfl (r_assign rfl) ?_
  refine WL_nil ?_
  refine thn_nrm (_hK_1 _ _ ?_)
  clear _hK_1
  refine W_seq fun _K_3 _hK_3 => ?_
  refine W_region ?_
  refine WL_step rfl rfl (r_assign rfl) ?_
  refine WL_nil ?_
  refine thn_nrm (_hK_3 _ _ ?_)
  clear _hK_3
  refine W_seq fun _K_4 _hK_4 => ?_
  refine W_region ?_
  refine WL_step rfl rfl (r_loadAtA0 _m1.at_ agg25 sz25 rfl) ?_
  refine WL_step rfl rfl (r_move rfl) ?_
  refine WL_s rfl rfl ?_
  have _f_5 := (_h_aA.ch0 _cw_2)
  have _f_6 := (_rd_aN.ch0 _cw_2)
  have _f_7 := (_h_saN.ch0 _cw_2)
  refine Step.call (r_call (xs := [.tmp 14, .tmp 15]) fk9 rfl) (c_laws_szAutomaton _ _f_5 _f_7 _f_6 _ (by omega) (by omega)) fun _v16 _w_8 _q16 => ?_
  obtain ⟨rfl, _cw_8⟩ := _q16
  have _cw_8z := _cw_8.size
  have E := E.trans _cw_8
  refine WL_step rfl rfl (r_assign rfl) ?_
  refine WL_nil ?_
  refine thn_nrm (_hK_4 _ _ ?_)
  clear _hK_4
  refine W_seq fun _K_9 _hK_9 => ?_
  refine W_seq fun _K_10 _hK_10 => ?_
  refine W_region ?_
  refine WL_step rfl rfl (r_move rfl) ?_
  refine WL_step rfl rfl (r_lss rfl rfl) ?_
  refine WL_nil ?_
  refine thn_nrm (_hK_10 _ _ ?_)
  clear _hK_10
  refine W_cond rfl (fun _h18 => ?_) (fun _h18 => ?_)
  · have _kb_11 := _h18
    have _h18 := bt_d _h18
    refine W_seq fun _K_12 _hK_12 => ?_
    refine W_region ?_
    refine WL_step rfl rfl (r_assign rfl) ?_
    refine WL_nil ?_
    refine thn_nrm (_hK_12 _ _ ?_)
    clear _hK_12
    refine W_ret (thn_ret ?_)
    clear _hK_9
    exact ret_intro [_] ⟨rfl, trivial⟩ ⟨congrArg Value.bool (by first | rfl | (exfalso; omega) | (exfalso; revert _h18; simp; done) | (exfalso; revert _h18; simp; omega)), E⟩
  · have _kb_11 := _h18
    have _h18 := bf_d _h18
    refine W_skip ?_
    refine thn_nrm (_hK_9 _ _ ?_)
    clear _hK_9
    refine W_seq fun _K_13 _hK_13 => ?_
    refine W_region ?_
    have _f_14 := (_m1.ch0 _cw_8)
    refine WL_step rfl rfl (r_loadAtA0 _f_14.at_ agg25 sz25 rfl) ?_
    refine WL_s rfl rfl ?_
    have _f_15 := (_f_5.ch0 _cw_8)
    have _f_16 := (_f_6.ch0 _cw_8)
    have _f_17 := (_f_7.ch0 _cw_8)
    refine Step.call (r_call (xs := [.tmp 20]) fk11 rfl) (c_laws_toAutomaton _ _f_15 _f_17 _f_16 (by omega)) fun _v21 _w_18 _q21 => ?_
    obtain ⟨u21_0x1, u21_0x2, _vs21_0x2, rfl, _q_u21_0x1, _lo_u21_0x1, _q_u21_0x2, _lo_u21_0x2, _od_vs21_0x2, _sep_vs21_0x2, _dj_u21_0x1_u21_0x2, _sep_u21_0x1_vs21_0x2, _cw_18⟩ := _q21
    have _cw_18z := _cw_18.size
    have E := E.trans _cw_18
    obtain ⟨Au21_0x1, Cu21_0x1, eu21_0x1⟩ := _q_u21_0x1.val
    subst eu21_0x1
    have lu21_0x1 := _q_u21_0x1.len
    have _hiu21_0x1 := _q_u21_0x1.lt
    obtain ⟨Au21_0x2, Cu21_0x2, eu21_0x2⟩ := _q_u21_0x2.val
    subst eu21_0x2
    have lu21_0x2 := _q_u21_0x2.len
    have _hiu21_0x2 := _q_u21_0x2.lt
    refine WL_s rfl rfl ?_
    refine Step.call (r_call (xs := [.tmp 21]) fk24 rfl) (c_spec_ShortestAccepted _ _q_u21_0x1.ls _q_u21_0x2.ls _od_vs21_0x2.rd ) fun _v22 _w_19 _q22 => ?_
    obtain ⟨u22_0, rfl, _q_u22_0, _lo_u22_0, _cw_19⟩ := _q22
    have _cw_19z := _cw_19.size
    have E := E.trans _cw_19
    obtain ⟨Au22_0, Cu22_0, eu22_0⟩ := _q_u22_0.val
    subst eu22_0
    have lu22_0 := _q_u22_0.len
    have _hiu22_0 := _q_u22_0.lt
    refine WL_step rfl rfl (r_move rfl) ?_
    refine WL_step rfl rfl (r_extract rfl rfl) ?_
    refine WL_step rfl rfl (r_extract rfl rfl) ?_
    refine WL_step rfl rfl (r_assign rfl) ?_
    refine WL_step rfl rfl (r_assign rfl) ?_
    refine WL_nil ?_
    refine thn_nrm (_hK_13 _ _ ?_)
    clear _hK_13
    refine W_seq fun _K_20 _hK_20 => ?_
    refine W_region ?_
    have _f_21 := ((_f_14.ch0 _cw_18).ch0 _cw_19)
    refine WL_step rfl rfl (r_loadAtA0 _f_21.at_ agg25 sz25 rfl) ?_
    refine WL_s rfl rfl ?_
    have _f_22 := ((_f_15.ch0 _cw_18).ch0 _cw_19)
    have _f_23 := ((_f_16.ch0 _cw_18).ch0 _cw_19)
    have _f_24 := ((_f_17.ch0 _cw_18).ch0 _cw_19)
    refine Step.call (r_call (xs := [.tmp 25]) fk11 rfl) (c_laws_toAutomaton _ _f_22 _f_24 _f_23 (by omega)) fun _v26 _w_25 _q26 => ?_
    obtain ⟨u26_0x1, u26_0x2, _vs26_0x2, rfl, _q_u26_0x1, _lo_u26_0x1, _q_u26_0x2, _lo_u26_0x2, _od_vs26_0x2, _sep_vs26_0x2, _dj_u26_0x1_u26_0x2, _sep_u26_0x1_vs26_0x2, _cw_25⟩ := _q26
    have _cw_25z := _cw_25.size
    have E := E.trans _cw_25
    obtain ⟨Au26_0x1, Cu26_0x1, eu26_0x1⟩ := _q_u26_0x1.val
    subst eu26_0x1
    have lu26_0x1 := _q_u26_0x1.len
    have _hiu26_0x1 := _q_u26_0x1.lt
    obtain ⟨Au26_0x2, Cu26_0x2, eu26_0x2⟩ := _q_u26_0x2.val
    subst eu26_0x2
    have lu26_0x2 := _q_u26_0x2.len
    have _hiu26_0x2 := _q_u26_0x2.lt
    refine WL_s rfl rfl ?_
    refine s_alloc zr28 fun _b6 _w_26 _m6 _cw_26 _e6 => ?_
    have _cw_26z := _cw_26.size
    have E := E.trans _cw_26
    have _z6 := _m6.lt
    replace _m6 : Blk _w_26 _b6 28 [(.int .i64 0), (.slice none 0 0), (.slice none 0 0)] := _m6
    refine WL_s rfl rfl ?_
    refine s_storeA (off := 0) 3 _m6 sz28 rfl (us := [(.int .i64 aS), (.slice Au26_0x1 (aA).length Cu26_0x1), (.slice Au26_0x2 (_vs26_0x2).length Cu26_0x2)]) rfl rfl rfl rfl fun _w_27 _m_28 _cw_27 => ?_
    have _cw_27z := _cw_27.size
    have E := E.step _cw_27 (fun i hi => .inl (by have _h1 := List.mem_singleton.1 hi; omega))
    replace _m_28 : Blk _w_27 _b6 28 [(.int .i64 aS), (.slice Au26_0x1 (aA).length Cu26_0x1), (.slice Au26_0x2 (_vs26_0x2).length Cu26_0x2)] := _m_28
    refine WL_nil ?_
    refine thn_nrm (_hK_20 _ _ ?_)
    clear _hK_20
    refine W_seq fun _K_29 _hK_29 => ?_
    refine W_region ?_
    refine WL_step rfl rfl (r_loadAtA0 _m_28.at_ agg28 sz28 rfl) ?_
    refine WL_s rfl rfl ?_
    have _f_30 := ((_q_u26_0x1.ch0 _cw_26).ch _cw_27 (fun g hg hm => by have _h0 := List.mem_singleton.1 hm; have _h2 := _lo_u26_0x1 _ hg; have _h3 := _hiu26_0x1 _ hg; omega))
    have _f_31 := ((_od_vs26_0x2.ch0 _cw_26).ch _cw_27 (fun i hi => by have _h1 := List.mem_singleton.1 hi; omega))
    have _f_32 := ((_q_u26_0x2.ch0 _cw_26).ch _cw_27 (fun g hg hm => by have _h0 := List.mem_singleton.1 hm; have _h2 := _lo_u26_0x2 _ hg; have _h3 := _hiu26_0x2 _ hg; omega))
    refine Step.call (r_call (xs := [.tmp 28]) fk25 rfl) (c_impl_ShortestAccepted _ _f_30.ls _f_32.ls _f_31.rd ) fun _v29 _w_33 _q29 => ?_
    obtain ⟨u29_0, rfl, _q_u29_0, _lo_u29_0, _cw_33⟩ := _q29
    have _cw_33z := _cw_33.size
    have E := E.trans _cw_33
    obtain ⟨Au29_0, Cu29_0, eu29_0⟩ := _q_u29_0.val
    subst eu29_0
    have lu29_0 := _q_u29_0.len
    have _hiu29_0 := _q_u29_0.lt
    refine WL_step rfl rfl (r_move rfl) ?_
    refine WL_step rfl rfl (r_extract rfl rfl) ?_
    refine WL_step rfl rfl (r_extract rfl rfl) ?_
    refine WL_step rfl rfl (r_assign rfl) ?_
    refine WL_step rfl rfl (r_assign rfl) ?_
    refine WL_nil ?_
    refine thn_nrm (_hK_29 _ _ ?_)
    clear _hK_29
    refine W_seq fun _K_34 _hK_34 => ?_
    refine W_seq fun _K_35 _hK_35 => ?_
    refine W_region ?_
    refine WL_step rfl rfl (r_move rfl) ?_
    refine WL_step rfl rfl (r_move rfl) ?_
    refine WL_s rfl rfl ?_
    have _f_36 := ((((_q_u22_0.ch0 _cw_25).ch0 _cw_26).ch _cw_27 (fun g hg hm => by have _h0 := List.mem_singleton.1 hm; have _h2 := _lo_u22_0 _ hg; have _h3 := _hiu22_0 _ hg; omega)).ch0 _cw_33)
    refine Step.call (r_call (xs := [.tmp 32, .tmp 33]) fk18 rfl) (c_laws_eqIntS _q_u29_0.ls _f_36.ls ) fun _v34 _w_37 _q34 => ?_
    obtain ⟨rfl, _cw_37⟩ := _q34
    have _cw_37z := _cw_37.size
    have E := E.trans _cw_37
    refine WL_step rfl rfl (r_not rfl) ?_
    refine WL_step rfl rfl (r_move rfl) ?_
    refine WL_split (d := 36) rfl (fun _h36 => ?_) (fun _h36 => ?_)
    · have _kb_38 := _h36
      have _h36 := bf_d (bt_n _h36)
      refine WL_skip rfl rfl ?_
      refine WL_skip rfl rfl ?_
      refine WL_skip rfl rfl ?_
      refine WL_step rfl rfl (r_pickT rfl rfl) ?_
      refine WL_nil ?_
      refine thn_nrm (_hK_35 _ _ ?_)
      clear _hK_35
      refine W_condT rfl ?_
      refine W_seq fun _K_39 _hK_39 => ?_
      refine W_region ?_
      refine WL_step rfl rfl (r_assign rfl) ?_
      refine WL_nil ?_
      refine thn_nrm (_hK_39 _ _ ?_)
      clear _hK_39
      refine W_ret (thn_ret ?_)
      clear _hK_34
      exact ret_intro [_] ⟨rfl, trivial⟩ ⟨congrArg Value.bool (by first | rfl | (exfalso; omega) | (exfalso; revert _h36; simp; done) | (exfalso; revert _h36; simp; omega)), E⟩
    · have _kb_38 := _h36
      have _h36 := bt_d (bf_n _h36)
      refine WL_step rfl rfl (r_move rfl) ?_
      refine WL_step rfl rfl (r_move rfl) ?_
      refine WL_step rfl rfl (r_neqB un4 rfl rfl) ?_
      refine WL_step rfl rfl (r_pickF rfl rfl) ?_
      refine WL_nil ?_
      refine thn_nrm (_hK_35 _ _ ?_)
      clear _hK_35
      refine W_cond rfl (fun _h40 => ?_) (fun _h40 => ?_)
      · have _kb_40 := _h40
        have _h40 := bf_e (bt_n _h40)
        refine W_seq fun _K_41 _hK_41 => ?_
        refine W_region ?_
        refine WL_step rfl rfl (r_assign rfl) ?_
        refine WL_nil ?_
        refine thn_nrm (_hK_41 _ _ ?_)
        clear _hK_41
        refine W_ret (thn_ret ?_)
        clear _hK_34
        exact ret_intro [_] ⟨rfl, trivial⟩ ⟨congrArg Value.bool (by first | rfl | (exfalso; omega) | (exfalso; revert _h40; simp; done) | (exfalso; revert _h40; simp; omega)), E⟩
      · have _kb_40 := _h40
        have _h40 := bt_e (bf_n _h40)
        refine W_skip ?_
        refine thn_nrm (_hK_34 _ _ ?_)
        clear _hK_34
        refine W_seq fun _K_42 _hK_42 => ?_
        refine W_seq fun _K_43 _hK_43 => ?_
        refine W_drawC [] 5 mixed rfl fun _w_44 _cw_44 => ?_
        have _cw_44z := _cw_44.size
        have E := E.trans _cw_44
        have _f_45 := (((_m_28.ch0 _cw_33).ch0 _cw_37).ch0 _cw_44)
        refine DR_s 0 rfl (by kernel_rfl) rfl rfl (t_loadAtA0 _f_45.at_ (fun i hi => absurd hi List.not_mem_nil) agg28 sz28 rfl ?_)
        have _f_46 := ((((((_f_21.ch0 _cw_25).ch0 _cw_26).ch _cw_27 (fun hm => by have _h1 := List.mem_singleton.1 hm; omega)).ch0 _cw_33).ch0 _cw_37).ch0 _cw_44)
        refine DR_s 1 rfl (by kernel_rfl) rfl rfl (t_loadAtA0 _f_46.at_ (fun i hi => absurd hi List.not_mem_nil) agg25 sz25 rfl ?_)
        refine DR_one 2 (by kernel_rfl) ?_
        refine DO_s rfl rfl rfl ?_
        have _f_47 := ((((((_f_22.ch0 _cw_25).ch0 _cw_26).ch _cw_27 (fun i hi => by have _h1 := List.mem_singleton.1 hi; omega)).ch0 _cw_33).ch0 _cw_37).ch0 _cw_44)
        have _f_48 := ((((((_f_23.ch0 _cw_25).ch0 _cw_26).ch _cw_27 (fun i hi => by have _h1 := List.mem_singleton.1 hi; omega)).ch0 _cw_33).ch0 _cw_37).ch0 _cw_44)
        have _f_49 := ((((((_f_24.ch0 _cw_25).ch0 _cw_26).ch _cw_27 (fun i hi => by have _h1 := List.mem_singleton.1 hi; omega)).ch0 _cw_33).ch0 _cw_37).ch0 _cw_44)
        refine Step.call (r_call (xs := [.tmp 42]) fk11 rfl) (c_laws_toAutomaton _ _f_47 _f_49 _f_48 (by omega)) fun _v43 _w_50 _q43 => ?_
        obtain ⟨u43_0x1, u43_0x2, _vs43_0x2, rfl, _q_u43_0x1, _lo_u43_0x1, _q_u43_0x2, _lo_u43_0x2, _od_vs43_0x2, _sep_vs43_0x2, _dj_u43_0x1_u43_0x2, _sep_u43_0x1_vs43_0x2, _cw_50⟩ := _q43
        have _cw_50z := _cw_50.size
        have E := E.trans _cw_50
        obtain ⟨Au43_0x1, Cu43_0x1, eu43_0x1⟩ := _q_u43_0x1.val
        subst eu43_0x1
        have lu43_0x1 := _q_u43_0x1.len
        have _hiu43_0x1 := _q_u43_0x1.lt
        obtain ⟨Au43_0x2, Cu43_0x2, eu43_0x2⟩ := _q_u43_0x2.val
        subst eu43_0x2
        have lu43_0x2 := _q_u43_0x2.len
        have _hiu43_0x2 := _q_u43_0x2.lt
        have _S_51 : Ch [] _w_44 _w_50 := ((Ch.refl _ _).trans _cw_50)
        refine ⟨_S_51, ?_⟩
        refine DR_one 3 (by kernel_rfl) ?_
        refine DO_s rfl rfl rfl ?_
        have _f_52 := ((((_f_30.ch0 _cw_33).ch0 _cw_37).ch0 _cw_44).ch0 _cw_50)
        have _f_53 := ((((_f_31.ch0 _cw_33).ch0 _cw_37).ch0 _cw_44).ch0 _cw_50)
        have _f_54 := ((((_f_32.ch0 _cw_33).ch0 _cw_37).ch0 _cw_44).ch0 _cw_50)
        refine Step.call (r_call (xs := [.tmp 41, .tmp 43]) fk13 rfl) (c_laws_eqAutomaton _ _f_52.ls _f_54.ls _f_53.rd _ _q_u43_0x1.ls _q_u43_0x2.ls _od_vs43_0x2.rd ) fun _v44 _w_55 _q44 => ?_
        obtain ⟨rfl, _cw_55⟩ := _q44
        have _cw_55z := _cw_55.size
        have E := E.trans _cw_55
        have _S_56 : Ch [] _w_44 _w_55 := (_S_51.trans _cw_55)
        refine ⟨_S_56, ?_⟩
        refine DR_s 4 rfl (by kernel_rfl) rfl rfl (t_v (fun _ => (r_not rfl)) ?_)
        refine DR_done (by kernel_rfl) ?_
        refine thn_nrm (_hK_43 _ _ ?_)
        clear _hK_43
        refine W_cond rfl (fun _h45 => ?_) (fun _h45 => ?_)
        · have _kb_57 := _h45
          have _h45 := bf_d (bt_n _h45)
          refine W_seq fun _K_58 _hK_58 => ?_
          refine W_region ?_
          refine WL_step rfl rfl (r_assign rfl) ?_
          refine WL_nil ?_
          refine thn_nrm (_hK_58 _ _ ?_)
          clear _hK_58
          refine W_ret (thn_ret ?_)
          clear _hK_42
          exact ret_intro [_] ⟨rfl, trivial⟩ ⟨congrArg Value.bool (by first | rfl | (exfalso; omega) | (exfalso; revert _h45; simp; done) | (exfalso; revert _h45; simp; omega)), E⟩
        · have _kb_57 := _h45
          have _h45 := bt_d (bf_n _h45)
          refine W_skip ?_
          refine thn_nrm (_hK_42 _ _ ?_)
          clear _hK_42
          refine W_seq fun _K_59 _hK_59 => ?_
          refine W_region ?_
          refine WL_step rfl rfl (r_assign rfl) ?_
          refine WL_nil ?_
          refine thn_nrm (_hK_59 _ _ ?_)
          clear _hK_59
          refine W_seq fun _K_60 _hK_60 => ?_
          refine W_region ?_
          have _f_61 := ((_f_45.ch0 _cw_50).ch0 _cw_55)
          refine WL_step rfl rfl (r_loadAtA0 _f_61.at_ agg28 sz28 rfl) ?_
          refine WL_step rfl rfl (r_move rfl) ?_
          refine WL_s rfl rfl ?_
          have _f_62 := (_f_52.ch0 _cw_55)
          have _f_63 := (_f_54.ch0 _cw_55)
          have _f_64 := (_f_53.ch0 _cw_55)
          refine Step.call (r_call (xs := [.tmp 46, .tmp 47]) fk19 rfl) (c_laws_markAutomaton _ _f_62 _f_63 (_f_64.up (lo' := _w_19.heap.size) (hi' := _w_25.heap.size) (by omega) (by omega)) (fun g hm => by have _h1 := _lo_u26_0x2 _ hm; have _h2 := _hiu26_0x2 _ hm; omega) _sep_vs26_0x2 (by omega) (fun g hm => by have _h1 := _lo_u26_0x1 _ hm; have _h2 := _hiu26_0x1 _ hm; omega) (fun g hm hg => by exact _dj_u26_0x1_u26_0x2 _ hm hg) _sep_u26_0x1_vs26_0x2 _ (by omega) (by first | omega | (simp <;> omega))) fun _v48 _w_65 _q48 => ?_
          obtain ⟨rfl, _cw_65⟩ := _q48
          have _cw_65z := _cw_65.size
          have E := E.step _cw_65 (fun i hm => by have _h1 := mem_rg hm; left; omega)
          refine WL_step rfl rfl (r_assign rfl) ?_
          refine WL_nil ?_
          refine thn_nrm (_hK_60 _ _ ?_)
          clear _hK_60
          refine W_seq fun _K_66 _hK_66 => ?_
          refine W_seq fun _K_67 _hK_67 => ?_
          refine W_region ?_
          refine WL_step rfl rfl (r_move rfl) ?_
          refine WL_step rfl rfl (r_lss rfl rfl) ?_
          refine WL_step rfl rfl (r_move rfl) ?_
          refine WL_split (d := 51) rfl (fun _h51 => ?_) (fun _h51 => ?_)
          · have _kb_68 := _h51
            have _h51 := bt_d _h51
            refine WL_skip rfl rfl ?_
            refine WL_skip rfl rfl ?_
            refine WL_skip rfl rfl ?_
            refine WL_skip rfl rfl ?_
            refine WL_step rfl rfl (r_pickT rfl rfl) ?_
            refine WL_step rfl rfl (r_move rfl) ?_
            refine WL_skip rfl rfl ?_
            refine WL_skip rfl rfl ?_
            refine WL_skip rfl rfl ?_
            refine WL_step rfl rfl (r_pickT rfl rfl) ?_
            refine WL_nil ?_
            refine thn_nrm (_hK_67 _ _ ?_)
            clear _hK_67
            refine W_condT rfl ?_
            refine W_seq fun _K_69 _hK_69 => ?_
            refine W_region ?_
            refine WL_step rfl rfl (r_assign rfl) ?_
            refine WL_nil ?_
            refine thn_nrm (_hK_69 _ _ ?_)
            clear _hK_69
            refine W_ret (thn_ret ?_)
            clear _hK_66
            exact ret_intro [_] ⟨rfl, trivial⟩ ⟨congrArg Value.bool (by first | rfl | (exfalso; omega) | (exfalso; revert _h51; simp; done) | (exfalso; revert _h51; simp; omega)), E⟩
          · have _kb_68 := _h51
            have _h51 := bf_d _h51
            refine WL_step rfl rfl (r_move rfl) ?_
            refine WL_step rfl rfl (r_move rfl) ?_
            refine WL_s rfl rfl ?_
            have _f_70 := (((((_q_u29_0.ch0 _cw_37).ch0 _cw_44).ch0 _cw_50).ch0 _cw_55).ch _cw_65 (fun g hg hm => by have _h0 := mem_rg hm; have _h1 := _lo_u29_0 _ hg; have _h2 := _hiu29_0 _ hg; omega))
            have _f_71 := (((((_f_36.ch0 _cw_37).ch0 _cw_44).ch0 _cw_50).ch0 _cw_55).ch _cw_65 (fun g hg hm => by have _h0 := mem_rg hm; have _h1 := _lo_u22_0 _ hg; have _h2 := _hiu22_0 _ hg; omega))
            refine Step.call (r_call (xs := [.tmp 52, .tmp 53]) fk18 rfl) (c_laws_eqIntS _f_70.ls _f_71.ls ) fun _v54 _w_72 _q54 => ?_
            obtain ⟨rfl, _cw_72⟩ := _q54
            have _cw_72z := _cw_72.size
            have E := E.trans _cw_72
            refine WL_step rfl rfl (r_not rfl) ?_
            refine WL_step rfl rfl (r_pickF rfl rfl) ?_
            refine WL_step rfl rfl (r_move rfl) ?_
            refine WL_splitF (d := 57) rfl _kb_38 ?_
            refine WL_step rfl rfl (r_move rfl) ?_
            refine WL_step rfl rfl (r_move rfl) ?_
            refine WL_step rfl rfl (r_neqB un4 rfl rfl) ?_
            refine WL_step rfl rfl (r_pickF rfl rfl) ?_
            refine WL_nil ?_
            refine thn_nrm (_hK_67 _ _ ?_)
            clear _hK_67
            refine W_condFk rfl _kb_40 ?_
            refine W_skip ?_
            refine thn_nrm (_hK_66 _ _ ?_)
            clear _hK_66
            refine W_seq fun _K_73 _hK_73 => ?_
            refine W_region ?_
            refine WL_step rfl rfl (r_assign rfl) ?_
            refine WL_nil ?_
            refine thn_nrm (_hK_73 _ _ ?_)
            clear _hK_73
            refine W_seq fun _K_74 _hK_74 => ?_
            refine W_region ?_
            refine WL_step rfl rfl (r_move rfl) ?_
            refine WL_step rfl rfl (r_move rfl) ?_
            refine WL_s rfl rfl ?_
            have _f_75 := (_f_70.ch0 _cw_72)
            refine Step.call (r_call (xs := [.tmp 62, .tmp 63]) fk20 rfl) (c_laws_markIntS _f_75 _ (by omega) (by first | omega | (simp <;> omega))) fun _v64 _w_76 _q64 => ?_
            obtain ⟨rfl, _q64, _cw_76⟩ := _q64
            have _cw_76z := _cw_76.size
            have E := E.step _cw_76 (fun i hi => .inl (by have _h1 := _lo_u29_0 _ hi; omega))
            refine WL_step rfl rfl (r_assign rfl) ?_
            refine WL_nil ?_
            refine thn_nrm (_hK_74 _ _ ?_)
            clear _hK_74
            refine W_seq fun _K_77 _hK_77 => ?_
            refine W_region ?_
            refine WL_step rfl rfl (r_assign rfl) ?_
            refine WL_nil ?_
            refine thn_nrm (_hK_77 _ _ ?_)
            clear _hK_77
            refine W_seq fun _K_78 _hK_78 => ?_
            refine W_region ?_
            refine WL_step rfl rfl (r_move rfl) ?_
            refine WL_step rfl rfl (r_move rfl) ?_
            refine WL_s rfl rfl ?_
            refine Step.call (r_call (xs := [.tmp 65, .tmp 66]) fk21 rfl) (c_laws_heldIntS _q64.ls _ (by omega) (by first | omega | (simp <;> omega))) fun _v67 _w_79 _q67 => ?_
            obtain ⟨rfl, _cw_79⟩ := _q67
            have _cw_79z := _cw_79.size
            have E := E.trans _cw_79
            refine WL_step rfl rfl (r_assign rfl) ?_
            refine WL_nil ?_
            refine thn_nrm (_hK_78 _ _ ?_)
            clear _hK_78
            refine W_seq fun _K_80 _hK_80 => ?_
            refine W_seq fun _K_81 _hK_81 => ?_
            refine W_region ?_
            refine WL_step rfl rfl (r_move rfl) ?_
            refine WL_step rfl rfl (r_lss rfl rfl) ?_
            refine WL_nil ?_
            refine thn_nrm (_hK_81 _ _ ?_)
            clear _hK_81
            refine W_cond rfl (fun _h69 => ?_) (fun _h69 => ?_)
            · have _kb_82 := _h69
              have _h69 := bt_d _h69
              refine W_seq fun _K_83 _hK_83 => ?_
              refine W_region ?_
              refine WL_step rfl rfl (r_assign rfl) ?_
              refine WL_nil ?_
              refine thn_nrm (_hK_83 _ _ ?_)
              clear _hK_83
              refine W_ret (thn_ret ?_)
              clear _hK_80
              exact ret_intro [_] ⟨rfl, trivial⟩ ⟨congrArg Value.bool (by first | rfl | (exfalso; omega) | (exfalso; revert _h69; simp; done) | (exfalso; revert _h69; simp; omega)), E⟩
            · have _kb_82 := _h69
              have _h69 := bf_d _h69
              refine W_skip ?_
              refine thn_nrm (_hK_80 _ _ ?_)
              clear _hK_80
              refine W_seq fun _K_84 _hK_84 => ?_
              refine W_seq fun _K_85 _hK_85 => ?_
              refine W_region ?_
              refine WL_step rfl rfl (r_move rfl) ?_
              refine WL_step rfl rfl (r_move rfl) ?_
              refine WL_step rfl rfl (r_neq rfl rfl) ?_
              refine WL_nil ?_
              refine thn_nrm (_hK_85 _ _ ?_)
              clear _hK_85
              refine W_cond rfl (fun _h72 => ?_) (fun _h72 => ?_)
              · have _kb_86 := _h72
                have _h72 := bf_d (bt_n _h72)
                refine W_seq fun _K_87 _hK_87 => ?_
                refine W_region ?_
                refine WL_step rfl rfl (r_assign rfl) ?_
                refine WL_nil ?_
                refine thn_nrm (_hK_87 _ _ ?_)
                clear _hK_87
                refine W_ret (thn_ret ?_)
                clear _hK_84
                exact ret_intro [_] ⟨rfl, trivial⟩ ⟨congrArg Value.bool (by first | rfl | (exfalso; omega) | (exfalso; revert _h72; simp; done) | (exfalso; revert _h72; simp; omega)), E⟩
              · have _kb_86 := _h72
                have _h72 := bt_d (bf_n _h72)
                refine W_skip ?_
                refine thn_nrm (_hK_84 _ _ ?_)
                clear _hK_84
                refine W_seq fun _K_88 _hK_88 => ?_
                refine W_region ?_
                have _f_89 := ((((((_f_46.ch0 _cw_50).ch0 _cw_55).ch _cw_65 (fun hm => by have _h1 := mem_rg hm; omega)).ch0 _cw_72).ch _cw_76 (fun hm => by have _h1 := _lo_u29_0 _ hm; have _h2 := _hiu29_0 _ hm; omega)).ch0 _cw_79)
                refine WL_step rfl rfl (r_loadAtA0 _f_89.at_ agg25 sz25 rfl) ?_
                refine WL_s rfl rfl ?_
                have _f_90 := ((((((_f_47.ch0 _cw_50).ch0 _cw_55).ch _cw_65 (fun i hm => by have _h1 := mem_rg hm; omega)).ch0 _cw_72).ch _cw_76 (fun i hi => by have _h1 := _lo_u29_0 _ hi; omega)).ch0 _cw_79)
                have _f_91 := ((((((_f_48.ch0 _cw_50).ch0 _cw_55).ch _cw_65 (fun i hm => by have _h1 := mem_rg hm; omega)).ch0 _cw_72).ch _cw_76 (fun i hi => by have _h1 := _lo_u29_0 _ hi; omega)).ch0 _cw_79)
                have _f_92 := ((((((_f_49.ch0 _cw_50).ch0 _cw_55).ch _cw_65 (fun i hm => by have _h1 := mem_rg hm; omega)).ch0 _cw_72).ch _cw_76 (fun i hi => by have _h1 := _lo_u29_0 _ hi; omega)).ch0 _cw_79)
                refine Step.call (r_call (xs := [.tmp 74]) fk11 rfl) (c_laws_toAutomaton _ _f_90 _f_92 _f_91 (by omega)) fun _v75 _w_93 _q75 => ?_
                obtain ⟨u75_0x1, u75_0x2, _vs75_0x2, rfl, _q_u75_0x1, _lo_u75_0x1, _q_u75_0x2, _lo_u75_0x2, _od_vs75_0x2, _sep_vs75_0x2, _dj_u75_0x1_u75_0x2, _sep_u75_0x1_vs75_0x2, _cw_93⟩ := _q75
                have _cw_93z := _cw_93.size
                have E := E.trans _cw_93
                obtain ⟨Au75_0x1, Cu75_0x1, eu75_0x1⟩ := _q_u75_0x1.val
                subst eu75_0x1
                have lu75_0x1 := _q_u75_0x1.len
                have _hiu75_0x1 := _q_u75_0x1.lt
                obtain ⟨Au75_0x2, Cu75_0x2, eu75_0x2⟩ := _q_u75_0x2.val
                subst eu75_0x2
                have lu75_0x2 := _q_u75_0x2.len
                have _hiu75_0x2 := _q_u75_0x2.lt
                refine WL_s rfl rfl ?_
                refine Step.call (r_call (xs := [.tmp 75]) fk25 rfl) (c_impl_ShortestAccepted _ _q_u75_0x1.ls _q_u75_0x2.ls _od_vs75_0x2.rd ) fun _v76 _w_94 _q76 => ?_
                obtain ⟨u76_0, rfl, _q_u76_0, _lo_u76_0, _cw_94⟩ := _q76
                have _cw_94z := _cw_94.size
                have E := E.trans _cw_94
                obtain ⟨Au76_0, Cu76_0, eu76_0⟩ := _q_u76_0.val
                subst eu76_0
                have lu76_0 := _q_u76_0.len
                have _hiu76_0 := _q_u76_0.lt
                refine WL_step rfl rfl (r_move rfl) ?_
                refine WL_step rfl rfl (r_extract rfl rfl) ?_
                refine WL_step rfl rfl (r_extract rfl rfl) ?_
                refine WL_step rfl rfl (r_assign rfl) ?_
                refine WL_step rfl rfl (r_assign rfl) ?_
                refine WL_nil ?_
                refine thn_nrm (_hK_88 _ _ ?_)
                clear _hK_88
                refine W_seq fun _K_95 _hK_95 => ?_
                refine W_seq fun _K_96 _hK_96 => ?_
                refine W_region ?_
                refine WL_step rfl rfl (r_move rfl) ?_
                refine WL_step rfl rfl (r_move rfl) ?_
                refine WL_s rfl rfl ?_
                have _f_97 := (((((_f_71.ch0 _cw_72).ch _cw_76 (fun g hg hm => by have _h1 := _lo_u29_0 _ hm; have _h2 := _hiu29_0 _ hm; have _h3 := _lo_u22_0 _ hg; have _h4 := _hiu22_0 _ hg; omega)).ch0 _cw_79).ch0 _cw_93).ch0 _cw_94)
                refine Step.call (r_call (xs := [.tmp 79, .tmp 80]) fk18 rfl) (c_laws_eqIntS _q_u76_0.ls _f_97.ls ) fun _v81 _w_98 _q81 => ?_
                obtain ⟨rfl, _cw_98⟩ := _q81
                have _cw_98z := _cw_98.size
                have E := E.trans _cw_98
                refine WL_step rfl rfl (r_not rfl) ?_
                refine WL_step rfl rfl (r_move rfl) ?_
                refine WL_splitF (d := 83) rfl _kb_38 ?_
                refine WL_step rfl rfl (r_move rfl) ?_
                refine WL_step rfl rfl (r_move rfl) ?_
                refine WL_step rfl rfl (r_neqB un4 rfl rfl) ?_
                refine WL_step rfl rfl (r_pickF rfl rfl) ?_
                refine WL_nil ?_
                refine thn_nrm (_hK_96 _ _ ?_)
                clear _hK_96
                refine W_condFk rfl _kb_40 ?_
                refine W_skip ?_
                refine thn_nrm (_hK_95 _ _ ?_)
                clear _hK_95
                refine W_seq fun _K_99 _hK_99 => ?_
                refine W_region ?_
                refine WL_step rfl rfl (r_assign rfl) ?_
                refine WL_nil ?_
                refine thn_nrm (_hK_99 _ _ ?_)
                clear _hK_99
                refine W_seq fun _K_100 _hK_100 => ?_
                refine W_region ?_
                refine WL_step rfl rfl (r_move rfl) ?_
                refine WL_step rfl rfl (r_move rfl) ?_
                refine WL_s rfl rfl ?_
                have _f_101 := ((((_q64.ch0 _cw_79).ch0 _cw_93).ch0 _cw_94).ch0 _cw_98)
                refine Step.call (r_call (xs := [.tmp 88, .tmp 89]) fk21 rfl) (c_laws_heldIntS _f_101.ls _ (by omega) (by first | omega | (simp <;> omega))) fun _v90 _w_102 _q90 => ?_
                obtain ⟨rfl, _cw_102⟩ := _q90
                have _cw_102z := _cw_102.size
                have E := E.trans _cw_102
                refine WL_step rfl rfl (r_assign rfl) ?_
                refine WL_nil ?_
                refine thn_nrm (_hK_100 _ _ ?_)
                clear _hK_100
                refine W_seq fun _K_103 _hK_103 => ?_
                refine W_seq fun _K_104 _hK_104 => ?_
                refine W_region ?_
                refine WL_step rfl rfl (r_move rfl) ?_
                refine WL_step rfl rfl (r_lss rfl rfl) ?_
                refine WL_nil ?_
                refine thn_nrm (_hK_104 _ _ ?_)
                clear _hK_104
                refine W_condFk rfl _kb_82 ?_
                refine W_skip ?_
                refine thn_nrm (_hK_103 _ _ ?_)
                clear _hK_103
                refine W_seq fun _K_105 _hK_105 => ?_
                refine W_seq fun _K_106 _hK_106 => ?_
                refine W_region ?_
                refine WL_step rfl rfl (r_move rfl) ?_
                refine WL_step rfl rfl (r_move rfl) ?_
                refine WL_step rfl rfl (r_neq rfl rfl) ?_
                refine WL_nil ?_
                refine thn_nrm (_hK_106 _ _ ?_)
                clear _hK_106
                refine W_condFk rfl _kb_86 ?_
                refine W_skip ?_
                refine thn_nrm (_hK_105 _ _ ?_)
                clear _hK_105
                refine W_seq fun _K_107 _hK_107 => ?_
                refine W_region ?_
                refine WL_step rfl rfl (r_assign rfl) ?_
                refine WL_nil ?_
                refine thn_nrm (_hK_107 _ _ ?_)
                clear _hK_107
                refine W_ret ?_
                exact ret_intro [_] ⟨rfl, trivial⟩ ⟨congrArg Value.bool (by first | rfl | (exfalso; omega) | (exfalso; revert _h72; simp; done) | (exfalso; revert _h72; simp; omega)), E⟩

end Go.Proofs.Ytliecidadhlieaa
