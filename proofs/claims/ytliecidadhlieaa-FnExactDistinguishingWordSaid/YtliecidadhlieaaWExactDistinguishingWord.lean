/- Walks of functions that FnExactDistinguishingWord reaches: what each returns, and that it leaves the memory that was there alone. -/
import Derived.Test.YtliecidadhlieaaKF
import Derived.Test.YtliecidadhlieaaKG
import Derived.Test.YtliecidadhlieaaKH
import Derived.Test.YtliecidadhlieaaKI
import Derived.Test.YtliecidadhlieaaKJ
import Derived.Test.YtliecidadhlieaaKM
import Derived.Test.YtliecidadhlieaaKN
import Derived.Test.YtliecidadhlieaaKO
import Derived.Test.YtliecidadhlieaaKP
import Derived.Test.YtliecidadhlieaaKQ
import Derived.Test.YtliecidadhlieaaKR
import Derived.Test.YtliecidadhlieaaKS
import Derived.Test.YtliecidadhlieaaKT
import Derived.Test.YtliecidadhlieaaKU
import Derived.Test.YtliecidadhlieaaKV
import Derived.Test.YtliecidadhlieaaKX
import Derived.Test.YtliecidadhlieaaKY
import Derived.Test.YtliecidadhlieaaKZ
import Derived.Test.YtliecidadhlieaaJA
import Derived.Test.YtliecidadhlieaaJB
import Derived.Test.YtliecidadhlieaaJC
import Derived.Test.YtliecidadhlieaaJD
import Derived.Test.YtliecidadhlieaaJE
import Derived.Test.YtliecidadhlieaaJF
import Derived.Test.YtliecidadhlieaaJG
import Derived.Test.YtliecidadhlieaaJH
import Derived.Test.YtliecidadhlieaaJI
import Derived.Test.YtliecidadhlieaaJK
import Derived.Test.YtliecidadhlieaaJM
import Derived.Test.YtliecidadhlieaaJN
import Derived.Test.YtliecidadhlieaaJO
import Derived.Test.YtliecidadhlieaaJP
import Derived.Test.YtliecidadhlieaaJQ
import Derived.Test.YtliecidadhlieaaJR
import Derived.Test.YtliecidadhlieaaJS
import Derived.Test.YtliecidadhlieaaJT
import Derived.Test.YtliecidadhlieaaJU
import Derived.Test.YtliecidadhlieaaWExactMissingWord
import Derived.Test.YtliecidadhlieaaWExactMissingWordb
import Derived.Test.YtliecidadhlieaaProg
namespace Go.Proofs.Ytliecidadhlieaa
open Go.KLib Go.Shelf
set_option maxRecDepth 20000
set_option linter.unusedVariables false
set_option linter.unusedSimpArgs false
namespace TExactDistinguishingWord
theorem agg22 : aggB Try.prog 22 = some false := by kernel_rfl
theorem agg25 : aggB Try.prog 25 = some true := by kernel_rfl
theorem agg28 : aggB Try.prog 28 = some true := by kernel_rfl
theorem agg3 : aggB Try.prog 3 = some false := by kernel_rfl
theorem agg31 : aggB Try.prog 31 = some false := by kernel_rfl
theorem agg51 : aggB Try.prog 51 = some true := by kernel_rfl
theorem agg76 : aggB Try.prog 76 = some true := by kernel_rfl
theorem by3 : bytesB Try.prog 3 = some 8 := by kernel_rfl
theorem by76 : bytesB Try.prog 76 = some 40 := by kernel_rfl
theorem el22 : elB Try.prog 22 = some 4 := by kernel_rfl
theorem el31 : elB Try.prog 31 = some 3 := by kernel_rfl
theorem el77 : elB Try.prog 77 = some 76 := by kernel_rfl
theorem fa28_1 : faB Try.prog 28 1 = some 1 := by kernel_rfl
theorem fa51_0 : faB Try.prog 51 0 = some 0 := by kernel_rfl
theorem fa51_1 : faB Try.prog 51 1 = some 1 := by kernel_rfl
theorem fa76_0 : faB Try.prog 76 0 = some 0 := by kernel_rfl
theorem fa76_1 : faB Try.prog 76 1 = some 2 := by kernel_rfl
theorem fk11 : fnB Try.prog 11 = true := by kernel_rfl
theorem fk13 : fnB Try.prog 13 = true := by kernel_rfl
theorem fk18 : fnB Try.prog 18 = true := by kernel_rfl
theorem fk19 : fnB Try.prog 19 = true := by kernel_rfl
theorem fk20 : fnB Try.prog 20 = true := by kernel_rfl
theorem fk21 : fnB Try.prog 21 = true := by kernel_rfl
theorem fk22 : fnB Try.prog 22 = true := by kernel_rfl
theorem fk23 : fnB Try.prog 23 = true := by kernel_rfl
theorem fk30 : fnB Try.prog 30 = true := by kernel_rfl
theorem fk33 : fnB Try.prog 33 = true := by kernel_rfl
theorem fk36 : fnB Try.prog 36 = true := by kernel_rfl
theorem fk37 : fnB Try.prog 37 = true := by kernel_rfl
theorem fk38 : fnB Try.prog 38 = true := by kernel_rfl
theorem fk40 : fnB Try.prog 40 = true := by kernel_rfl
theorem fk43 : fnB Try.prog 43 = true := by kernel_rfl
theorem fk44 : fnB Try.prog 44 = true := by kernel_rfl
theorem fk45 : fnB Try.prog 45 = true := by kernel_rfl
theorem fk65 : fnB Try.prog 65 = true := by kernel_rfl
theorem fk66 : fnB Try.prog 66 = true := by kernel_rfl
theorem fk9 : fnB Try.prog 9 = true := by kernel_rfl
theorem ist51 : intStructB Try.prog 51 2 = true := by kernel_rfl
theorem mixed : Try.prog.follows .mixedOrders = true := by kernel_rfl
theorem pl51 : placesB Try.prog 51 = some [(0, 1), (1, 1)] := by kernel_rfl
theorem pl76 : placesB Try.prog 76 = some [(0, 2), (2, 1)] := by kernel_rfl
theorem sz25 : sizeB Try.prog 25 = some 3 := by kernel_rfl
theorem sz28 : sizeB Try.prog 28 = some 3 := by kernel_rfl
theorem sz3 : sizeB Try.prog 3 = some 1 := by kernel_rfl
theorem sz51 : sizeB Try.prog 51 = some 2 := by kernel_rfl
theorem sz76 : sizeB Try.prog 76 = some 3 := by kernel_rfl
theorem un4 : Try.prog.underlying 4 = some (.bool) := by kernel_rfl
theorem un74 : Try.prog.underlying 74 = some (.map 51 4) := by kernel_rfl
theorem zr28 : zeroB Try.prog 28 = some (.agg #[.int .i64 0, .slice none 0 0, .slice none 0 0]) := by kernel_rfl
theorem zr3 : zeroB Try.prog 3 = some (.int .i64 0) := by kernel_rfl
theorem zr4 : zeroB Try.prog 4 = some (.bool false) := by kernel_rfl
theorem zr51 : zeroB Try.prog 51 = some (.agg #[.int .i64 0, .int .i64 0]) := by kernel_rfl
theorem zr76 : zeroB Try.prog 76 = some (.agg #[.int .i64 0, .int .i64 0, .slice none 0 0]) := by kernel_rfl
end TExactDistinguishingWord
open TExactDistinguishingWord

/-- impl.DistinguishingWord$1 -/
theorem c_impl_DistinguishingWord_1 {w : World} (x : St2) (aS : Int) {LL_aA _B_aA : Nat} {_v_aA : Value} {aA : List Bool} (_h_aA : Ls bcs 1 w LL_aA _B_aA _v_aA aA) {LL_saN _B_saN : Nat} {_v_saN : Value} {saN : List Sv} (_h_saN : Ls Sv.cs 1 w LL_saN _B_saN _v_saN saN) {LR_aN BB_aN : Nat} {aN : List (List Int)} (_rd_aN : Rd ics 1 w LR_aN BB_aN saN aN) {b_a t_a : Nat} (_hb_a : Blk w b_a t_a [(.int .i64 aS), _v_aA, _v_saN]) (hs : inS aA aA x) :
    Ctr Try.prog 45 #[(.agg #[(.int .i64 x.a), (.int .i64 x.b)]), (.pointer (some ⟨b_a, 0, none⟩))] w (fun v w' => v = .bool (tsD aA aA false x) ∧ Ch [] w w') := by
  obtain ⟨_A_aA, _C_aA, _e1_aA⟩ := _h_aA.val
  subst _e1_aA
  have _l_aA := _h_aA.len
  have _h_aA := _h_aA.here (by decide)
  obtain ⟨_A_saN, _C_saN, _e1_saN⟩ := _h_saN.val
  subst _e1_saN
  have _l_saN := _h_saN.len
  have _h_saN := _h_saN.here (by decide)
  have _rd_aN := _rd_aN.here (by decide)
  have _rl_aN := _rd_aN.1
  have _zb_a := _hb_a.lt
  have E := Ch.refl [] w
  unfold inS inA at hs
  refine Ctr_of_W (N := 13) (vs0 := [(.agg #[(.int .i64 x.a), (.int .i64 x.b)]), (.pointer (some ⟨b_a, 0, none⟩))]) Try.func45 rfl rfl rfl ?_
  refine W_seq fun _K_1 _hK_1 => ?_
  refine W_region ?_
  refine WL_s rfl rfl ?_
  refine s_box rfl fun _b2 _w_2 _m2 _cw_2 _e2 => ?_
  have _cw_2z := _cw_2.size
  have E := E.trans _cw_2
  have _z2 := _m2.lt
  replace _m2 : Blk _w_2 _b2 51 [(.int .i64 x.a), (.int .i64 x.b)] := _m2
  refine WL_step rfl rfl (r_assign rfl) ?_
  refine WL_nil ?_
  refine thn_nrm (_hK_1 _ _ ?_)
  clear _hK_1
  refine W_seq fun _K_3 _hK_3 => ?_
  refine W_drawC [] 10 mixed rfl fun _w_4 _cw_4 => ?_
  have _cw_4z := _cw_4.size
  have E := E.trans _cw_4
  have _f_5 := ((_hb_a.ch0 _cw_2).ch0 _cw_4)
  refine DR_s 0 rfl (by kernel_rfl) rfl rfl (t_loadAtA0 _f_5.at_ (fun i hi => absurd hi List.not_mem_nil) agg28 sz28 rfl ?_)
  refine DR_s 1 rfl (by kernel_rfl) rfl rfl (t_v (fun _ => (r_fieldAddr fa51_0 rfl)) ?_)
  have _f_6 := (_m2.ch0 _cw_4)
  refine DR_s 2 rfl (by kernel_rfl) rfl rfl (t_loadAt _f_6.at_ (fun i hi => absurd hi List.not_mem_nil) agg3 rfl rfl ?_)
  refine DR_s 4 rfl (by kernel_rfl) rfl rfl (t_loadAtA0 _f_5.at_ (fun i hi => absurd hi List.not_mem_nil) agg28 sz28 rfl ?_)
  refine DR_s 5 rfl (by kernel_rfl) rfl rfl (t_v (fun _ => (r_fieldAddr fa51_1 rfl)) ?_)
  refine DR_s 6 rfl (by kernel_rfl) rfl rfl (t_loadAt _f_6.at_ (fun i hi => absurd hi List.not_mem_nil) agg3 rfl rfl ?_)
  refine DR_one 3 (by kernel_rfl) ?_
  refine DO_s rfl rfl rfl ?_
  have _f_7 := ((_h_aA.ch0 _cw_2).ch0 _cw_4)
  have _f_8 := ((_rd_aN.ch0 _cw_2).ch0 _cw_4)
  have _f_9 := ((_h_saN.ch0 _cw_2).ch0 _cw_4)
  refine Step.call (r_call (xs := [.tmp 4, .tmp 6]) fk40 rfl) (c_impl_Automaton_accepts _ _f_7 _f_9 _f_8 _ (by omega)) fun _v7 _w_10 _q7 => ?_
  obtain ⟨rfl, _cw_10⟩ := _q7
  have _cw_10z := _cw_10.size
  have E := E.trans _cw_10
  have _S_11 : Ch [] _w_4 _w_10 := ((Ch.refl _ _).trans _cw_10)
  refine ⟨_S_11, ?_⟩
  refine DR_one 7 (by kernel_rfl) ?_
  refine DO_s rfl rfl rfl ?_
  have _f_12 := (_f_7.ch0 _cw_10)
  have _f_13 := (_f_8.ch0 _cw_10)
  have _f_14 := (_f_9.ch0 _cw_10)
  refine Step.call (r_call (xs := [.tmp 8, .tmp 10]) fk40 rfl) (c_impl_Automaton_accepts _ _f_12 _f_14 _f_13 _ (by omega)) fun _v11 _w_15 _q11 => ?_
  obtain ⟨rfl, _cw_15⟩ := _q11
  have _cw_15z := _cw_15.size
  have E := E.trans _cw_15
  have _S_16 : Ch [] _w_4 _w_15 := (_S_11.trans _cw_15)
  refine ⟨_S_16, ?_⟩
  refine DR_s 8 rfl (by kernel_rfl) rfl rfl (t_v (fun _ => (r_neqB un4 rfl rfl)) ?_)
  refine DR_s 9 rfl (by kernel_rfl) rfl rfl (t_v (fun _ => (r_assign rfl)) ?_)
  refine DR_done (by kernel_rfl) ?_
  refine thn_nrm (_hK_3 _ _ ?_)
  clear _hK_3
  refine W_ret ?_
  exact ret_intro [_] ⟨rfl, trivial⟩ ⟨congrArg Value.bool (by unfold tsD; cases accA aA x.a <;> cases accA aA x.b <;> rfl), E⟩

/-- impl.states]@D -/
theorem c_impl_states_D {w : World} (first : St2) (nextc0S : Int) {LL_nextc0A _B_nextc0A : Nat} {_v_nextc0A : Value} {nextc0A : List Bool} (_h_nextc0A : Ls bcs 1 w LL_nextc0A _B_nextc0A _v_nextc0A nextc0A) {LL_snextc0N _B_snextc0N : Nat} {_v_snextc0N : Value} {snextc0N : List Sv} (_h_snextc0N : Ls Sv.cs 1 w LL_snextc0N _B_snextc0N _v_snextc0N snextc0N) {LR_nextc0N BB_nextc0N : Nat} {nextc0N : List (List Int)} (_rd_nextc0N : Rd ics 1 w LR_nextc0N BB_nextc0N snextc0N nextc0N) {b_nextc0 t_nextc0 : Nat} (_hb_nextc0 : Blk w b_nextc0 t_nextc0 [(.int .i64 nextc0S), _v_nextc0A, _v_snextc0N]) (nextc1S : Int) {LL_nextc1A _B_nextc1A : Nat} {_v_nextc1A : Value} {nextc1A : List Bool} (_h_nextc1A : Ls bcs 1 w LL_nextc1A _B_nextc1A _v_nextc1A nextc1A) {LL_snextc1N _B_snextc1N : Nat} {_v_snextc1N : Value} {snextc1N : List Sv} (_h_snextc1N : Ls Sv.cs 1 w LL_snextc1N _B_snextc1N _v_snextc1N snextc1N) {LR_nextc1N BB_nextc1N : Nat} {nextc1N : List (List Int)} (_rd_nextc1N : Rd ics 1 w LR_nextc1N BB_nextc1N snextc1N nextc1N) {b_nextc1 t_nextc1 : Nat} (_hb_nextc1 : Blk w b_nextc1 t_nextc1 [(.int .i64 nextc1S), _v_nextc1A, _v_snextc1N]) (testc0S : Int) {LL_testc0A _B_testc0A : Nat} {_v_testc0A : Value} {testc0A : List Bool} (_h_testc0A : Ls bcs 1 w LL_testc0A _B_testc0A _v_testc0A testc0A) {LL_stestc0N _B_stestc0N : Nat} {_v_stestc0N : Value} {stestc0N : List Sv} (_h_stestc0N : Ls Sv.cs 1 w LL_stestc0N _B_stestc0N _v_stestc0N stestc0N) {LR_testc0N BB_testc0N : Nat} {testc0N : List (List Int)} (_rd_testc0N : Rd ics 1 w LR_testc0N BB_testc0N stestc0N testc0N) {b_testc0 t_testc0 : Nat} (_hb_testc0 : Blk w b_testc0 t_testc0 [(.int .i64 testc0S), _v_testc0A, _v_stestc0N]) (hva : ValidA nextc0S nextc0A nextc0N) (hvb : ValidA nextc1S nextc1A nextc1N) (hs : inS nextc0A nextc1A first) (_e1 : nextc0A = testc0A) (_e2 : nextc1A = testc0A) :
    Ctr Try.prog 37 #[(.agg #[(.int .i64 first.a), (.int .i64 first.b)]), (.func (.func 66) #[] #[(.pointer (some ⟨b_nextc0, 0, none⟩)), (.pointer (some ⟨b_nextc1, 0, none⟩))]), (.func (.func 45) #[] #[(.pointer (some ⟨b_testc0, 0, none⟩))])] w (fun v w' => ∃ (_u0 : Value), v = .tuple #[_u0, .bool ((difR testc0A nextc0N testc0A nextc1N first false).2)] ∧ Ol ics 3 1 w' _u0 ((difR testc0A nextc0N testc0A nextc1N first false).1) ∧ Lo w.heap.size _u0 ∧ Ch [] w w') := by
  obtain ⟨_A_nextc0A, _C_nextc0A, _e1_nextc0A⟩ := _h_nextc0A.val
  subst _e1_nextc0A
  have _l_nextc0A := _h_nextc0A.len
  have _h_nextc0A := _h_nextc0A.here (by decide)
  obtain ⟨_A_snextc0N, _C_snextc0N, _e1_snextc0N⟩ := _h_snextc0N.val
  subst _e1_snextc0N
  have _l_snextc0N := _h_snextc0N.len
  have _h_snextc0N := _h_snextc0N.here (by decide)
  have _rd_nextc0N := _rd_nextc0N.here (by decide)
  have _rl_nextc0N := _rd_nextc0N.1
  have _zb_nextc0 := _hb_nextc0.lt
  obtain ⟨_A_nextc1A, _C_nextc1A, _e1_nextc1A⟩ := _h_nextc1A.val
  subst _e1_nextc1A
  have _l_nextc1A := _h_nextc1A.len
  have _h_nextc1A := _h_nextc1A.here (by decide)
  obtain ⟨_A_snextc1N, _C_snextc1N, _e1_snextc1N⟩ := _h_snextc1N.val
  subst _e1_snextc1N
  have _l_snextc1N := _h_snextc1N.len
  have _h_snextc1N := _h_snextc1N.here (by decide)
  have _rd_nextc1N := _rd_nextc1N.here (by decide)
  have _rl_nextc1N := _rd_nextc1N.1
  have _zb_nextc1 := _hb_nextc1.lt
  obtain ⟨_A_testc0A, _C_testc0A, _e1_testc0A⟩ := _h_testc0A.val
  subst _e1_testc0A
  have _l_testc0A := _h_testc0A.len
  have _h_testc0A := _h_testc0A.here (by decide)
  obtain ⟨_A_stestc0N, _C_stestc0N, _e1_stestc0N⟩ := _h_stestc0N.val
  subst _e1_stestc0N
  have _l_stestc0N := _h_stestc0N.len
  have _h_stestc0N := _h_stestc0N.here (by decide)
  have _rd_testc0N := _rd_testc0N.here (by decide)
  have _rl_testc0N := _rd_testc0N.1
  have _zb_testc0 := _hb_testc0.lt
  have E := Ch.refl [] w
  have hva2 : ValidA nextc0S testc0A nextc0N := by rw [← _e1]; exact hva
  have hvb2 : ValidA nextc1S testc0A nextc1N := by rw [← _e2]; exact hvb
  have hs2 : inS testc0A testc0A first := by rw [_e1, _e2] at hs; exact hs
  have hin := inS_all hva2 hvb2 hs2; have hle := lenS hva2 hvb2 hs2; have hwl := wlenS nextc0N nextc1N first
  refine Ctr_of_W (N := 60) (vs0 := [(.agg #[(.int .i64 first.a), (.int .i64 first.b)]), (.func (.func 66) #[] #[(.pointer (some ⟨b_nextc0, 0, none⟩)), (.pointer (some ⟨b_nextc1, 0, none⟩))]), (.func (.func 45) #[] #[(.pointer (some ⟨b_testc0, 0, none⟩))])]) Try.func37 rfl rfl rfl ?_
  refine W_seq fun _K_1 _hK_1 => ?_
  refine W_region ?_
  refine WL_s rfl rfl ?_
  refine s_box rfl fun _b3 _w_2 _m3 _cw_2 _e3 => ?_
  have _cw_2z := _cw_2.size
  have E := E.trans _cw_2
  have _z3 := _m3.lt
  replace _m3 : Blk _w_2 _b3 51 [(.int .i64 first.a), (.int .i64 first.b)] := _m3
  refine WL_step rfl rfl (r_assign rfl) ?_
  refine WL_step rfl rfl (r_assign rfl) ?_
  refine WL_nil ?_
  refine thn_nrm (_hK_1 _ _ ?_)
  clear _hK_1
  refine W_seq fun _K_3 _hK_3 => ?_
  refine W_region ?_
  refine WL_s rfl rfl ?_
  refine s_makeMap kvS fun _b13 _w_4 _m13 _cw_4 _e13 => ?_
  have _cw_4z := _cw_4.size
  have E := E.trans _cw_4
  have _z13 := _m13.lt
  replace _m13 : Mp kvS _w_4 _b13 ([] : List St2) := _m13
  have _f_5 := (_m3.ch0 _cw_4)
  refine WL_step rfl rfl (r_loadAtA0 _f_5.at_ agg51 sz51 rfl) ?_
  refine WL_s rfl rfl ?_
  refine s_mapIns (first : St2) un74 (keyT_st2 ist51) _m13 rfl rfl rfl (by simp) fun _w_6 _m_7 _cw_6 => ?_
  have _cw_6z := _cw_6.size
  have E := E.step _cw_6 (fun i hi => .inl (by have _h1 := List.mem_singleton.1 hi; omega))
  replace _m_7 : Mp kvS _w_6 _b13 ([(first : St2)]) := _m_7
  refine WL_step rfl rfl (r_move rfl) ?_
  refine WL_step rfl rfl (r_assign rfl) ?_
  refine WL_nil ?_
  refine thn_nrm (_hK_3 _ _ ?_)
  clear _hK_3
  refine W_seq fun _K_8 _hK_8 => ?_
  refine W_seq fun _K_9 _hK_9 => ?_
  refine W_region ?_
  have _f_10 := (_f_5.ch _cw_6 (fun hm => by have _h1 := List.mem_singleton.1 hm; omega))
  refine WL_step rfl rfl (r_loadAtA0 _f_10.at_ agg51 sz51 rfl) ?_
  refine WL_step rfl rfl (r_build (parts := [(0, .tmp 16)]) (cells := [(.int .i64 first.a), (.int .i64 first.b), (.slice none 0 0)]) zr76 pl76 rfl rfl) ?_
  refine WL_s rfl rfl ?_
  refine s_buildSlice (cs := Qs.cs) (parts := [(0, .tmp 17)]) (⟨⟨0, 0⟩, ⟨none, 0, 0⟩⟩ : Qs) [(⟨⟨first.a, first.b⟩, (⟨none, 0, 0⟩ : Sv)⟩ : Qs)] el77 sz76 zr76 Qs.len (by decide) rfl rfl rfl (by decide) (by decide) rfl fun _v18 _w_11 _q18 _lo18 _cw_11 => ?_
  have _cw_11z := _cw_11.size
  have E := E.trans _cw_11
  obtain ⟨_Av18, _Cv18, _ev18⟩ := _q18.val
  subst _ev18
  have _lv18 := _q18.len
  have _hiv18 := _q18.lt
  refine WL_step rfl rfl (r_assign rfl) ?_
  refine WL_nil ?_
  refine thn_nrm (_hK_9 _ _ ?_)
  clear _hK_9
  refine W_block ?_
  have _oi_12 : Ol Qs.cs 76 3 _w_11 (.slice _Av18 ([(⟨⟨first.a, first.b⟩, (⟨none, 0, 0⟩ : Sv)⟩ : Qs)]).length _Cv18) ((zq (bE (nxS nextc0N nextc1N) first 0) [(⟨none, 0, 0⟩ : Sv)]).drop 0) := by
    have hx := _q18
    exact hx
  have _f_14 := (_m_7.ch0 _cw_11)
  have _oi_13 : Mp kvS _w_11 _b13 ((bE (nxS nextc0N nextc1N) first 0).map (·.1)) := by
    have hx := _f_14
    exact hx
  refine W_loop (σ := Nat × List Sv × Value) (fun ⟨k, V, kq⟩ => [(1, (.func (.func 66) #[] #[(.pointer (some ⟨b_nextc0, 0, none⟩)), (.pointer (some ⟨b_nextc1, 0, none⟩))])), (2, (.func (.func 45) #[] #[(.pointer (some ⟨b_testc0, 0, none⟩))])), (8, (.map (some _b13))), (9, kq)]) (fun ⟨k, V, kq⟩ wx => Ch [] w wx ∧ _w_11.heap.size ≤ wx.heap.size ∧ (k ≤ (bE (nxS nextc0N nextc1N) first k).length) ∧ (V.length = (bE (nxS nextc0N nextc1N) first k).length) ∧ (∀ j x, j < k → (bE (nxS nextc0N nextc1N) first j)[j]? = some x → (tsD testc0A testc0A false) x.1 = false) ∧ Ol Qs.cs 76 3 wx kq ((zq (bE (nxS nextc0N nextc1N) first k) V).drop k) ∧ Lo _w_6.heap.size kq ∧ Mp kvS wx _b13 ((bE (nxS nextc0N nextc1N) first k).map (·.1)) ∧ Od ics 3 1 wx _w_11.heap.size wx.heap.size V ((bE (nxS nextc0N nextc1N) first k).map (·.2)) ∧ (Sep kq V)) (fun ⟨k, V, kq⟩ => 170 - k) (0, [(⟨none, 0, 0⟩ : Sv)], (.slice _Av18 ([(⟨⟨first.a, first.b⟩, (⟨none, 0, 0⟩ : Sv)⟩ : Qs)]).length _Cv18)) (Sub.cons rfl (Sub.cons rfl (Sub.cons rfl (Sub.cons rfl (Sub.nil _))))) ⟨E, (Nat.le_refl _), (Nat.zero_le _), rfl, (fun _ _ h => absurd h (by omega)), _oi_12, _lo18, _oi_13, Od.one_nil, nil1Sep⟩ ?_
  rintro ⟨k, V, kq⟩ _wr_15 ⟨E, _zz0, _hk, hV, hf, _o0_9, _lo0_9, _m0_8, od, _spl0_9⟩
  have _E0h := E
  have _E0hz := _E0h.size
  have m0_8z := _m0_8.lt
  obtain ⟨Akq, Ckq, ekq⟩ := _o0_9.val
  subst ekq
  have lkq := _o0_9.len
  have hikq := _o0_9.lt
  have hlk := hle k
  have zl9 := zq_len hV
  have zd9 := List.length_drop (l := zq (bE (nxS nextc0N nextc1N) first k) V) (i := k)
  refine W_seq fun _K_16 _hK_16 => ?_
  refine W_seq fun _K_17 _hK_17 => ?_
  refine W_region ?_
  refine WL_step rfl rfl (r_move rfl) ?_
  refine WL_step rfl rfl (r_len (by rw [el77]; rfl) rfl) ?_
  refine WL_step rfl rfl (r_gtr rfl rfl) ?_
  refine WL_nil ?_
  refine thn_nrm (_hK_17 _ _ ?_)
  clear _hK_17
  refine W_cond rfl (fun _h21 => ?_) (fun _h21 => ?_)
  · have _kb_18 := _h21
    have _h21 := bt_d _h21
    refine W_skip ?_
    refine thn_nrm (_hK_16 _ _ ?_)
    clear _hK_16
    refine W_seq fun _K_19 _hK_19 => ?_
    refine W_block ?_
    refine W_seq fun _K_20 _hK_20 => ?_
    refine W_region ?_
    refine WL_step rfl rfl (r_move rfl) ?_
    refine WL_s rfl rfl ?_
    refine (s_index (j := 0) _o0_9.ls Qs.len el77 sz76 rfl rfl rfl (by omega) fun _p25 _y25 _hy25 _a25 => ?_)
    obtain ⟨x25, _u25, _A25, _C25, he25, hs25, rfl, _fs25⟩ := zq_row _hy25 od
    have _l25 := _fs25.len
    replace _fs25 : Ls ics 1 _wr_15 0 _wr_15.heap.size (.slice _A25 _u25.length _C25) _u25 := _fs25
    have hi25 := hin k _ (mem_of_get he25)
    dsimp only at hi25
    refine WL_step rfl rfl (r_loadAtA0 _a25 agg76 sz76 rfl) ?_
    refine WL_s rfl rfl ?_
    refine s_alloc zr76 fun _b10 _w_21 _m10 _cw_21 _e10 => ?_
    have _cw_21z := _cw_21.size
    have E := E.trans _cw_21
    have _z10 := _m10.lt
    replace _m10 : Blk _w_21 _b10 76 [(.int .i64 0), (.int .i64 0), (.slice none 0 0)] := _m10
    refine WL_s rfl rfl ?_
    refine s_storeA (off := 0) 3 _m10 sz76 rfl (us := [(.int .i64 x25.a), (.int .i64 x25.b), (.slice _A25 _u25.length _C25)]) rfl rfl rfl rfl fun _w_22 _m_23 _cw_22 => ?_
    have _cw_22z := _cw_22.size
    have E := E.step _cw_22 (fun i hi => .inl (by have _h1 := List.mem_singleton.1 hi; omega))
    replace _m_23 : Blk _w_22 _b10 76 [(.int .i64 x25.a), (.int .i64 x25.b), (.slice _A25 _u25.length _C25)] := _m_23
    refine WL_nil ?_
    refine thn_nrm (_hK_20 _ _ ?_)
    clear _hK_20
    refine W_seq fun _K_24 _hK_24 => ?_
    refine W_seq fun _K_25 _hK_25 => ?_
    refine W_region ?_
    refine WL_step rfl rfl (r_move rfl) ?_
    refine WL_step rfl rfl (r_fieldAddr fa76_0 rfl) ?_
    refine WL_step rfl rfl (r_loadAtA 2 _m_23.at_ agg51 sz51 rfl rfl) ?_
    refine WL_s rfl rfl ?_
    have _f_26 := (((_h_testc0A.ch0 _E0h).ch0 _cw_21).ch _cw_22 (fun i hi => by have _h1 := List.mem_singleton.1 hi; omega))
    have _f_27 := (((_rd_testc0N.ch0 _E0h).ch0 _cw_21).ch _cw_22 (fun i hi => by have _h1 := List.mem_singleton.1 hi; omega))
    have _f_28 := (((_h_stestc0N.ch0 _E0h).ch0 _cw_21).ch _cw_22 (fun i hi => by have _h1 := List.mem_singleton.1 hi; omega))
    have _f_29 := (((_hb_testc0.ch0 _E0h).ch0 _cw_21).ch _cw_22 (fun hm => by have _h1 := List.mem_singleton.1 hm; omega))
    refine Step.call (r_callV (xs := [.tmp 29]) (as' := [(.agg #[(.int .i64 x25.a), (.int .i64 x25.b)]), (.pointer (some ⟨b_testc0, 0, none⟩))]) fk45 rfl rfl rfl) (c_impl_DistinguishingWord_1 x25 _ _f_26 _f_28 _f_27 _f_29 hi25) fun _v30 _w_30 _q30 => ?_
    obtain ⟨rfl, _cw_30⟩ := _q30
    have _cw_30z := _cw_30.size
    have E := E.trans _cw_30
    refine WL_nil ?_
    refine thn_nrm (_hK_25 _ _ ?_)
    clear _hK_25
    refine W_cond rfl (fun _h30 => ?_) (fun _h30 => ?_)
    · have _kb_31 := _h30
      refine W_seq fun _K_32 _hK_32 => ?_
      refine W_region ?_
      refine WL_step rfl rfl (r_fieldAddr fa76_1 rfl) ?_
      have _f_33 := (_m_23.ch0 _cw_30)
      refine WL_step rfl rfl (r_loadAt _f_33.at_ agg31 rfl rfl) ?_
      refine WL_s rfl rfl ?_
      have _f_34 := (((od.ch0 _cw_21).ch _cw_22 (fun i hi => by have _h1 := List.mem_singleton.1 hi; omega)).ch0 _cw_30)
      have _f_35 : _ := zq_word _f_34 hs25 he25
      refine Step.call (r_call (xs := [.tmp 32]) fk65 rfl) (c_impl_copyInts _f_35 (by have _z1 := hwl k _ (mem_of_get he25); dsimp only at _z1; omega)) fun _v33 _w_36 _q33 => ?_
      obtain ⟨_q33, _lo33, _cw_36⟩ := _q33
      have _cw_36z := _cw_36.size
      have E := E.trans _cw_36
      obtain ⟨_Av33, _Cv33, _ev33⟩ := _q33.val
      subst _ev33
      have _lv33 := _q33.len
      have _hiv33 := _q33.lt
      refine WL_step rfl rfl (r_assign rfl) ?_
      refine WL_step rfl rfl (r_assign rfl) ?_
      refine WL_nil ?_
      refine thn_nrm (_hK_32 _ _ ?_)
      clear _hK_32
      refine W_ret (thn_ret (inB_ret (thn_ret (thn_ret (inB_ret (thn_ret ?_))))))
      clear _hK_8 _hK_19 _hK_24
      have _o_37 : Ol ics 3 1 _w_36 (.slice _Av33 (_u25).length _Cv33) ((difR testc0A nextc0N testc0A nextc1N first false).1) := by
        have hx := _q33
        first | (rw [← dif_eq (bres_hit he25 _h30 hf)]; exact hx) | (rw [← dif_eq (bres_none (zq_no hV (by omega)) hf)]; simpa using hx)
      exact ret_intro [_, _] ⟨rfl, ⟨rfl, trivial⟩⟩ ⟨(.slice _Av33 (_u25).length _Cv33), (congrArg (fun zq => (Value.tuple #[(.slice _Av33 (_u25).length _Cv33), .bool zq])) (by first | rw [← dif_eq (bres_hit he25 _h30 hf)] | rw [← dif_eq (bres_none (zq_no hV (by omega)) hf)])), _o_37, (Lo.down _lo33 (by omega)), E⟩
    · have _kb_31 := _h30
      refine W_skip ?_
      refine thn_nrm (_hK_24 _ _ ?_)
      clear _hK_24
      refine W_seq fun _K_38 _hK_38 => ?_
      refine W_region ?_
      refine WL_step rfl rfl (r_assign rfl) ?_
      refine WL_nil ?_
      refine thn_nrm (_hK_38 _ _ ?_)
      clear _hK_38
      refine W_block ?_
      have _f_39 := (((_o0_9.ch0 _cw_21).ch _cw_22 (fun g hg hm => by have _h0 := List.mem_singleton.1 hm; have _h2 := _lo0_9 _ hg; have _h3 := hikq _ hg; omega)).ch0 _cw_30)
      have _oi_40 : Ol Qs.cs 76 3 _w_30 (.slice Akq ((zq (bE (nxS nextc0N nextc1N) first k) V).drop k).length Ckq) ((zq (bx (nxS nextc0N nextc1N) (x25, _u25) (bE (nxS nextc0N nextc1N) first k) 0) V).drop k) := by
        have hx := _f_39
        exact hx
      have _f_42 := (((_m0_8.ch0 _cw_21).ch _cw_22 (fun hm => by have _h1 := List.mem_singleton.1 hm; omega)).ch0 _cw_30)
      have _oi_41 : Mp kvS _w_30 _b13 ((bx (nxS nextc0N nextc1N) (x25, _u25) (bE (nxS nextc0N nextc1N) first k) 0).map (·.1)) := by
        have hx := _f_42
        exact hx
      have _f_43 := (((od.ch0 _cw_21).ch _cw_22 (fun i hi => by have _h1 := List.mem_singleton.1 hi; omega)).ch0 _cw_30)
      have _f_44 := (_f_29.ch0 _cw_30)
      have _f_45 := (_f_26.ch0 _cw_30)
      have _f_46 := (_f_28.ch0 _cw_30)
      have _f_47 := (_f_27.ch0 _cw_30)
      have _f_48 := (_m_23.ch0 _cw_30)
      refine W_loop (σ := Nat × List Sv × Value) (fun ⟨m, V2, kr⟩ => [(1, (.func (.func 66) #[] #[(.pointer (some ⟨b_nextc0, 0, none⟩)), (.pointer (some ⟨b_nextc1, 0, none⟩))])), (2, (.func (.func 45) #[] #[(.pointer (some ⟨b_testc0, 0, none⟩))])), (8, (.map (some _b13))), (9, kr), (10, (.pointer (some ⟨_b10, 0, none⟩))), (11, (.int .i64 ((m : Nat) : Int))), (21, (.bool (decide (0 < ((((zq (bE (nxS nextc0N nextc1N) first k) V).drop k).length : Nat) : Int))))), (30, (.bool (tsD testc0A testc0A false x25)))]) (fun ⟨m, V2, kr⟩ wx => Ch [] w wx ∧ _w_30.heap.size ≤ wx.heap.size ∧ (m ≤ 9) ∧ (V2.length = (bx (nxS nextc0N nextc1N) (x25, _u25) (bE (nxS nextc0N nextc1N) first k) m).length) ∧ (V2[k]? = some (⟨_A25, _u25.length, _C25⟩ : Sv)) ∧ Blk wx b_testc0 t_testc0 [(.int .i64 testc0S), (.slice _A_testc0A testc0A.length _C_testc0A), (.slice _A_stestc0N stestc0N.length _C_stestc0N)] ∧ Ls bcs 1 wx LL_testc0A w.heap.size (.slice _A_testc0A testc0A.length _C_testc0A) testc0A ∧ Ls Sv.cs 1 wx LL_stestc0N w.heap.size (.slice _A_stestc0N stestc0N.length _C_stestc0N) stestc0N ∧ Rd ics 1 wx LR_testc0N w.heap.size stestc0N testc0N ∧ Blk wx _b10 76 [(.int .i64 x25.a), (.int .i64 x25.b), (.slice _A25 _u25.length _C25)] ∧ Ol Qs.cs 76 3 wx kr ((zq (bx (nxS nextc0N nextc1N) (x25, _u25) (bE (nxS nextc0N nextc1N) first k) m) V2).drop k) ∧ Lo _w_6.heap.size kr ∧ Mp kvS wx _b13 ((bx (nxS nextc0N nextc1N) (x25, _u25) (bE (nxS nextc0N nextc1N) first k) m).map (·.1)) ∧ Od ics 3 1 wx _w_11.heap.size wx.heap.size V2 ((bx (nxS nextc0N nextc1N) (x25, _u25) (bE (nxS nextc0N nextc1N) first k) m).map (·.2)) ∧ (_b10 ∉ bl kr) ∧ (Sep kr V2)) (fun ⟨m, V2, kr⟩ => 9 - m) (0, V, (.slice Akq ((zq (bE (nxS nextc0N nextc1N) first k) V).drop k).length Ckq)) (Sub.cons rfl (Sub.cons rfl (Sub.cons rfl (Sub.cons rfl (Sub.cons rfl (Sub.cons rfl (Sub.cons rfl (Sub.cons rfl (Sub.nil _))))))))) ⟨E, (Nat.le_refl _), (by omega), hV, hs25, _f_44, _f_45, _f_46, _f_47, _f_48, _oi_40, _lo0_9, _oi_41, (_f_43.up (Nat.le_refl _) (by omega)), (fun hm => by have _h1 := _lo0_9 _ hm; have _h2 := hikq _ hm; omega), _spl0_9⟩ ?_
      rintro ⟨m, V2, kr⟩ _wr_49 ⟨E, _zz1, hm, hV2, hvk, _F1_8, _F1_9, _F1_10, _F1_11, _F1_12, _o1_9, _lo1_9, _m1_8, od2, _nbz1_9_10, _spl1_9⟩
      have _E1h := E
      have _E1hz := _E1h.size
      have _F1_8z := _F1_8.lt
      have _F1_12z := _F1_12.lt
      have m1_8z := _m1_8.lt
      obtain ⟨Akr, Ckr, ekr⟩ := _o1_9.val
      subst ekr
      have lkr := _o1_9.len
      have hikr := _o1_9.lt
      refine W_seq fun _K_50 _hK_50 => ?_
      refine W_seq fun _K_51 _hK_51 => ?_
      refine W_region ?_
      refine WL_step rfl rfl (r_move rfl) ?_
      refine WL_step rfl rfl (r_lss rfl rfl) ?_
      refine WL_nil ?_
      refine thn_nrm (_hK_51 _ _ ?_)
      clear _hK_51
      refine W_cond rfl (fun _h35 => ?_) (fun _h35 => ?_)
      · have _kb_52 := _h35
        have _h35 := bt_d _h35
        refine W_skip ?_
        refine thn_nrm (_hK_50 _ _ ?_)
        clear _hK_50
        refine W_seq fun _K_53 _hK_53 => ?_
        refine W_block ?_
        refine W_seq fun _K_54 _hK_54 => ?_
        refine W_region ?_
        refine WL_step rfl rfl (r_move rfl) ?_
        refine WL_step rfl rfl (r_fieldAddr fa76_0 rfl) ?_
        refine WL_step rfl rfl (r_loadAtA 2 _F1_12.at_ agg51 sz51 rfl rfl) ?_
        refine WL_step rfl rfl (r_move rfl) ?_
        refine WL_s rfl rfl ?_
        have _f_55 := (_h_nextc0A.ch0 _E1h)
        have _f_56 := (_rd_nextc0N.ch0 _E1h)
        have _f_57 := (_h_snextc0N.ch0 _E1h)
        have _f_58 := (_hb_nextc0.ch0 _E1h)
        have _f_59 := (_h_nextc1A.ch0 _E1h)
        have _f_60 := (_rd_nextc1N.ch0 _E1h)
        have _f_61 := (_h_snextc1N.ch0 _E1h)
        have _f_62 := (_hb_nextc1.ch0 _E1h)
        refine Step.call (r_callV (xs := [.tmp 40, .tmp 41]) (as' := [(.agg #[(.int .i64 x25.a), (.int .i64 x25.b)]), (.int .i64 ((m : Nat) : Int)), (.pointer (some ⟨b_nextc0, 0, none⟩)), (.pointer (some ⟨b_nextc1, 0, none⟩))]) fk66 rfl rfl rfl) (c_impl_together_1 x25 _ _ _f_55 _f_57 _f_56 _f_58 _ _f_59 _f_61 _f_60 _f_62 hva hvb (by rw [_e1, _e2]; exact hi25)) fun _v42 _w_63 _q42 => ?_
        obtain ⟨rfl, _cw_63⟩ := _q42
        have _cw_63z := _cw_63.size
        have E := E.trans _cw_63
        refine WL_s rfl rfl ?_
        refine s_alloc zr51 fun _b12 _w_64 _m12 _cw_64 _e12 => ?_
        have _cw_64z := _cw_64.size
        have E := E.trans _cw_64
        have _z12 := _m12.lt
        replace _m12 : Blk _w_64 _b12 51 [(.int .i64 0), (.int .i64 0)] := _m12
        refine WL_s rfl rfl ?_
        refine s_storeA (off := 0) 2 _m12 sz51 rfl (us := [(.int .i64 ((⟨moveA nextc0N x25.a ((m : Nat) : Int), moveA nextc1N x25.b ((m : Nat) : Int)⟩ : St2).a)), (.int .i64 ((⟨moveA nextc0N x25.a ((m : Nat) : Int), moveA nextc1N x25.b ((m : Nat) : Int)⟩ : St2).b))]) rfl rfl rfl rfl fun _w_65 _m_66 _cw_65 => ?_
        have _cw_65z := _cw_65.size
        have E := E.step _cw_65 (fun i hi => .inl (by have _h1 := List.mem_singleton.1 hi; omega))
        replace _m_66 : Blk _w_65 _b12 51 [(.int .i64 ((⟨moveA nextc0N x25.a ((m : Nat) : Int), moveA nextc1N x25.b ((m : Nat) : Int)⟩ : St2).a)), (.int .i64 ((⟨moveA nextc0N x25.a ((m : Nat) : Int), moveA nextc1N x25.b ((m : Nat) : Int)⟩ : St2).b))] := _m_66
        refine WL_nil ?_
        refine thn_nrm (_hK_54 _ _ ?_)
        clear _hK_54
        refine W_seq fun _K_67 _hK_67 => ?_
        refine W_region ?_
        refine WL_step rfl rfl (r_move rfl) ?_
        refine WL_step rfl rfl (r_loadAtA0 _m_66.at_ agg51 sz51 rfl) ?_
        have _f_68 := (((_m1_8.ch0 _cw_63).ch0 _cw_64).ch _cw_65 (fun hm => by have _h1 := List.mem_singleton.1 hm; omega))
        refine WL_step rfl rfl (r_mapLook ((⟨moveA nextc0N x25.a ((m : Nat) : Int), moveA nextc1N x25.b ((m : Nat) : Int)⟩ : St2) : St2) un74 zr4 (keyT_st2 ist51) _f_68 rfl rfl) ?_
        refine WL_step rfl rfl (r_not rfl) ?_
        refine WL_nil ?_
        refine thn_nrm (_hK_67 _ _ ?_)
        clear _hK_67
        refine W_cond rfl (fun _h46 => ?_) (fun _h46 => ?_)
        · have _kb_69 := _h46
          have _h46 := bf_d (bt_n _h46)
          have hm46 := _h46
          refine W_seq fun _K_70 _hK_70 => ?_
          refine W_region ?_
          refine WL_step rfl rfl (r_move rfl) ?_
          refine WL_step rfl rfl (r_loadAtA0 _m_66.at_ agg51 sz51 rfl) ?_
          refine WL_s rfl rfl ?_
          refine s_mapPut ((⟨moveA nextc0N x25.a ((m : Nat) : Int), moveA nextc1N x25.b ((m : Nat) : Int)⟩ : St2) : St2) un74 (keyT_st2 ist51) _f_68 rfl rfl rfl (hm46) fun _w_71 _m_72 _cw_71 => ?_
          have _cw_71z := _cw_71.size
          have E := E.step _cw_71 (fun i hi => .inl (by have _h1 := List.mem_singleton.1 hi; omega))
          replace _m_72 : Mp kvS _w_71 _b13 (((bx (nxS nextc0N nextc1N) (x25, _u25) (bE (nxS nextc0N nextc1N) first k) m).map (·.1)) ++ [((⟨moveA nextc0N x25.a ((m : Nat) : Int), moveA nextc1N x25.b ((m : Nat) : Int)⟩ : St2) : St2)]) := _m_72
          refine WL_nil ?_
          refine thn_nrm (_hK_70 _ _ ?_)
          clear _hK_70
          refine W_drawC (bl (.slice Akr ((zq (bx (nxS nextc0N nextc1N) (x25, _u25) (bE (nxS nextc0N nextc1N) first k) m) V2).drop k).length Ckr)) 12 mixed rfl fun _w_73 _cw_73 => ?_
          have _cw_73z := _cw_73.size
          have E := E.trans _cw_73
          refine DR_s 0 rfl (by kernel_rfl) rfl rfl (t_v (fun _ => (r_move rfl)) ?_)
          have _f_74 := ((_m_66.ch _cw_71 (fun hm => by have _h1 := List.mem_singleton.1 hm; omega)).ch0 _cw_73)
          refine DR_s 1 rfl (by kernel_rfl) rfl rfl (t_loadAtA0 _f_74.at_ (fun i hm => by have _h1 := _lo1_9 _ hm; have _h2 := hikr _ hm; omega) agg51 sz51 rfl ?_)
          refine DR_s 2 rfl (by kernel_rfl) rfl rfl (t_v (fun _ => (r_fieldAddr fa76_1 rfl)) ?_)
          have _f_75 := (((((_F1_12.ch0 _cw_63).ch0 _cw_64).ch _cw_65 (fun hm => by have _h1 := List.mem_singleton.1 hm; omega)).ch _cw_71 (fun hm => by have _h1 := List.mem_singleton.1 hm; omega)).ch0 _cw_73)
          refine DR_s 3 rfl (by kernel_rfl) rfl rfl (t_loadAt _f_75.at_ (fun i hm => by rcases Nat.lt_trichotomy i _b10 with _h9 | _h9 | _h9; (exact .inl _h9); (exact absurd (_h9 ▸ hm) _nbz1_9_10); (exact .inr _h9)) agg31 rfl rfl ?_)
          refine DR_s 5 rfl (by kernel_rfl) rfl rfl (t_v (fun _ => (r_move rfl)) ?_)
          refine DR_two 4 6 (by kernel_rfl) ?_ ?_
          · refine DO_s rfl rfl rfl ?_
            have _f_76 := (((((od2.ch0 _cw_63).ch0 _cw_64).ch _cw_65 (fun i hi => by have _h1 := List.mem_singleton.1 hi; omega)).ch _cw_71 (fun i hi => by have _h1 := List.mem_singleton.1 hi; omega)).ch0 _cw_73)
            have _f_77 : _ := zq_word _f_76 hvk (bx_get he25)
            refine Step.call (r_call (xs := [.tmp 52]) fk65 rfl) (c_impl_copyInts _f_77 (by have _z1 := hwl k _ (mem_of_get he25); dsimp only at _z1; omega)) fun _v53 _w_78 _q53 => ?_
            obtain ⟨_q53, _lo53, _cw_78⟩ := _q53
            have _cw_78z := _cw_78.size
            have E := E.trans _cw_78
            obtain ⟨_Av53, _Cv53, _ev53⟩ := _q53.val
            subst _ev53
            have _lv53 := _q53.len
            have _hiv53 := _q53.lt
            have _S_79 : Ch (bl (.slice Akr ((zq (bx (nxS nextc0N nextc1N) (x25, _u25) (bE (nxS nextc0N nextc1N) first k) m) V2).drop k).length Ckr)) _w_73 _w_78 := ((Ch.refl _ _).trans _cw_78.of_nil)
            refine ⟨_S_79, ?_⟩
            refine DR_one 6 (by kernel_rfl) ?_
            refine DO_s rfl rfl rfl ?_
            refine s_buildSlice (cs := ics) (parts := [(0, .tmp 54)]) (0 : Int) [((m : Nat) : Int)] el31 sz3 zr3 ics_len (by decide) rfl rfl rfl (by decide) (by decide) rfl fun _v55 _w_80 _q55 _lo55 _cw_80 => ?_
            have _cw_80z := _cw_80.size
            have E := E.trans _cw_80
            obtain ⟨_Av55, _Cv55, _ev55⟩ := _q55.val
            subst _ev55
            have _lv55 := _q55.len
            have _hiv55 := _q55.lt
            have _S_81 : Ch (bl (.slice Akr ((zq (bx (nxS nextc0N nextc1N) (x25, _u25) (bE (nxS nextc0N nextc1N) first k) m) V2).drop k).length Ckr)) _w_73 _w_80 := (_S_79.trans _cw_80.of_nil)
            refine ⟨_S_81, ?_⟩
            refine DR_one 7 (by kernel_rfl) ?_
            refine DO_s rfl rfl rfl ?_
            have _f_83 := (_q53.ch0 _cw_80)
            refine s_append (cs := ics) el31 sz3 by3 zr3 rfl (by decide) ics_one _f_83 _q55.ls rfl rfl (by have _z1 := hwl k _ (mem_of_get he25); dsimp only at _z1; simp only [List.length_singleton]; omega) (by have _z1 := hwl k _ (mem_of_get he25); dsimp only at _z1; simp only [List.length_singleton]; omega) _lo53 (by omega) fun _v56 _w_82 _q56 _lo56 _ap56 _cw_82 => ?_
            have _cw_82z := _cw_82.size
            have E := E.step _cw_82 (fun i hi => .inl (by have _h1 := _lo53 _ hi; omega))
            obtain ⟨_Av56, _Cv56, _ev56⟩ := _q56.val
            subst _ev56
            have _lv56 := _q56.len
            have _hiv56 := _q56.lt
            have _S_84 : Ch (bl (.slice Akr ((zq (bx (nxS nextc0N nextc1N) (x25, _u25) (bE (nxS nextc0N nextc1N) first k) m) V2).drop k).length Ckr)) _w_73 _w_82 := (_S_81.step _cw_82 (fun i hm => by left; have _h1 := _lo53 _ hm; have _h2 := _hiv53 _ hm; omega))
            refine ⟨_S_84, ?_⟩
            refine DR_s 8 rfl (by kernel_rfl) rfl rfl (t_v (fun _ => (r_build (parts := [(0, .tmp 50), (1, .tmp 56)]) (cells := [(.int .i64 ((⟨moveA nextc0N x25.a ((m : Nat) : Int), moveA nextc1N x25.b ((m : Nat) : Int)⟩ : St2).a)), (.int .i64 ((⟨moveA nextc0N x25.a ((m : Nat) : Int), moveA nextc1N x25.b ((m : Nat) : Int)⟩ : St2).b)), (.slice _Av56 ((_u25 ++ [((m : Nat) : Int)])).length _Cv56)]) zr76 pl76 rfl rfl)) ?_)
            refine DR_one 9 (by kernel_rfl) ?_
            refine DO_s rfl rfl rfl ?_
            refine s_buildSlice (cs := Qs.cs) (parts := [(0, .tmp 57)]) (⟨⟨0, 0⟩, ⟨none, 0, 0⟩⟩ : Qs) [(⟨⟨(⟨moveA nextc0N x25.a ((m : Nat) : Int), moveA nextc1N x25.b ((m : Nat) : Int)⟩ : St2).a, (⟨moveA nextc0N x25.a ((m : Nat) : Int), moveA nextc1N x25.b ((m : Nat) : Int)⟩ : St2).b⟩, (⟨_Av56, ((_u25 ++ [((m : Nat) : Int)])).length, _Cv56⟩ : Sv)⟩ : Qs)] el77 sz76 zr76 Qs.len (by decide) rfl rfl rfl (by decide) (by decide) rfl fun _v58 _w_85 _q58 _lo58 _cw_85 => ?_
            have _cw_85z := _cw_85.size
            have E := E.trans _cw_85
            obtain ⟨_Av58, _Cv58, _ev58⟩ := _q58.val
            subst _ev58
            have _lv58 := _q58.len
            have _hiv58 := _q58.lt
            have _S_86 : Ch (bl (.slice Akr ((zq (bx (nxS nextc0N nextc1N) (x25, _u25) (bE (nxS nextc0N nextc1N) first k) m) V2).drop k).length Ckr)) _w_73 _w_85 := (_S_84.trans _cw_85.of_nil)
            refine ⟨_S_86, ?_⟩
            refine DR_one 10 (by kernel_rfl) ?_
            refine DO_s rfl rfl rfl ?_
            have _f_88 := (((((((((_o1_9.ch0 _cw_63).ch0 _cw_64).ch _cw_65 (fun g hg hm => by have _h0 := List.mem_singleton.1 hm; have _h2 := _lo1_9 _ hg; have _h3 := hikr _ hg; omega)).ch _cw_71 (fun g hg hm => by have _h0 := List.mem_singleton.1 hm; have _h2 := _lo1_9 _ hg; have _h3 := hikr _ hg; omega)).ch0 _cw_73).ch0 _cw_78).ch0 _cw_80).ch _cw_82 (fun g hg hm => by have _h1 := _lo53 _ hm; have _h2 := _hiv53 _ hm; have _h3 := _lo1_9 _ hg; have _h4 := hikr _ hg; omega)).ch0 _cw_85)
            refine s_append (cs := Qs.cs) el77 sz76 by76 zr76 rfl (by decide) Qs.one _f_88 _q58.ls rfl rfl (by have _z1 := bx_le9 (m := m) he25 (by omega); have _z2 := hle (k + 1); have _z3 := zq_len hV2; simp only [List.length_singleton, List.length_drop]; omega) (by have _z1 := bx_le9 (m := m) he25 (by omega); have _z2 := hle (k + 1); have _z3 := zq_len hV2; simp only [List.length_singleton, List.length_drop]; omega) _lo1_9 (by omega) fun _v59 _w_87 _q59 _lo59 _ap59 _cw_87 => ?_
            have _cw_87z := _cw_87.size
            have E := E.step _cw_87 (fun i hi => .inl (by have _h1 := _lo1_9 _ hi; omega))
            obtain ⟨_Av59, _Cv59, _ev59⟩ := _q59.val
            subst _ev59
            have _lv59 := _q59.len
            have _hiv59 := _q59.lt
            have _S_89 : Ch (bl (.slice Akr ((zq (bx (nxS nextc0N nextc1N) (x25, _u25) (bE (nxS nextc0N nextc1N) first k) m) V2).drop k).length Ckr)) _w_73 _w_87 := (_S_86.step _cw_87 (fun i hm => by exact .inr hm))
            refine ⟨_S_89, ?_⟩
            refine DR_s 11 rfl (by kernel_rfl) rfl rfl (t_v (fun _ => (r_assign rfl)) ?_)
            refine DR_done (by kernel_rfl) ?_
            refine inB_nrm ?_
            refine thn_nrm (_hK_53 _ _ ?_)
            clear _hK_53
            refine W_region ?_
            refine WL_step rfl rfl (r_move rfl) ?_
            refine WL_step rfl rfl (r_add (by omega) rfl rfl) ?_
            refine WL_step rfl rfl (r_assign rfl) ?_
            refine WL_nil ?_
            have _on_90 : Ol Qs.cs 76 3 _w_87 (.slice _Av59 (((zq (bx (nxS nextc0N nextc1N) (x25, _u25) (bE (nxS nextc0N nextc1N) first k) m) V2).drop k ++ [(⟨⟨(⟨moveA nextc0N x25.a ((m : Nat) : Int), moveA nextc1N x25.b ((m : Nat) : Int)⟩ : St2).a, (⟨moveA nextc0N x25.a ((m : Nat) : Int), moveA nextc1N x25.b ((m : Nat) : Int)⟩ : St2).b⟩, (⟨_Av56, ((_u25 ++ [((m : Nat) : Int)])).length, _Cv56⟩ : Sv)⟩ : Qs)])).length _Cv59) ((zq (bx (nxS nextc0N nextc1N) (x25, _u25) (bE (nxS nextc0N nextc1N) first k) (m + 1)) (V2 ++ [(⟨_Av56, ((_u25 ++ [((m : Nat) : Int)])).length, _Cv56⟩ : Sv)])).drop k) := by
              have hx := _q59
              first | (rw [bx_y hm46]; exact hx) | (rw [bx_n hm46, zq_drop hV2 (Nat.le_of_lt (bx_lt he25))]; exact hx)
            have _f_92 := ((((((_m_72.ch0 _cw_73).ch0 _cw_78).ch0 _cw_80).ch _cw_82 (fun hm => by have _h1 := _lo53 _ hm; have _h2 := _hiv53 _ hm; omega)).ch0 _cw_85).ch _cw_87 (fun hm => by have _h1 := _lo1_9 _ hm; have _h2 := hikr _ hm; omega))
            have _on_91 : Mp kvS _w_87 _b13 ((bx (nxS nextc0N nextc1N) (x25, _u25) (bE (nxS nextc0N nextc1N) first k) (m + 1)).map (·.1)) := by
              have hx := _f_92
              first | (rw [bx_y hm46]; exact hx) | (rw [bx_n hm46, List.map_append]; exact hx)
            have _f_93 := (((((_f_76.ch0 _cw_78).ch0 _cw_80).ch _cw_82 (fun i hm => by have _h1 := _lo53 _ hm; have _h2 := _hiv53 _ hm; omega)).ch0 _cw_85).chS _cw_87 _spl1_9)
            have _f_94 := ((_q56.ch0 _cw_85).ch _cw_87 (fun g hg hm => by rcases _ap56 with ea | ea; (rw [ea] at hg; have _h1 := _lo1_9 _ hm; have _h2 := hikr _ hm; have _h3 := _lo53 _ hg; have _h4 := _hiv53 _ hg; omega); (have z2hg := _hiv56 _ hg; rw [ea] at hg; have _z1 := List.mem_singleton.1 hg; have _h1 := _lo1_9 _ hm; have _h2 := hikr _ hm; omega)))
            have _f_95 := ((((((((((_F1_8.ch0 _cw_63).ch0 _cw_64).ch _cw_65 (fun hm => by have _h1 := List.mem_singleton.1 hm; omega)).ch _cw_71 (fun hm => by have _h1 := List.mem_singleton.1 hm; omega)).ch0 _cw_73).ch0 _cw_78).ch0 _cw_80).ch _cw_82 (fun hm => by have _h1 := _lo53 _ hm; have _h2 := _hiv53 _ hm; omega)).ch0 _cw_85).ch _cw_87 (fun hm => by have _h1 := _lo1_9 _ hm; have _h2 := hikr _ hm; omega))
            have _f_96 := ((((((((((_F1_9.ch0 _cw_63).ch0 _cw_64).ch _cw_65 (fun i hi => by have _h1 := List.mem_singleton.1 hi; omega)).ch _cw_71 (fun i hi => by have _h1 := List.mem_singleton.1 hi; omega)).ch0 _cw_73).ch0 _cw_78).ch0 _cw_80).ch _cw_82 (fun i hi => by have _h1 := _lo53 _ hi; omega)).ch0 _cw_85).ch _cw_87 (fun i hi => by have _h1 := _lo1_9 _ hi; omega))
            have _f_97 := ((((((((((_F1_10.ch0 _cw_63).ch0 _cw_64).ch _cw_65 (fun i hi => by have _h1 := List.mem_singleton.1 hi; omega)).ch _cw_71 (fun i hi => by have _h1 := List.mem_singleton.1 hi; omega)).ch0 _cw_73).ch0 _cw_78).ch0 _cw_80).ch _cw_82 (fun i hi => by have _h1 := _lo53 _ hi; omega)).ch0 _cw_85).ch _cw_87 (fun i hi => by have _h1 := _lo1_9 _ hi; omega))
            have _f_98 := ((((((((((_F1_11.ch0 _cw_63).ch0 _cw_64).ch _cw_65 (fun i hi => by have _h1 := List.mem_singleton.1 hi; omega)).ch _cw_71 (fun i hi => by have _h1 := List.mem_singleton.1 hi; omega)).ch0 _cw_73).ch0 _cw_78).ch0 _cw_80).ch _cw_82 (fun i hi => by have _h1 := _lo53 _ hi; omega)).ch0 _cw_85).ch _cw_87 (fun i hi => by have _h1 := _lo1_9 _ hi; omega))
            have _f_99 := (((((_f_75.ch0 _cw_78).ch0 _cw_80).ch _cw_82 (fun hm => by have _h1 := _lo53 _ hm; have _h2 := _hiv53 _ hm; omega)).ch0 _cw_85).ch _cw_87 (fun hm => by exact _nbz1_9_10 (by first | exact hm | exact _h0 ▸ hm)))
            exact thn_nrm (Exists.intro ((m + 1), (V2 ++ [(⟨_Av56, ((_u25 ++ [((m : Nat) : Int)])).length, _Cv56⟩ : Sv)]), (.slice _Av59 (((zq (bx (nxS nextc0N nextc1N) (x25, _u25) (bE (nxS nextc0N nextc1N) first k) m) V2).drop k ++ [(⟨⟨(⟨moveA nextc0N x25.a ((m : Nat) : Int), moveA nextc1N x25.b ((m : Nat) : Int)⟩ : St2).a, (⟨moveA nextc0N x25.a ((m : Nat) : Int), moveA nextc1N x25.b ((m : Nat) : Int)⟩ : St2).b⟩, (⟨_Av56, ((_u25 ++ [((m : Nat) : Int)])).length, _Cv56⟩ : Sv)⟩ : Qs)])).length _Cv59)) ⟨⟨E, (by omega), (by omega), (by first | (rw [bx_y hm46]; exact hV2) | (rw [bx_n hm46]; simp only [List.length_append, hV2, List.length_singleton])), (by first | exact hvk | exact get_app hvk), _f_95, _f_96, _f_97, _f_98, _f_99, _on_90, (Lo.down _lo59 (by omega)), _on_91, (by rw [bx_n hm46, List.map_append]; exact Od.snoc _f_93 _f_94 (Lo.down _lo56 (by omega)) (fun g hg => by have _h1 := _hiv56 g hg; omega) (by omega) (by omega)), (fun hm => by rcases _ap59 with ea | ea; (rw [ea] at hm; exact _nbz1_9_10 (by first | exact hm | exact _h0 ▸ hm)); (have z2hm := _hiv59 _ hm; rw [ea] at hm; have _z1 := List.mem_singleton.1 hm; omega)), (fun u hu g hg hm => by rcases List.mem_append.1 hu with hu | hu; (rcases _ap59 with ea | ea; (rw [ea] at hm; exact _spl1_9 _ hu _ hg hm); (have z2hm := _hiv59 _ hm; rw [ea] at hm; have _z1 := List.mem_singleton.1 hm; have _h9 := _f_93.rng hu hg; omega)); (rw [List.mem_singleton.1 hu] at hg; replace hg : g ∈ bl (.slice _Av56 ((_u25 ++ [((m : Nat) : Int)])).length _Cv56) := hg; rcases _ap56 with ea | ea; (rw [ea] at hg; rcases _ap59 with ea | ea; (rw [ea] at hm; have _h1 := _lo1_9 _ hm; have _h2 := hikr _ hm; have _h3 := _lo53 _ hg; have _h4 := _hiv53 _ hg; omega); (have z2hm := _hiv59 _ hm; rw [ea] at hm; have _z1 := List.mem_singleton.1 hm; have _h3 := _lo53 _ hg; have _h4 := _hiv53 _ hg; omega)); (have z2hg := _hiv56 _ hg; rw [ea] at hg; have _z1 := List.mem_singleton.1 hg; rcases _ap59 with ea | ea; (rw [ea] at hm; have _h1 := _lo1_9 _ hm; have _h2 := hikr _ hm; omega); (have z2hm := _hiv59 _ hm; rw [ea] at hm; have _z1 := List.mem_singleton.1 hm; omega))))⟩, Sub.cons rfl (Sub.cons rfl (Sub.cons rfl (Sub.cons rfl (Sub.cons rfl (Sub.cons rfl (Sub.cons rfl (Sub.cons rfl (Sub.nil _)))))))), (by first | omega | (dsimp only; omega))⟩)
          · refine DO_s rfl rfl rfl ?_
            refine s_buildSlice (cs := ics) (parts := [(0, .tmp 54)]) (0 : Int) [((m : Nat) : Int)] el31 sz3 zr3 ics_len (by decide) rfl rfl rfl (by decide) (by decide) rfl fun _v55 _w_100 _q55 _lo55 _cw_100 => ?_
            have _cw_100z := _cw_100.size
            have E := E.trans _cw_100
            obtain ⟨_Av55, _Cv55, _ev55⟩ := _q55.val
            subst _ev55
            have _lv55 := _q55.len
            have _hiv55 := _q55.lt
            have _S_101 : Ch (bl (.slice Akr ((zq (bx (nxS nextc0N nextc1N) (x25, _u25) (bE (nxS nextc0N nextc1N) first k) m) V2).drop k).length Ckr)) _w_73 _w_100 := ((Ch.refl _ _).trans _cw_100.of_nil)
            refine ⟨_S_101, ?_⟩
            refine DR_one 4 (by kernel_rfl) ?_
            refine DO_s rfl rfl rfl ?_
            have _f_102 := ((((((od2.ch0 _cw_63).ch0 _cw_64).ch _cw_65 (fun i hi => by have _h1 := List.mem_singleton.1 hi; omega)).ch _cw_71 (fun i hi => by have _h1 := List.mem_singleton.1 hi; omega)).ch0 _cw_73).ch0 _cw_100)
            have _f_103 : _ := zq_word _f_102 hvk (bx_get he25)
            refine Step.call (r_call (xs := [.tmp 52]) fk65 rfl) (c_impl_copyInts _f_103 (by have _z1 := hwl k _ (mem_of_get he25); dsimp only at _z1; omega)) fun _v53 _w_104 _q53 => ?_
            obtain ⟨_q53, _lo53, _cw_104⟩ := _q53
            have _cw_104z := _cw_104.size
            have E := E.trans _cw_104
            obtain ⟨_Av53, _Cv53, _ev53⟩ := _q53.val
            subst _ev53
            have _lv53 := _q53.len
            have _hiv53 := _q53.lt
            have _S_105 : Ch (bl (.slice Akr ((zq (bx (nxS nextc0N nextc1N) (x25, _u25) (bE (nxS nextc0N nextc1N) first k) m) V2).drop k).length Ckr)) _w_73 _w_104 := (_S_101.trans _cw_104.of_nil)
            refine ⟨_S_105, ?_⟩
            refine DR_one 7 (by kernel_rfl) ?_
            refine DO_s rfl rfl rfl ?_
            have _f_107 := (_q55.ch0 _cw_104)
            refine s_append (cs := ics) el31 sz3 by3 zr3 rfl (by decide) ics_one _q53 _f_107.ls rfl rfl (by have _z1 := hwl k _ (mem_of_get he25); dsimp only at _z1; simp only [List.length_singleton]; omega) (by have _z1 := hwl k _ (mem_of_get he25); dsimp only at _z1; simp only [List.length_singleton]; omega) _lo53 (by omega) fun _v56 _w_106 _q56 _lo56 _ap56 _cw_106 => ?_
            have _cw_106z := _cw_106.size
            have E := E.step _cw_106 (fun i hi => .inl (by have _h1 := _lo53 _ hi; omega))
            obtain ⟨_Av56, _Cv56, _ev56⟩ := _q56.val
            subst _ev56
            have _lv56 := _q56.len
            have _hiv56 := _q56.lt
            have _S_108 : Ch (bl (.slice Akr ((zq (bx (nxS nextc0N nextc1N) (x25, _u25) (bE (nxS nextc0N nextc1N) first k) m) V2).drop k).length Ckr)) _w_73 _w_106 := (_S_105.step _cw_106 (fun i hm => by left; have _h1 := _lo53 _ hm; have _h2 := _hiv53 _ hm; omega))
            refine ⟨_S_108, ?_⟩
            refine DR_s 8 rfl (by kernel_rfl) rfl rfl (t_v (fun _ => (r_build (parts := [(0, .tmp 50), (1, .tmp 56)]) (cells := [(.int .i64 ((⟨moveA nextc0N x25.a ((m : Nat) : Int), moveA nextc1N x25.b ((m : Nat) : Int)⟩ : St2).a)), (.int .i64 ((⟨moveA nextc0N x25.a ((m : Nat) : Int), moveA nextc1N x25.b ((m : Nat) : Int)⟩ : St2).b)), (.slice _Av56 ((_u25 ++ [((m : Nat) : Int)])).length _Cv56)]) zr76 pl76 rfl rfl)) ?_)
            refine DR_one 9 (by kernel_rfl) ?_
            refine DO_s rfl rfl rfl ?_
            refine s_buildSlice (cs := Qs.cs) (parts := [(0, .tmp 57)]) (⟨⟨0, 0⟩, ⟨none, 0, 0⟩⟩ : Qs) [(⟨⟨(⟨moveA nextc0N x25.a ((m : Nat) : Int), moveA nextc1N x25.b ((m : Nat) : Int)⟩ : St2).a, (⟨moveA nextc0N x25.a ((m : Nat) : Int), moveA nextc1N x25.b ((m : Nat) : Int)⟩ : St2).b⟩, (⟨_Av56, ((_u25 ++ [((m : Nat) : Int)])).length, _Cv56⟩ : Sv)⟩ : Qs)] el77 sz76 zr76 Qs.len (by decide) rfl rfl rfl (by decide) (by decide) rfl fun _v58 _w_109 _q58 _lo58 _cw_109 => ?_
            have _cw_109z := _cw_109.size
            have E := E.trans _cw_109
            obtain ⟨_Av58, _Cv58, _ev58⟩ := _q58.val
            subst _ev58
            have _lv58 := _q58.len
            have _hiv58 := _q58.lt
            have _S_110 : Ch (bl (.slice Akr ((zq (bx (nxS nextc0N nextc1N) (x25, _u25) (bE (nxS nextc0N nextc1N) first k) m) V2).drop k).length Ckr)) _w_73 _w_109 := (_S_108.trans _cw_109.of_nil)
            refine ⟨_S_110, ?_⟩
            refine DR_one 10 (by kernel_rfl) ?_
            refine DO_s rfl rfl rfl ?_
            have _f_112 := (((((((((_o1_9.ch0 _cw_63).ch0 _cw_64).ch _cw_65 (fun g hg hm => by have _h0 := List.mem_singleton.1 hm; have _h2 := _lo1_9 _ hg; have _h3 := hikr _ hg; omega)).ch _cw_71 (fun g hg hm => by have _h0 := List.mem_singleton.1 hm; have _h2 := _lo1_9 _ hg; have _h3 := hikr _ hg; omega)).ch0 _cw_73).ch0 _cw_100).ch0 _cw_104).ch _cw_106 (fun g hg hm => by have _h1 := _lo53 _ hm; have _h2 := _hiv53 _ hm; have _h3 := _lo1_9 _ hg; have _h4 := hikr _ hg; omega)).ch0 _cw_109)
            refine s_append (cs := Qs.cs) el77 sz76 by76 zr76 rfl (by decide) Qs.one _f_112 _q58.ls rfl rfl (by have _z1 := bx_le9 (m := m) he25 (by omega); have _z2 := hle (k + 1); have _z3 := zq_len hV2; simp only [List.length_singleton, List.length_drop]; omega) (by have _z1 := bx_le9 (m := m) he25 (by omega); have _z2 := hle (k + 1); have _z3 := zq_len hV2; simp only [List.length_singleton, List.length_drop]; omega) _lo1_9 (by omega) fun _v59 _w_111 _q59 _lo59 _ap59 _cw_111 => ?_
            have _cw_111z := _cw_111.size
            have E := E.step _cw_111 (fun i hi => .inl (by have _h1 := _lo1_9 _ hi; omega))
            obtain ⟨_Av59, _Cv59, _ev59⟩ := _q59.val
            subst _ev59
            have _lv59 := _q59.len
            have _hiv59 := _q59.lt
            have _S_113 : Ch (bl (.slice Akr ((zq (bx (nxS nextc0N nextc1N) (x25, _u25) (bE (nxS nextc0N nextc1N) first k) m) V2).drop k).length Ckr)) _w_73 _w_111 := (_S_110.step _cw_111 (fun i hm => by exact .inr hm))
            refine ⟨_S_113, ?_⟩
            refine DR_s 11 rfl (by kernel_rfl) rfl rfl (t_v (fun _ => (r_assign rfl)) ?_)
            refine DR_done (by kernel_rfl) ?_
            refine inB_nrm ?_
            refine thn_nrm (_hK_53 _ _ ?_)
            clear _hK_53
            refine W_region ?_
            refine WL_step rfl rfl (r_move rfl) ?_
            refine WL_step rfl rfl (r_add (by omega) rfl rfl) ?_
            refine WL_step rfl rfl (r_assign rfl) ?_
            refine WL_nil ?_
            have _on_114 : Ol Qs.cs 76 3 _w_111 (.slice _Av59 (((zq (bx (nxS nextc0N nextc1N) (x25, _u25) (bE (nxS nextc0N nextc1N) first k) m) V2).drop k ++ [(⟨⟨(⟨moveA nextc0N x25.a ((m : Nat) : Int), moveA nextc1N x25.b ((m : Nat) : Int)⟩ : St2).a, (⟨moveA nextc0N x25.a ((m : Nat) : Int), moveA nextc1N x25.b ((m : Nat) : Int)⟩ : St2).b⟩, (⟨_Av56, ((_u25 ++ [((m : Nat) : Int)])).length, _Cv56⟩ : Sv)⟩ : Qs)])).length _Cv59) ((zq (bx (nxS nextc0N nextc1N) (x25, _u25) (bE (nxS nextc0N nextc1N) first k) (m + 1)) (V2 ++ [(⟨_Av56, ((_u25 ++ [((m : Nat) : Int)])).length, _Cv56⟩ : Sv)])).drop k) := by
              have hx := _q59
              first | (rw [bx_y hm46]; exact hx) | (rw [bx_n hm46, zq_drop hV2 (Nat.le_of_lt (bx_lt he25))]; exact hx)
            have _f_116 := ((((((_m_72.ch0 _cw_73).ch0 _cw_100).ch0 _cw_104).ch _cw_106 (fun hm => by have _h1 := _lo53 _ hm; have _h2 := _hiv53 _ hm; omega)).ch0 _cw_109).ch _cw_111 (fun hm => by have _h1 := _lo1_9 _ hm; have _h2 := hikr _ hm; omega))
            have _on_115 : Mp kvS _w_111 _b13 ((bx (nxS nextc0N nextc1N) (x25, _u25) (bE (nxS nextc0N nextc1N) first k) (m + 1)).map (·.1)) := by
              have hx := _f_116
              first | (rw [bx_y hm46]; exact hx) | (rw [bx_n hm46, List.map_append]; exact hx)
            have _f_117 := ((((_f_102.ch0 _cw_104).ch _cw_106 (fun i hm => by have _h1 := _lo53 _ hm; have _h2 := _hiv53 _ hm; omega)).ch0 _cw_109).chS _cw_111 _spl1_9)
            have _f_118 := ((_q56.ch0 _cw_109).ch _cw_111 (fun g hg hm => by rcases _ap56 with ea | ea; (rw [ea] at hg; have _h1 := _lo1_9 _ hm; have _h2 := hikr _ hm; have _h3 := _lo53 _ hg; have _h4 := _hiv53 _ hg; omega); (have z2hg := _hiv56 _ hg; rw [ea] at hg; have _z1 := List.mem_singleton.1 hg; have _h1 := _lo1_9 _ hm; have _h2 := hikr _ hm; omega)))
            have _f_119 := ((((((((((_F1_8.ch0 _cw_63).ch0 _cw_64).ch _cw_65 (fun hm => by have _h1 := List.mem_singleton.1 hm; omega)).ch _cw_71 (fun hm => by have _h1 := List.mem_singleton.1 hm; omega)).ch0 _cw_73).ch0 _cw_100).ch0 _cw_104).ch _cw_106 (fun hm => by have _h1 := _lo53 _ hm; have _h2 := _hiv53 _ hm; omega)).ch0 _cw_109).ch _cw_111 (fun hm => by have _h1 := _lo1_9 _ hm; have _h2 := hikr _ hm; omega))
            have _f_120 := ((((((((((_F1_9.ch0 _cw_63).ch0 _cw_64).ch _cw_65 (fun i hi => by have _h1 := List.mem_singleton.1 hi; omega)).ch _cw_71 (fun i hi => by have _h1 := List.mem_singleton.1 hi; omega)).ch0 _cw_73).ch0 _cw_100).ch0 _cw_104).ch _cw_106 (fun i hi => by have _h1 := _lo53 _ hi; omega)).ch0 _cw_109).ch _cw_111 (fun i hi => by have _h1 := _lo1_9 _ hi; omega))
            have _f_121 := ((((((((((_F1_10.ch0 _cw_63).ch0 _cw_64).ch _cw_65 (fun i hi => by have _h1 := List.mem_singleton.1 hi; omega)).ch _cw_71 (fun i hi => by have _h1 := List.mem_singleton.1 hi; omega)).ch0 _cw_73).ch0 _cw_100).ch0 _cw_104).ch _cw_106 (fun i hi => by have _h1 := _lo53 _ hi; omega)).ch0 _cw_109).ch _cw_111 (fun i hi => by have _h1 := _lo1_9 _ hi; omega))
            have _f_122 := ((((((((((_F1_11.ch0 _cw_63).ch0 _cw_64).ch _cw_65 (fun i hi => by have _h1 := List.mem_singleton.1 hi; omega)).ch _cw_71 (fun i hi => by have _h1 := List.mem_singleton.1 hi; omega)).ch0 _cw_73).ch0 _cw_100).ch0 _cw_104).ch _cw_106 (fun i hi => by have _h1 := _lo53 _ hi; omega)).ch0 _cw_109).ch _cw_111 (fun i hi => by have _h1 := _lo1_9 _ hi; omega))
            have _f_123 := (((((_f_75.ch0 _cw_100).ch0 _cw_104).ch _cw_106 (fun hm => by have _h1 := _lo53 _ hm; have _h2 := _hiv53 _ hm; omega)).ch0 _cw_109).ch _cw_111 (fun hm => by exact _nbz1_9_10 (by first | exact hm | exact _h0 ▸ hm)))
            exact thn_nrm (Exists.intro ((m + 1), (V2 ++ [(⟨_Av56, ((_u25 ++ [((m : Nat) : Int)])).length, _Cv56⟩ : Sv)]), (.slice _Av59 (((zq (bx (nxS nextc0N nextc1N) (x25, _u25) (bE (nxS nextc0N nextc1N) first k) m) V2).drop k ++ [(⟨⟨(⟨moveA nextc0N x25.a ((m : Nat) : Int), moveA nextc1N x25.b ((m : Nat) : Int)⟩ : St2).a, (⟨moveA nextc0N x25.a ((m : Nat) : Int), moveA nextc1N x25.b ((m : Nat) : Int)⟩ : St2).b⟩, (⟨_Av56, ((_u25 ++ [((m : Nat) : Int)])).length, _Cv56⟩ : Sv)⟩ : Qs)])).length _Cv59)) ⟨⟨E, (by omega), (by omega), (by first | (rw [bx_y hm46]; exact hV2) | (rw [bx_n hm46]; simp only [List.length_append, hV2, List.length_singleton])), (by first | exact hvk | exact get_app hvk), _f_119, _f_120, _f_121, _f_122, _f_123, _on_114, (Lo.down _lo59 (by omega)), _on_115, (by rw [bx_n hm46, List.map_append]; exact Od.snoc _f_117 _f_118 (Lo.down _lo56 (by omega)) (fun g hg => by have _h1 := _hiv56 g hg; omega) (by omega) (by omega)), (fun hm => by rcases _ap59 with ea | ea; (rw [ea] at hm; exact _nbz1_9_10 (by first | exact hm | exact _h0 ▸ hm)); (have z2hm := _hiv59 _ hm; rw [ea] at hm; have _z1 := List.mem_singleton.1 hm; omega)), (fun u hu g hg hm => by rcases List.mem_append.1 hu with hu | hu; (rcases _ap59 with ea | ea; (rw [ea] at hm; exact _spl1_9 _ hu _ hg hm); (have z2hm := _hiv59 _ hm; rw [ea] at hm; have _z1 := List.mem_singleton.1 hm; have _h9 := _f_117.rng hu hg; omega)); (rw [List.mem_singleton.1 hu] at hg; replace hg : g ∈ bl (.slice _Av56 ((_u25 ++ [((m : Nat) : Int)])).length _Cv56) := hg; rcases _ap56 with ea | ea; (rw [ea] at hg; rcases _ap59 with ea | ea; (rw [ea] at hm; have _h1 := _lo1_9 _ hm; have _h2 := hikr _ hm; have _h3 := _lo53 _ hg; have _h4 := _hiv53 _ hg; omega); (have z2hm := _hiv59 _ hm; rw [ea] at hm; have _z1 := List.mem_singleton.1 hm; have _h3 := _lo53 _ hg; have _h4 := _hiv53 _ hg; omega)); (have z2hg := _hiv56 _ hg; rw [ea] at hg; have _z1 := List.mem_singleton.1 hg; rcases _ap59 with ea | ea; (rw [ea] at hm; have _h1 := _lo1_9 _ hm; have _h2 := hikr _ hm; omega); (have z2hm := _hiv59 _ hm; rw [ea] at hm; have _z1 := List.mem_singleton.1 hm; omega))))⟩, Sub.cons rfl (Sub.cons rfl (Sub.cons rfl (Sub.cons rfl (Sub.cons rfl (Sub.cons rfl (Sub.cons rfl (Sub.cons rfl (Sub.nil _)))))))), (by first | omega | (dsimp only; omega))⟩)
        · have _kb_69 := _h46
          have _h46 := bt_d (bf_n _h46)
          have hm46 := _h46
          refine W_skip ?_
          refine inB_nrm ?_
          refine thn_nrm (_hK_53 _ _ ?_)
          clear _hK_53
          refine W_region ?_
          refine WL_step rfl rfl (r_move rfl) ?_
          refine WL_step rfl rfl (r_add (by omega) rfl rfl) ?_
          refine WL_step rfl rfl (r_assign rfl) ?_
          refine WL_nil ?_
          have _f_125 := (((_o1_9.ch0 _cw_63).ch0 _cw_64).ch _cw_65 (fun g hg hm => by have _h0 := List.mem_singleton.1 hm; have _h2 := _lo1_9 _ hg; have _h3 := hikr _ hg; omega))
          have _on_124 : Ol Qs.cs 76 3 _w_65 (.slice Akr ((zq (bx (nxS nextc0N nextc1N) (x25, _u25) (bE (nxS nextc0N nextc1N) first k) m) V2).drop k).length Ckr) ((zq (bx (nxS nextc0N nextc1N) (x25, _u25) (bE (nxS nextc0N nextc1N) first k) (m + 1)) V2).drop k) := by
            have hx := _f_125
            first | (rw [bx_y hm46]; exact hx) | (rw [bx_n hm46, zq_drop hV2 (Nat.le_of_lt (bx_lt he25))]; exact hx)
          have _on_126 : Mp kvS _w_65 _b13 ((bx (nxS nextc0N nextc1N) (x25, _u25) (bE (nxS nextc0N nextc1N) first k) (m + 1)).map (·.1)) := by
            have hx := _f_68
            first | (rw [bx_y hm46]; exact hx) | (rw [bx_n hm46, List.map_append]; exact hx)
          have _f_127 := (((od2.ch0 _cw_63).ch0 _cw_64).ch _cw_65 (fun i hi => by have _h1 := List.mem_singleton.1 hi; omega))
          have _f_128 := (((_F1_8.ch0 _cw_63).ch0 _cw_64).ch _cw_65 (fun hm => by have _h1 := List.mem_singleton.1 hm; omega))
          have _f_129 := (((_F1_9.ch0 _cw_63).ch0 _cw_64).ch _cw_65 (fun i hi => by have _h1 := List.mem_singleton.1 hi; omega))
          have _f_130 := (((_F1_10.ch0 _cw_63).ch0 _cw_64).ch _cw_65 (fun i hi => by have _h1 := List.mem_singleton.1 hi; omega))
          have _f_131 := (((_F1_11.ch0 _cw_63).ch0 _cw_64).ch _cw_65 (fun i hi => by have _h1 := List.mem_singleton.1 hi; omega))
          have _f_132 := (((_F1_12.ch0 _cw_63).ch0 _cw_64).ch _cw_65 (fun hm => by have _h1 := List.mem_singleton.1 hm; omega))
          exact thn_nrm (Exists.intro ((m + 1), V2, (.slice Akr ((zq (bx (nxS nextc0N nextc1N) (x25, _u25) (bE (nxS nextc0N nextc1N) first k) m) V2).drop k).length Ckr)) ⟨⟨E, (by omega), (by omega), (by first | (rw [bx_y hm46]; exact hV2) | (rw [bx_n hm46]; simp only [List.length_append, hV2, List.length_singleton])), (by first | exact hvk | exact get_app hvk), _f_128, _f_129, _f_130, _f_131, _f_132, _on_124, (Lo.down _lo1_9 (by omega)), _on_126, (by rw [bx_y hm46]; exact _f_127.up (Nat.le_refl _) (by omega)), (fun hm => by exact _nbz1_9_10 (by first | exact hm | exact _h0 ▸ hm)), (fun u hu g hg hm => by exact _spl1_9 _ hu _ hg hm)⟩, Sub.cons rfl (Sub.cons rfl (Sub.cons rfl (Sub.cons rfl (Sub.cons rfl (Sub.cons rfl (Sub.cons rfl (Sub.cons rfl (Sub.nil _)))))))), (by first | omega | (dsimp only; omega))⟩)
      · have _kb_52 := _h35
        have _h35 := bf_d _h35
        have zl2 := zq_len hV2
        have zd2 := List.length_drop (l := zq (bx (nxS nextc0N nextc1N) (x25, _u25) (bE (nxS nextc0N nextc1N) first k) m) V2) (i := k)
        have zk2 := bx_lt (m := m) he25
        refine W_exit (thn_exit (thn_exit (inB_hit ?_)))
        refine inB_nrm ?_
        refine thn_nrm (_hK_19 _ _ ?_)
        clear _hK_19
        refine W_region ?_
        refine WL_step rfl rfl (r_move rfl) ?_
        refine WL_s rfl rfl ?_
        refine (s_cutO (ys := (((zq (bx (nxS nextc0N nextc1N) (x25, _u25) (bE (nxS nextc0N nextc1N) first k) m) V2).drop k).drop 1)) 1 (((zq (bx (nxS nextc0N nextc1N) (x25, _u25) (bE (nxS nextc0N nextc1N) first k) m) V2).drop k).length) _o1_9 Qs.len el77 sz76 rfl ⟨_, _, rfl, by omega⟩ rfl (by omega) (by omega) (cut_all _ _) fun _v23 _q23 _bb23 _ln23 => ?_)
        obtain ⟨_A23, _C23, _e23⟩ := _q23.val
        subst _e23
        have _l23 := _q23.len
        have hi23 := _q23.lt
        refine WL_step rfl rfl (r_assign rfl) ?_
        refine WL_nil ?_
        have _on_133 : Ol Qs.cs 76 3 _wr_49 (.slice _A23 ((((zq (bx (nxS nextc0N nextc1N) (x25, _u25) (bE (nxS nextc0N nextc1N) first k) m) V2).drop k).drop 1)).length _C23) ((zq (bE (nxS nextc0N nextc1N) first (k + 1)) V2).drop (k + 1)) := by
          have hx := _q23
          rw [bE_succ he25, show 9 = m by omega]; exact hx.eq (by rw [List.drop_drop])
        have _on_134 : Mp kvS _wr_49 _b13 ((bE (nxS nextc0N nextc1N) first (k + 1)).map (·.1)) := by
          have hx := _m1_8
          rw [bE_succ he25, show 9 = m by omega]; exact hx
        exact thn_nrm (Exists.intro ((k + 1), V2, (.slice _A23 ((((zq (bx (nxS nextc0N nextc1N) (x25, _u25) (bE (nxS nextc0N nextc1N) first k) m) V2).drop k).drop 1)).length _C23)) ⟨⟨E, (by omega), (by have _z9 := bx_lt (m := 9) he25; rw [← bE_succ he25] at _z9; omega), (by rw [bE_succ he25, show 9 = m by omega]; exact hV2), (fst_step hf he25 _h30), _on_133, (Lo.down (fun g hg => _lo1_9 g (_bb23 ▸ hg)) (by omega)), _on_134, (by rw [bE_succ he25, show 9 = m by omega]; exact od2.up (Nat.le_refl _) (by omega)), (fun u hu g hg hm => by rw [_bb23] at hm; exact _spl1_9 _ hu _ hg hm)⟩, Sub.cons rfl (Sub.cons rfl (Sub.cons rfl (Sub.cons rfl (Sub.nil _)))), (by first | omega | (dsimp only; omega))⟩)
  · have _kb_18 := _h21
    have _h21 := bf_d _h21
    refine W_exit (thn_exit (thn_exit (inB_hit ?_)))
    refine thn_nrm (_hK_8 _ _ ?_)
    clear _hK_8
    refine W_seq fun _K_135 _hK_135 => ?_
    refine W_region ?_
    refine WL_step rfl rfl (r_assign rfl) ?_
    refine WL_step rfl rfl (r_assign rfl) ?_
    refine WL_nil ?_
    refine thn_nrm (_hK_135 _ _ ?_)
    clear _hK_135
    refine W_ret ?_
    clear _hK_16
    have _o_136 : Ol ics 3 1 _wr_15 (.slice none 0 0) ((difR testc0A nextc0N testc0A nextc1N first false).1) := by
      have hx := (Ol.nil (cs := ics) (e := 3) (k := 1) _wr_15)
      first | (rw [← dif_eq (bres_hit he25 _h30 hf)]; exact hx) | (rw [← dif_eq (bres_none (zq_no hV (by omega)) hf)]; simpa using hx)
    exact ret_intro [_, _] ⟨rfl, ⟨rfl, trivial⟩⟩ ⟨(.slice none 0 0), (congrArg (fun zq => (Value.tuple #[(.slice none 0 0), .bool zq])) (by first | rw [← dif_eq (bres_hit he25 _h30 hf)] | rw [← dif_eq (bres_none (zq_no hV (by omega)) hf)])), _o_136, (Lo.nil _), E⟩

/-- impl.DistinguishingWord -/
theorem c_impl_DistinguishingWord {w : World} (aS : Int) {LL_aA _B_aA : Nat} {_v_aA : Value} {aA : List Bool} (_h_aA : Ls bcs 1 w LL_aA _B_aA _v_aA aA) {LL_saN _B_saN : Nat} {_v_saN : Value} {saN : List Sv} (_h_saN : Ls Sv.cs 1 w LL_saN _B_saN _v_saN saN) {LR_aN BB_aN : Nat} {aN : List (List Int)} (_rd_aN : Rd ics 1 w LR_aN BB_aN saN aN) (s : Int) (t : Int) :
    Ctr Try.prog 23 #[(.agg #[(.int .i64 aS), _v_aA, _v_saN]), (.int .i64 s), (.int .i64 t)] w (fun v w' => ∃ (_u0 : Value), v = .tuple #[_u0, .bool ((dwR aS aA aN s t).2)] ∧ Ol ics 3 1 w' _u0 ((dwR aS aA aN s t).1) ∧ Lo w.heap.size _u0 ∧ Ch [] w w') := by
  obtain ⟨_A_aA, _C_aA, _e1_aA⟩ := _h_aA.val
  subst _e1_aA
  have _l_aA := _h_aA.len
  have _h_aA := _h_aA.here (by decide)
  obtain ⟨_A_saN, _C_saN, _e1_saN⟩ := _h_saN.val
  subst _e1_saN
  have _l_saN := _h_saN.len
  have _h_saN := _h_saN.here (by decide)
  have _rd_aN := _rd_aN.here (by decide)
  have _rl_aN := _rd_aN.1
  have E := Ch.refl [] w
  refine Ctr_of_W (N := 39) (vs0 := [(.agg #[(.int .i64 aS), (.slice _A_aA aA.length _C_aA), (.slice _A_saN saN.length _C_saN)]), (.int .i64 s), (.int .i64 t)]) Try.func23 rfl rfl rfl ?_
  refine W_seq fun _K_1 _hK_1 => ?_
  refine W_region ?_
  refine WL_s rfl rfl ?_
  refine s_box rfl fun _b3 _w_2 _m3 _cw_2 _e3 => ?_
  have _cw_2z := _cw_2.size
  have E := E.trans _cw_2
  have _z3 := _m3.lt
  replace _m3 : Blk _w_2 _b3 28 [(.int .i64 aS), (.slice _A_aA aA.length _C_aA), (.slice _A_saN saN.length _C_saN)] := _m3
  refine WL_step rfl rfl (r_assign rfl) ?_
  refine WL_step rfl rfl (r_assign rfl) ?_
  refine WL_nil ?_
  refine thn_nrm (_hK_1 _ _ ?_)
  clear _hK_1
  refine W_seq fun _K_3 _hK_3 => ?_
  refine W_region ?_
  refine WL_step rfl rfl (r_fieldAddr fa28_1 rfl) ?_
  refine WL_step rfl rfl (r_loadAt _m3.at_ agg22 rfl rfl) ?_
  refine WL_step rfl rfl (r_len (by rw [el22]; rfl) rfl) ?_
  refine WL_step rfl rfl (r_assign rfl) ?_
  refine WL_nil ?_
  refine thn_nrm (_hK_3 _ _ ?_)
  clear _hK_3
  refine W_seq fun _K_4 _hK_4 => ?_
  refine W_seq fun _K_5 _hK_5 => ?_
  refine W_region ?_
  refine WL_step rfl rfl (r_loadAtA0 _m3.at_ agg28 sz28 rfl) ?_
  refine WL_s rfl rfl ?_
  have _f_6 := (_h_aA.ch0 _cw_2)
  have _f_7 := (_rd_aN.ch0 _cw_2)
  have _f_8 := (_h_saN.ch0 _cw_2)
  refine Step.call (r_call (xs := [.tmp 12]) fk33 rfl) (c_impl_IsValidAutomaton _ _f_6 _f_8 _f_7 ) fun _v13 _w_9 _q13 => ?_
  obtain ⟨rfl, _cw_9⟩ := _q13
  have _cw_9z := _cw_9.size
  have E := E.trans _cw_9
  refine WL_step rfl rfl (r_not rfl) ?_
  refine WL_step rfl rfl (r_move rfl) ?_
  refine WL_split (d := 15) rfl (fun _h15 => ?_) (fun _h15 => ?_)
  · have _kb_10 := _h15
    have _h15 := bf_t (bt_n _h15)
    refine WL_skip rfl rfl ?_
    refine WL_skip rfl rfl ?_
    refine WL_skip rfl rfl ?_
    refine WL_skip rfl rfl ?_
    refine WL_skip rfl rfl ?_
    refine WL_step rfl rfl (r_pickT rfl rfl) ?_
    refine WL_step rfl rfl (r_move rfl) ?_
    refine WL_skip rfl rfl ?_
    refine WL_skip rfl rfl ?_
    refine WL_skip rfl rfl ?_
    refine WL_skip rfl rfl ?_
    refine WL_skip rfl rfl ?_
    refine WL_step rfl rfl (r_pickT rfl rfl) ?_
    refine WL_nil ?_
    refine thn_nrm (_hK_5 _ _ ?_)
    clear _hK_5
    refine W_condT rfl ?_
    refine W_seq fun _K_11 _hK_11 => ?_
    refine W_region ?_
    refine WL_step rfl rfl (r_assign rfl) ?_
    refine WL_step rfl rfl (r_assign rfl) ?_
    refine WL_nil ?_
    refine thn_nrm (_hK_11 _ _ ?_)
    clear _hK_11
    refine W_ret (thn_ret ?_)
    clear _hK_4
    have _o_12 : Ol ics 3 1 _w_9 (.slice none 0 0) ((dwR aS aA aN s t).1) := by
      have hx := (Ol.nil (cs := ics) (e := 3) (k := 1) _w_9)
      first | (rw [dwR_y _h15 _h22 _h28]; exact hx) | (rw [dwR_n (fun q => _h15 q.1)]; simpa using hx) | (rw [dwR_n (fun q => _h22 q.2.1)]; simpa using hx) | (rw [dwR_n (fun q => _h28 q.2.2)]; simpa using hx)
    exact ret_intro [_, _] ⟨rfl, ⟨rfl, trivial⟩⟩ ⟨(.slice none 0 0), (congrArg (fun zq => (Value.tuple #[(.slice none 0 0), .bool zq])) (by first | rw [dwR_y _h15 _h22 _h28] | rw [dwR_n (fun q => _h15 q.1)] | rw [dwR_n (fun q => _h22 q.2.1)] | rw [dwR_n (fun q => _h28 q.2.2)])), _o_12, (Lo.nil _), E⟩
  · have _kb_10 := _h15
    have _h15 := bt_t (bf_n _h15)
    refine WL_step rfl rfl (r_move rfl) ?_
    refine WL_step rfl rfl (r_move rfl) ?_
    refine WL_step rfl rfl (r_sub (by omega) rfl rfl) ?_
    refine WL_s rfl rfl ?_
    refine Step.call (r_call (xs := [.tmp 16, .const (Go.Value.int Go.IntKind.i64 0), .tmp 18]) fk44 rfl) (c_impl_within _ _ _ ) fun _v19 _w_13 _q19 => ?_
    obtain ⟨rfl, _cw_13⟩ := _q19
    have _cw_13z := _cw_13.size
    have E := E.trans _cw_13
    refine WL_step rfl rfl (r_not rfl) ?_
    refine WL_step rfl rfl (r_pickF rfl rfl) ?_
    refine WL_step rfl rfl (r_move rfl) ?_
    refine WL_split (d := 22) rfl (fun _h22 => ?_) (fun _h22 => ?_)
    · have _kb_14 := _h22
      have _h22 := bf_d (bt_n _h22)
      refine WL_skip rfl rfl ?_
      refine WL_skip rfl rfl ?_
      refine WL_skip rfl rfl ?_
      refine WL_skip rfl rfl ?_
      refine WL_skip rfl rfl ?_
      refine WL_step rfl rfl (r_pickT rfl rfl) ?_
      refine WL_nil ?_
      refine thn_nrm (_hK_5 _ _ ?_)
      clear _hK_5
      refine W_condT rfl ?_
      refine W_seq fun _K_15 _hK_15 => ?_
      refine W_region ?_
      refine WL_step rfl rfl (r_assign rfl) ?_
      refine WL_step rfl rfl (r_assign rfl) ?_
      refine WL_nil ?_
      refine thn_nrm (_hK_15 _ _ ?_)
      clear _hK_15
      refine W_ret (thn_ret ?_)
      clear _hK_4
      have _o_16 : Ol ics 3 1 _w_13 (.slice none 0 0) ((dwR aS aA aN s t).1) := by
        have hx := (Ol.nil (cs := ics) (e := 3) (k := 1) _w_13)
        first | (rw [dwR_y _h15 _h22 _h28]; exact hx) | (rw [dwR_n (fun q => _h15 q.1)]; simpa using hx) | (rw [dwR_n (fun q => _h22 q.2.1)]; simpa using hx) | (rw [dwR_n (fun q => _h28 q.2.2)]; simpa using hx)
      exact ret_intro [_, _] ⟨rfl, ⟨rfl, trivial⟩⟩ ⟨(.slice none 0 0), (congrArg (fun zq => (Value.tuple #[(.slice none 0 0), .bool zq])) (by first | rw [dwR_y _h15 _h22 _h28] | rw [dwR_n (fun q => _h15 q.1)] | rw [dwR_n (fun q => _h22 q.2.1)] | rw [dwR_n (fun q => _h28 q.2.2)])), _o_16, (Lo.nil _), E⟩
    · have _kb_14 := _h22
      have _h22 := bt_d (bf_n _h22)
      refine WL_step rfl rfl (r_move rfl) ?_
      refine WL_step rfl rfl (r_move rfl) ?_
      refine WL_step rfl rfl (r_sub (by omega) rfl rfl) ?_
      refine WL_s rfl rfl ?_
      refine Step.call (r_call (xs := [.tmp 23, .const (Go.Value.int Go.IntKind.i64 0), .tmp 25]) fk44 rfl) (c_impl_within _ _ _ ) fun _v26 _w_17 _q26 => ?_
      obtain ⟨rfl, _cw_17⟩ := _q26
      have _cw_17z := _cw_17.size
      have E := E.trans _cw_17
      refine WL_step rfl rfl (r_not rfl) ?_
      refine WL_step rfl rfl (r_pickF rfl rfl) ?_
      refine WL_nil ?_
      refine thn_nrm (_hK_5 _ _ ?_)
      clear _hK_5
      refine W_cond rfl (fun _h28 => ?_) (fun _h28 => ?_)
      · have _kb_18 := _h28
        have _h28 := bf_d (bt_n _h28)
        refine W_seq fun _K_19 _hK_19 => ?_
        refine W_region ?_
        refine WL_step rfl rfl (r_assign rfl) ?_
        refine WL_step rfl rfl (r_assign rfl) ?_
        refine WL_nil ?_
        refine thn_nrm (_hK_19 _ _ ?_)
        clear _hK_19
        refine W_ret (thn_ret ?_)
        clear _hK_4
        have _o_20 : Ol ics 3 1 _w_17 (.slice none 0 0) ((dwR aS aA aN s t).1) := by
          have hx := (Ol.nil (cs := ics) (e := 3) (k := 1) _w_17)
          first | (rw [dwR_y _h15 _h22 _h28]; exact hx) | (rw [dwR_n (fun q => _h15 q.1)]; simpa using hx) | (rw [dwR_n (fun q => _h22 q.2.1)]; simpa using hx) | (rw [dwR_n (fun q => _h28 q.2.2)]; simpa using hx)
        exact ret_intro [_, _] ⟨rfl, ⟨rfl, trivial⟩⟩ ⟨(.slice none 0 0), (congrArg (fun zq => (Value.tuple #[(.slice none 0 0), .bool zq])) (by first | rw [dwR_y _h15 _h22 _h28] | rw [dwR_n (fun q => _h15 q.1)] | rw [dwR_n (fun q => _h22 q.2.1)] | rw [dwR_n (fun q => _h28 q.2.2)])), _o_20, (Lo.nil _), E⟩
      · have _kb_18 := _h28
        have _h28 := bt_d (bf_n _h28)
        refine W_skip ?_
        refine thn_nrm (_hK_4 _ _ ?_)
        clear _hK_4
        refine W_seq fun _K_21 _hK_21 => ?_
        refine W_region ?_
        refine WL_step rfl rfl (r_move rfl) ?_
        refine WL_step rfl rfl (r_move rfl) ?_
        refine WL_step rfl rfl (r_build (parts := [(0, .tmp 29), (1, .tmp 30)]) (cells := [(.int .i64 s), (.int .i64 t)]) zr51 pl51 rfl rfl) ?_
        have _f_22 := (((_m3.ch0 _cw_9).ch0 _cw_13).ch0 _cw_17)
        refine WL_step rfl rfl (r_loadAtA0 _f_22.at_ agg28 sz28 rfl) ?_
        refine WL_step rfl rfl (r_loadAtA0 _f_22.at_ agg28 sz28 rfl) ?_
        refine WL_s rfl rfl ?_
        have _f_23 := (((_f_6.ch0 _cw_9).ch0 _cw_13).ch0 _cw_17)
        have _f_24 := (((_f_7.ch0 _cw_9).ch0 _cw_13).ch0 _cw_17)
        have _f_25 := (((_f_8.ch0 _cw_9).ch0 _cw_13).ch0 _cw_17)
        refine Step.call (r_call (xs := [.tmp 32, .tmp 33]) fk38 rfl) (c_impl_together _ _f_23 _f_25 _f_24 _ _f_23 _f_25 _f_24 ) fun _v34 _w_26 _q34 => ?_
        obtain ⟨b34_0, b34_1, rfl, mb34_0, eb34_0, mb34_1, eb34_1, _cw_26⟩ := _q34
        have _cw_26z := _cw_26.size
        have E := E.trans _cw_26
        have zb34_0 := mb34_0.lt
        replace mb34_0 : Blk _w_26 b34_0 28 [(.int .i64 aS), (.slice _A_aA aA.length _C_aA), (.slice _A_saN saN.length _C_saN)] := mb34_0
        have zb34_1 := mb34_1.lt
        replace mb34_1 : Blk _w_26 b34_1 28 [(.int .i64 aS), (.slice _A_aA aA.length _C_aA), (.slice _A_saN saN.length _C_saN)] := mb34_1
        refine WL_step rfl rfl (r_makeFunc (xs := []) (ys := [.tmp 3]) rfl rfl) ?_
        refine WL_s rfl rfl ?_
        have _f_27 := (_f_23.ch0 _cw_26)
        have _f_28 := (_f_24.ch0 _cw_26)
        have _f_29 := (_f_25.ch0 _cw_26)
        have _f_30 := (_f_22.ch0 _cw_26)
        refine Step.call (r_call (xs := [.tmp 31, .tmp 34, .tmp 35]) fk37 rfl) (c_impl_states_D ⟨s, t⟩ _ _f_27 _f_29 _f_28 mb34_0 _ _f_27 _f_29 _f_28 mb34_1 _ _f_27 _f_29 _f_28 _f_30 _h15 _h15 ⟨inA_of _h22, inA_of _h28⟩ rfl rfl) fun _v36 _w_31 _q36 => ?_
        obtain ⟨u36_0, rfl, _q_u36_0, _lo_u36_0, _cw_31⟩ := _q36
        have _cw_31z := _cw_31.size
        have E := E.trans _cw_31
        obtain ⟨Au36_0, Cu36_0, eu36_0⟩ := _q_u36_0.val
        subst eu36_0
        have lu36_0 := _q_u36_0.len
        have _hiu36_0 := _q_u36_0.lt
        refine WL_step rfl rfl (r_extract rfl rfl) ?_
        refine WL_step rfl rfl (r_extract rfl rfl) ?_
        refine WL_step rfl rfl (r_assign rfl) ?_
        refine WL_step rfl rfl (r_assign rfl) ?_
        refine WL_nil ?_
        refine thn_nrm (_hK_21 _ _ ?_)
        clear _hK_21
        refine W_ret ?_
        have _o_32 : Ol ics 3 1 _w_31 (.slice Au36_0 ((difR aA aN aA aN (⟨s, t⟩ : St2) false).1).length Cu36_0) ((dwR aS aA aN s t).1) := by
          have hx := _q_u36_0
          first | (rw [dwR_y _h15 _h22 _h28]; exact hx) | (rw [dwR_n (fun q => _h15 q.1)]; simpa using hx) | (rw [dwR_n (fun q => _h22 q.2.1)]; simpa using hx) | (rw [dwR_n (fun q => _h28 q.2.2)]; simpa using hx)
        exact ret_intro [_, _] ⟨rfl, ⟨rfl, trivial⟩⟩ ⟨(.slice Au36_0 ((difR aA aN aA aN (⟨s, t⟩ : St2) false).1).length Cu36_0), (congrArg (fun zq => (Value.tuple #[(.slice Au36_0 ((difR aA aN aA aN (⟨s, t⟩ : St2) false).1).length Cu36_0), .bool zq])) (by first | rw [dwR_y _h15 _h22 _h28] | rw [dwR_n (fun q => _h15 q.1)] | rw [dwR_n (fun q => _h22 q.2.1)] | rw [dwR_n (fun q => _h28 q.2.2)])), _o_32, (Lo.down _lo_u36_0 (by omega)), E⟩

/-- spec.DistinguishingWord -/
theorem c_spec_DistinguishingWord {w : World} (aS : Int) {LL_aA _B_aA : Nat} {_v_aA : Value} {aA : List Bool} (_h_aA : Ls bcs 1 w LL_aA _B_aA _v_aA aA) {LL_saN _B_saN : Nat} {_v_saN : Value} {saN : List Sv} (_h_saN : Ls Sv.cs 1 w LL_saN _B_saN _v_saN saN) {LR_aN BB_aN : Nat} {aN : List (List Int)} (_rd_aN : Rd ics 1 w LR_aN BB_aN saN aN) (s : Int) (t : Int) :
    Ctr Try.prog 22 #[(.agg #[(.int .i64 aS), _v_aA, _v_saN]), (.int .i64 s), (.int .i64 t)] w (fun v w' => ∃ (_u0 : Value), v = .tuple #[_u0, .bool ((dwR aS aA aN s t).2)] ∧ Ol ics 3 1 w' _u0 ((dwR aS aA aN s t).1) ∧ Lo w.heap.size _u0 ∧ Ch [] w w') := by
  obtain ⟨_A_aA, _C_aA, _e1_aA⟩ := _h_aA.val
  subst _e1_aA
  have _l_aA := _h_aA.len
  have _h_aA := _h_aA.here (by decide)
  obtain ⟨_A_saN, _C_saN, _e1_saN⟩ := _h_saN.val
  subst _e1_saN
  have _l_saN := _h_saN.len
  have _h_saN := _h_saN.here (by decide)
  have _rd_aN := _rd_aN.here (by decide)
  have _rl_aN := _rd_aN.1
  have E := Ch.refl [] w
  refine Ctr_of_W (N := 42) (vs0 := [(.agg #[(.int .i64 aS), (.slice _A_aA aA.length _C_aA), (.slice _A_saN saN.length _C_saN)]), (.int .i64 s), (.int .i64 t)]) Try.func22 rfl rfl rfl ?_
  refine W_seq fun _K_1 _hK_1 => ?_
  refine W_region ?_
  refine WL_s rfl rfl ?_
  refine s_box rfl fun _b3 _w_2 _m3 _cw_2 _e3 => ?_
  have _cw_2z := _cw_2.size
  have E := E.trans _cw_2
  have _z3 := _m3.lt
  replace _m3 : Blk _w_2 _b3 28 [(.int .i64 aS), (.slice _A_aA aA.length _C_aA), (.slice _A_saN saN.length _C_saN)] := _m3
  refine WL_step rfl rfl (r_assign rfl) ?_
  refine WL_step rfl rfl (r_assign rfl) ?_
  refine WL_nil ?_
  refine thn_nrm (_hK_1 _ _ ?_)
  clear _hK_1
  refine W_seq fun _K_3 _hK_3 => ?_
  refine W_seq fun _K_4 _hK_4 => ?_
  refine W_region ?_
  refine WL_step rfl rfl (r_loadAtA0 _m3.at_ agg28 sz28 rfl) ?_
  refine WL_s rfl rfl ?_
  have _f_5 := (_h_aA.ch0 _cw_2)
  have _f_6 := (_rd_aN.ch0 _cw_2)
  have _f_7 := (_h_saN.ch0 _cw_2)
  refine Step.call (r_call (xs := [.tmp 10]) fk30 rfl) (c_spec_IsValidAutomaton _ _f_5 _f_7 _f_6 ) fun _v11 _w_8 _q11 => ?_
  obtain ⟨rfl, _cw_8⟩ := _q11
  have _cw_8z := _cw_8.size
  have E := E.trans _cw_8
  refine WL_step rfl rfl (r_not rfl) ?_
  refine WL_step rfl rfl (r_move rfl) ?_
  refine WL_split (d := 13) rfl (fun _h13 => ?_) (fun _h13 => ?_)
  · have _kb_9 := _h13
    have _h13 := bf_t (bt_n _h13)
    refine WL_skip rfl rfl ?_
    refine WL_skip rfl rfl ?_
    refine WL_skip rfl rfl ?_
    refine WL_skip rfl rfl ?_
    refine WL_skip rfl rfl ?_
    refine WL_skip rfl rfl ?_
    refine WL_skip rfl rfl ?_
    refine WL_step rfl rfl (r_pickT rfl rfl) ?_
    refine WL_step rfl rfl (r_move rfl) ?_
    refine WL_skip rfl rfl ?_
    refine WL_skip rfl rfl ?_
    refine WL_skip rfl rfl ?_
    refine WL_skip rfl rfl ?_
    refine WL_skip rfl rfl ?_
    refine WL_skip rfl rfl ?_
    refine WL_skip rfl rfl ?_
    refine WL_step rfl rfl (r_pickT rfl rfl) ?_
    refine WL_nil ?_
    refine thn_nrm (_hK_4 _ _ ?_)
    clear _hK_4
    refine W_condT rfl ?_
    refine W_seq fun _K_10 _hK_10 => ?_
    refine W_region ?_
    refine WL_s rfl rfl ?_
    refine s_buildSlice0 (k := 1) ics el31 sz3 fun _v31 _w_11 _q31 _lo31 _cw_11 => ?_
    have _cw_11z := _cw_11.size
    have E := E.trans _cw_11
    obtain ⟨_Av31, _Cv31, _ev31⟩ := _q31.val
    subst _ev31
    have _lv31 := _q31.len
    have _hiv31 := _q31.lt
    refine WL_step rfl rfl (r_assign rfl) ?_
    refine WL_step rfl rfl (r_assign rfl) ?_
    refine WL_nil ?_
    refine thn_nrm (_hK_10 _ _ ?_)
    clear _hK_10
    refine W_ret (thn_ret ?_)
    clear _hK_3
    have _o_12 : Ol ics 3 1 _w_11 (.slice _Av31 (([] : List Int)).length _Cv31) ((dwR aS aA aN s t).1) := by
      have hx := _q31
      first | (rw [dwR_y _h13 _h22 _h30]; exact hx) | (rw [dwR_n (fun q => _h13 q.1)]; simpa using hx) | (rw [dwR_n (fun q => _h22 q.2.1)]; simpa using hx) | (rw [dwR_n (fun q => _h30 q.2.2)]; simpa using hx)
    exact ret_intro [_, _] ⟨rfl, ⟨rfl, trivial⟩⟩ ⟨(.slice _Av31 (([] : List Int)).length _Cv31), (congrArg (fun zq => (Value.tuple #[(.slice _Av31 (([] : List Int)).length _Cv31), .bool zq])) (by first | rw [dwR_y _h13 _h22 _h30] | rw [dwR_n (fun q => _h13 q.1)] | rw [dwR_n (fun q => _h22 q.2.1)] | rw [dwR_n (fun q => _h30 q.2.2)])), _o_12, (Lo.down _lo31 (by omega)), E⟩
  · have _kb_9 := _h13
    have _h13 := bt_t (bf_n _h13)
    refine WL_step rfl rfl (r_move rfl) ?_
    refine WL_step rfl rfl (r_fieldAddr fa28_1 rfl) ?_
    have _f_13 := (_m3.ch0 _cw_8)
    refine WL_step rfl rfl (r_loadAt _f_13.at_ agg22 rfl rfl) ?_
    refine WL_step rfl rfl (r_len (by rw [el22]; rfl) rfl) ?_
    refine WL_step rfl rfl (r_sub (by omega) rfl rfl) ?_
    refine WL_s rfl rfl ?_
    refine Step.call (r_call (xs := [.tmp 14, .const (Go.Value.int Go.IntKind.i64 0), .tmp 18]) fk43 rfl) (c_spec_l1In _ _ _ ) fun _v19 _w_14 _q19 => ?_
    obtain ⟨rfl, _cw_14⟩ := _q19
    have _cw_14z := _cw_14.size
    have E := E.trans _cw_14
    refine WL_step rfl rfl (r_not rfl) ?_
    refine WL_step rfl rfl (r_pickF rfl rfl) ?_
    refine WL_step rfl rfl (r_move rfl) ?_
    refine WL_split (d := 22) rfl (fun _h22 => ?_) (fun _h22 => ?_)
    · have _kb_15 := _h22
      have _h22 := bf_d (bt_n _h22)
      refine WL_skip rfl rfl ?_
      refine WL_skip rfl rfl ?_
      refine WL_skip rfl rfl ?_
      refine WL_skip rfl rfl ?_
      refine WL_skip rfl rfl ?_
      refine WL_skip rfl rfl ?_
      refine WL_skip rfl rfl ?_
      refine WL_step rfl rfl (r_pickT rfl rfl) ?_
      refine WL_nil ?_
      refine thn_nrm (_hK_4 _ _ ?_)
      clear _hK_4
      refine W_condT rfl ?_
      refine W_seq fun _K_16 _hK_16 => ?_
      refine W_region ?_
      refine WL_s rfl rfl ?_
      refine s_buildSlice0 (k := 1) ics el31 sz3 fun _v31 _w_17 _q31 _lo31 _cw_17 => ?_
      have _cw_17z := _cw_17.size
      have E := E.trans _cw_17
      obtain ⟨_Av31, _Cv31, _ev31⟩ := _q31.val
      subst _ev31
      have _lv31 := _q31.len
      have _hiv31 := _q31.lt
      refine WL_step rfl rfl (r_assign rfl) ?_
      refine WL_step rfl rfl (r_assign rfl) ?_
      refine WL_nil ?_
      refine thn_nrm (_hK_16 _ _ ?_)
      clear _hK_16
      refine W_ret (thn_ret ?_)
      clear _hK_3
      have _o_18 : Ol ics 3 1 _w_17 (.slice _Av31 (([] : List Int)).length _Cv31) ((dwR aS aA aN s t).1) := by
        have hx := _q31
        first | (rw [dwR_y _h13 _h22 _h30]; exact hx) | (rw [dwR_n (fun q => _h13 q.1)]; simpa using hx) | (rw [dwR_n (fun q => _h22 q.2.1)]; simpa using hx) | (rw [dwR_n (fun q => _h30 q.2.2)]; simpa using hx)
      exact ret_intro [_, _] ⟨rfl, ⟨rfl, trivial⟩⟩ ⟨(.slice _Av31 (([] : List Int)).length _Cv31), (congrArg (fun zq => (Value.tuple #[(.slice _Av31 (([] : List Int)).length _Cv31), .bool zq])) (by first | rw [dwR_y _h13 _h22 _h30] | rw [dwR_n (fun q => _h13 q.1)] | rw [dwR_n (fun q => _h22 q.2.1)] | rw [dwR_n (fun q => _h30 q.2.2)])), _o_18, (Lo.down _lo31 (by omega)), E⟩
    · have _kb_15 := _h22
      have _h22 := bt_d (bf_n _h22)
      refine WL_step rfl rfl (r_move rfl) ?_
      refine WL_step rfl rfl (r_fieldAddr fa28_1 rfl) ?_
      have _f_19 := (_f_13.ch0 _cw_14)
      refine WL_step rfl rfl (r_loadAt _f_19.at_ agg22 rfl rfl) ?_
      refine WL_step rfl rfl (r_len (by rw [el22]; rfl) rfl) ?_
      refine WL_step rfl rfl (r_sub (by omega) rfl rfl) ?_
      refine WL_s rfl rfl ?_
      refine Step.call (r_call (xs := [.tmp 23, .const (Go.Value.int Go.IntKind.i64 0), .tmp 27]) fk43 rfl) (c_spec_l1In _ _ _ ) fun _v28 _w_20 _q28 => ?_
      obtain ⟨rfl, _cw_20⟩ := _q28
      have _cw_20z := _cw_20.size
      have E := E.trans _cw_20
      refine WL_step rfl rfl (r_not rfl) ?_
      refine WL_step rfl rfl (r_pickF rfl rfl) ?_
      refine WL_nil ?_
      refine thn_nrm (_hK_4 _ _ ?_)
      clear _hK_4
      refine W_cond rfl (fun _h30 => ?_) (fun _h30 => ?_)
      · have _kb_21 := _h30
        have _h30 := bf_d (bt_n _h30)
        refine W_seq fun _K_22 _hK_22 => ?_
        refine W_region ?_
        refine WL_s rfl rfl ?_
        refine s_buildSlice0 (k := 1) ics el31 sz3 fun _v31 _w_23 _q31 _lo31 _cw_23 => ?_
        have _cw_23z := _cw_23.size
        have E := E.trans _cw_23
        obtain ⟨_Av31, _Cv31, _ev31⟩ := _q31.val
        subst _ev31
        have _lv31 := _q31.len
        have _hiv31 := _q31.lt
        refine WL_step rfl rfl (r_assign rfl) ?_
        refine WL_step rfl rfl (r_assign rfl) ?_
        refine WL_nil ?_
        refine thn_nrm (_hK_22 _ _ ?_)
        clear _hK_22
        refine W_ret (thn_ret ?_)
        clear _hK_3
        have _o_24 : Ol ics 3 1 _w_23 (.slice _Av31 (([] : List Int)).length _Cv31) ((dwR aS aA aN s t).1) := by
          have hx := _q31
          first | (rw [dwR_y _h13 _h22 _h30]; exact hx) | (rw [dwR_n (fun q => _h13 q.1)]; simpa using hx) | (rw [dwR_n (fun q => _h22 q.2.1)]; simpa using hx) | (rw [dwR_n (fun q => _h30 q.2.2)]; simpa using hx)
        exact ret_intro [_, _] ⟨rfl, ⟨rfl, trivial⟩⟩ ⟨(.slice _Av31 (([] : List Int)).length _Cv31), (congrArg (fun zq => (Value.tuple #[(.slice _Av31 (([] : List Int)).length _Cv31), .bool zq])) (by first | rw [dwR_y _h13 _h22 _h30] | rw [dwR_n (fun q => _h13 q.1)] | rw [dwR_n (fun q => _h22 q.2.1)] | rw [dwR_n (fun q => _h30 q.2.2)])), _o_24, (Lo.down _lo31 (by omega)), E⟩
      · have _kb_21 := _h30
        have _h30 := bt_d (bf_n _h30)
        refine W_skip ?_
        refine thn_nrm (_hK_3 _ _ ?_)
        clear _hK_3
        refine W_seq fun _K_25 _hK_25 => ?_
        refine W_region ?_
        have _f_26 := (_f_19.ch0 _cw_20)
        refine WL_step rfl rfl (r_loadAtA0 _f_26.at_ agg28 sz28 rfl) ?_
        refine WL_step rfl rfl (r_move rfl) ?_
        refine WL_step rfl rfl (r_loadAtA0 _f_26.at_ agg28 sz28 rfl) ?_
        refine WL_step rfl rfl (r_move rfl) ?_
        refine WL_s rfl rfl ?_
        have _f_27 := (((_f_5.ch0 _cw_8).ch0 _cw_14).ch0 _cw_20)
        have _f_28 := (((_f_6.ch0 _cw_8).ch0 _cw_14).ch0 _cw_20)
        have _f_29 := (((_f_7.ch0 _cw_8).ch0 _cw_14).ch0 _cw_20)
        refine Step.call (r_call (xs := [.tmp 33, .tmp 34, .tmp 35, .tmp 36, .const (Go.Value.bool false)]) fk36 rfl) (c_spec_l12Differ _ _f_27 _f_29 _f_28 _ _ _f_27 _f_29 _f_28 _ _ _h13 _h13 (inA_of _h22) (inA_of _h30)) fun _v37 _w_30 _q37 => ?_
        obtain ⟨u37_0, rfl, _q_u37_0, _lo_u37_0, _cw_30⟩ := _q37
        have _cw_30z := _cw_30.size
        have E := E.trans _cw_30
        obtain ⟨Au37_0, Cu37_0, eu37_0⟩ := _q_u37_0.val
        subst eu37_0
        have lu37_0 := _q_u37_0.len
        have _hiu37_0 := _q_u37_0.lt
        refine WL_step rfl rfl (r_move rfl) ?_
        refine WL_step rfl rfl (r_extract rfl rfl) ?_
        refine WL_step rfl rfl (r_extract rfl rfl) ?_
        refine WL_step rfl rfl (r_assign rfl) ?_
        refine WL_step rfl rfl (r_assign rfl) ?_
        refine WL_nil ?_
        refine thn_nrm (_hK_25 _ _ ?_)
        clear _hK_25
        refine W_seq fun _K_31 _hK_31 => ?_
        refine W_region ?_
        refine WL_step rfl rfl (r_move rfl) ?_
        refine WL_step rfl rfl (r_move rfl) ?_
        refine WL_step rfl rfl (r_assign rfl) ?_
        refine WL_step rfl rfl (r_assign rfl) ?_
        refine WL_nil ?_
        refine thn_nrm (_hK_31 _ _ ?_)
        clear _hK_31
        refine W_ret ?_
        have _o_32 : Ol ics 3 1 _w_30 (.slice Au37_0 ((difR aA aN aA aN ⟨s, t⟩ false).1).length Cu37_0) ((dwR aS aA aN s t).1) := by
          have hx := _q_u37_0
          first | (rw [dwR_y _h13 _h22 _h30]; exact hx) | (rw [dwR_n (fun q => _h13 q.1)]; simpa using hx) | (rw [dwR_n (fun q => _h22 q.2.1)]; simpa using hx) | (rw [dwR_n (fun q => _h30 q.2.2)]; simpa using hx)
        exact ret_intro [_, _] ⟨rfl, ⟨rfl, trivial⟩⟩ ⟨(.slice Au37_0 ((difR aA aN aA aN ⟨s, t⟩ false).1).length Cu37_0), (congrArg (fun zq => (Value.tuple #[(.slice Au37_0 ((difR aA aN aA aN ⟨s, t⟩ false).1).length Cu37_0), .bool zq])) (by first | rw [dwR_y _h13 _h22 _h30] | rw [dwR_n (fun q => _h13 q.1)] | rw [dwR_n (fun q => _h22 q.2.1)] | rw [dwR_n (fun q => _h30 q.2.2)])), _o_32, (Lo.down _lo_u37_0 (by omega)), E⟩

/-- laws.FnExactDistinguishingWord -/
theorem c_laws_FnExactDistinguishingWord {w : World} (aS : Int) {LL_aA _B_aA : Nat} {_v_aA : Value} {aA : List Bool} (_h_aA : Ls bcs 1 w LL_aA _B_aA _v_aA aA) {LL_saN _B_saN : Nat} {_v_saN : Value} {saN : List Sv} (_h_saN : Ls Sv.cs 1 w LL_saN _B_saN _v_saN saN) {LR_aN BB_aN : Nat} {aN : List (List Int)} (_rd_aN : Rd ics 1 w LR_aN BB_aN saN aN) (s : Int) (t : Int) :
    Ctr Try.prog 6 #[(.agg #[(.int .i64 aS), _v_aA, _v_saN]), (.int .i64 s), (.int .i64 t)] w (fun v w' => v = .bool (true) ∧ Ch [] w w') := by
  obtain ⟨_A_aA, _C_aA, _e1_aA⟩ := _h_aA.val
  subst _e1_aA
  have _l_aA := _h_aA.len
  have _h_aA := _h_aA.here (by decide)
  obtain ⟨_A_saN, _C_saN, _e1_saN⟩ := _h_saN.val
  subst _e1_saN
  have _l_saN := _h_saN.len
  have _h_saN := _h_saN.here (by decide)
  have _rd_aN := _rd_aN.here (by decide)
  have _rl_aN := _rd_aN.1
  have E := Ch.refl [] w
  have ml9 := dwR_len aS aA aN s t
  refine Ctr_of_W (N := 106) (vs0 := [(.agg #[(.int .i64 aS), (.slice _A_aA aA.length _C_aA), (.slice _A_saN saN.length _C_saN)]), (.int .i64 s), (.int .i64 t)]) Try.func6 rfl rfl rfl ?_
  refine W_seq fun _K_1 _hK_1 => ?_
  refine W_region ?_
  refine WL_s rfl rfl ?_
  refine s_box rfl fun _b3 _w_2 _m3 _cw_2 _e3 => ?_
  have _cw_2z := _cw_2.size
  have E := E.trans _cw_2
  have _z3 := _m3.lt
  replace _m3 : Blk _w_2 _b3 25 [(.int .i64 aS), (.slice _A_aA aA.length _C_aA), (.slice _A_saN saN.length _C_saN)] := _m3
  refine WL_step rfl rfl (r_assign rfl) ?_
  refine WL_nil ?_
  refine thn_nrm (_hK_1 _ _ ?_)
  clear _hK_1
  refine W_seq fun _K_3 _hK_3 => ?_
  refine W_region ?_
  refine WL_step rfl rfl (r_assign rfl) ?_
  refine WL_nil ?_
  refine thn_nrm (_hK_3 _ _ ?_)
  clear _hK_3
  refine W_seq fun _K_4 _hK_4 => ?_
  refine W_region ?_
  refine WL_step rfl rfl (r_loadAtA0 _m3.at_ agg25 sz25 rfl) ?_
  refine WL_step rfl rfl (r_move rfl) ?_
  refine WL_s rfl rfl ?_
  have _f_5 := (_h_aA.ch0 _cw_2)
  have _f_6 := (_rd_aN.ch0 _cw_2)
  have _f_7 := (_h_saN.ch0 _cw_2)
  refine Step.call (r_call (xs := [.tmp 18, .tmp 19]) fk9 rfl) (c_laws_szAutomaton _ _f_5 _f_7 _f_6 _ (by omega) (by omega)) fun _v20 _w_8 _q20 => ?_
  obtain ⟨rfl, _cw_8⟩ := _q20
  have _cw_8z := _cw_8.size
  have E := E.trans _cw_8
  refine WL_step rfl rfl (r_assign rfl) ?_
  refine WL_nil ?_
  refine thn_nrm (_hK_4 _ _ ?_)
  clear _hK_4
  refine W_seq fun _K_9 _hK_9 => ?_
  refine W_seq fun _K_10 _hK_10 => ?_
  refine W_region ?_
  refine WL_step rfl rfl (r_move rfl) ?_
  refine WL_step rfl rfl (r_lss rfl rfl) ?_
  refine WL_nil ?_
  refine thn_nrm (_hK_10 _ _ ?_)
  clear _hK_10
  refine W_cond rfl (fun _h22 => ?_) (fun _h22 => ?_)
  · have _kb_11 := _h22
    have _h22 := bt_d _h22
    refine W_seq fun _K_12 _hK_12 => ?_
    refine W_region ?_
    refine WL_step rfl rfl (r_assign rfl) ?_
    refine WL_nil ?_
    refine thn_nrm (_hK_12 _ _ ?_)
    clear _hK_12
    refine W_ret (thn_ret ?_)
    clear _hK_9
    exact ret_intro [_] ⟨rfl, trivial⟩ ⟨congrArg Value.bool (by first | rfl | (exfalso; omega) | (exfalso; revert _h22; simp; done) | (exfalso; revert _h22; simp; omega)), E⟩
  · have _kb_11 := _h22
    have _h22 := bf_d _h22
    refine W_skip ?_
    refine thn_nrm (_hK_9 _ _ ?_)
    clear _hK_9
    refine W_seq fun _K_13 _hK_13 => ?_
    refine W_region ?_
    have _f_14 := (_m3.ch0 _cw_8)
    refine WL_step rfl rfl (r_loadAtA0 _f_14.at_ agg25 sz25 rfl) ?_
    refine WL_s rfl rfl ?_
    have _f_15 := (_f_5.ch0 _cw_8)
    have _f_16 := (_f_6.ch0 _cw_8)
    have _f_17 := (_f_7.ch0 _cw_8)
    refine Step.call (r_call (xs := [.tmp 24]) fk11 rfl) (c_laws_toAutomaton _ _f_15 _f_17 _f_16 (by omega)) fun _v25 _w_18 _q25 => ?_
    obtain ⟨u25_0x1, u25_0x2, _vs25_0x2, rfl, _q_u25_0x1, _lo_u25_0x1, _q_u25_0x2, _lo_u25_0x2, _od_vs25_0x2, _sep_vs25_0x2, _dj_u25_0x1_u25_0x2, _sep_u25_0x1_vs25_0x2, _cw_18⟩ := _q25
    have _cw_18z := _cw_18.size
    have E := E.trans _cw_18
    obtain ⟨Au25_0x1, Cu25_0x1, eu25_0x1⟩ := _q_u25_0x1.val
    subst eu25_0x1
    have lu25_0x1 := _q_u25_0x1.len
    have _hiu25_0x1 := _q_u25_0x1.lt
    obtain ⟨Au25_0x2, Cu25_0x2, eu25_0x2⟩ := _q_u25_0x2.val
    subst eu25_0x2
    have lu25_0x2 := _q_u25_0x2.len
    have _hiu25_0x2 := _q_u25_0x2.lt
    refine WL_step rfl rfl (r_move rfl) ?_
    refine WL_step rfl rfl (r_move rfl) ?_
    refine WL_s rfl rfl ?_
    refine Step.call (r_call (xs := [.tmp 25, .tmp 26, .tmp 27]) fk22 rfl) (c_spec_DistinguishingWord _ _q_u25_0x1.ls _q_u25_0x2.ls _od_vs25_0x2.rd _ _ ) fun _v28 _w_19 _q28 => ?_
    obtain ⟨u28_0, rfl, _q_u28_0, _lo_u28_0, _cw_19⟩ := _q28
    have _cw_19z := _cw_19.size
    have E := E.trans _cw_19
    obtain ⟨Au28_0, Cu28_0, eu28_0⟩ := _q_u28_0.val
    subst eu28_0
    have lu28_0 := _q_u28_0.len
    have _hiu28_0 := _q_u28_0.lt
    refine WL_step rfl rfl (r_move rfl) ?_
    refine WL_step rfl rfl (r_extract rfl rfl) ?_
    refine WL_step rfl rfl (r_extract rfl rfl) ?_
    refine WL_step rfl rfl (r_assign rfl) ?_
    refine WL_step rfl rfl (r_assign rfl) ?_
    refine WL_nil ?_
    refine thn_nrm (_hK_13 _ _ ?_)
    clear _hK_13
    refine W_seq fun _K_20 _hK_20 => ?_
    refine W_region ?_
    have _f_21 := ((_f_14.ch0 _cw_18).ch0 _cw_19)
    refine WL_step rfl rfl (r_loadAtA0 _f_21.at_ agg25 sz25 rfl) ?_
    refine WL_s rfl rfl ?_
    have _f_22 := ((_f_15.ch0 _cw_18).ch0 _cw_19)
    have _f_23 := ((_f_16.ch0 _cw_18).ch0 _cw_19)
    have _f_24 := ((_f_17.ch0 _cw_18).ch0 _cw_19)
    refine Step.call (r_call (xs := [.tmp 31]) fk11 rfl) (c_laws_toAutomaton _ _f_22 _f_24 _f_23 (by omega)) fun _v32 _w_25 _q32 => ?_
    obtain ⟨u32_0x1, u32_0x2, _vs32_0x2, rfl, _q_u32_0x1, _lo_u32_0x1, _q_u32_0x2, _lo_u32_0x2, _od_vs32_0x2, _sep_vs32_0x2, _dj_u32_0x1_u32_0x2, _sep_u32_0x1_vs32_0x2, _cw_25⟩ := _q32
    have _cw_25z := _cw_25.size
    have E := E.trans _cw_25
    obtain ⟨Au32_0x1, Cu32_0x1, eu32_0x1⟩ := _q_u32_0x1.val
    subst eu32_0x1
    have lu32_0x1 := _q_u32_0x1.len
    have _hiu32_0x1 := _q_u32_0x1.lt
    obtain ⟨Au32_0x2, Cu32_0x2, eu32_0x2⟩ := _q_u32_0x2.val
    subst eu32_0x2
    have lu32_0x2 := _q_u32_0x2.len
    have _hiu32_0x2 := _q_u32_0x2.lt
    refine WL_s rfl rfl ?_
    refine s_alloc zr28 fun _b10 _w_26 _m10 _cw_26 _e10 => ?_
    have _cw_26z := _cw_26.size
    have E := E.trans _cw_26
    have _z10 := _m10.lt
    replace _m10 : Blk _w_26 _b10 28 [(.int .i64 0), (.slice none 0 0), (.slice none 0 0)] := _m10
    refine WL_s rfl rfl ?_
    refine s_storeA (off := 0) 3 _m10 sz28 rfl (us := [(.int .i64 aS), (.slice Au32_0x1 (aA).length Cu32_0x1), (.slice Au32_0x2 (_vs32_0x2).length Cu32_0x2)]) rfl rfl rfl rfl fun _w_27 _m_28 _cw_27 => ?_
    have _cw_27z := _cw_27.size
    have E := E.step _cw_27 (fun i hi => .inl (by have _h1 := List.mem_singleton.1 hi; omega))
    replace _m_28 : Blk _w_27 _b10 28 [(.int .i64 aS), (.slice Au32_0x1 (aA).length Cu32_0x1), (.slice Au32_0x2 (_vs32_0x2).length Cu32_0x2)] := _m_28
    refine WL_nil ?_
    refine thn_nrm (_hK_20 _ _ ?_)
    clear _hK_20
    refine W_seq fun _K_29 _hK_29 => ?_
    refine W_region ?_
    refine WL_step rfl rfl (r_loadAtA0 _m_28.at_ agg28 sz28 rfl) ?_
    refine WL_step rfl rfl (r_move rfl) ?_
    refine WL_step rfl rfl (r_move rfl) ?_
    refine WL_s rfl rfl ?_
    have _f_30 := ((_q_u32_0x1.ch0 _cw_26).ch _cw_27 (fun g hg hm => by have _h0 := List.mem_singleton.1 hm; have _h2 := _lo_u32_0x1 _ hg; have _h3 := _hiu32_0x1 _ hg; omega))
    have _f_31 := ((_od_vs32_0x2.ch0 _cw_26).ch _cw_27 (fun i hi => by have _h1 := List.mem_singleton.1 hi; omega))
    have _f_32 := ((_q_u32_0x2.ch0 _cw_26).ch _cw_27 (fun g hg hm => by have _h0 := List.mem_singleton.1 hm; have _h2 := _lo_u32_0x2 _ hg; have _h3 := _hiu32_0x2 _ hg; omega))
    refine Step.call (r_call (xs := [.tmp 34, .tmp 35, .tmp 36]) fk23 rfl) (c_impl_DistinguishingWord _ _f_30.ls _f_32.ls _f_31.rd _ _ ) fun _v37 _w_33 _q37 => ?_
    obtain ⟨u37_0, rfl, _q_u37_0, _lo_u37_0, _cw_33⟩ := _q37
    have _cw_33z := _cw_33.size
    have E := E.trans _cw_33
    obtain ⟨Au37_0, Cu37_0, eu37_0⟩ := _q_u37_0.val
    subst eu37_0
    have lu37_0 := _q_u37_0.len
    have _hiu37_0 := _q_u37_0.lt
    refine WL_step rfl rfl (r_move rfl) ?_
    refine WL_step rfl rfl (r_extract rfl rfl) ?_
    refine WL_step rfl rfl (r_extract rfl rfl) ?_
    refine WL_step rfl rfl (r_assign rfl) ?_
    refine WL_step rfl rfl (r_assign rfl) ?_
    refine WL_nil ?_
    refine thn_nrm (_hK_29 _ _ ?_)
    clear _hK_29
    refine W_seq fun _K_34 _hK_34 => ?_
    refine W_seq fun _K_35 _hK_35 => ?_
    refine W_region ?_
    refine WL_step rfl rfl (r_move rfl) ?_
    refine WL_step rfl rfl (r_move rfl) ?_
    refine WL_s rfl rfl ?_
    have _f_36 := ((((_q_u28_0.ch0 _cw_25).ch0 _cw_26).ch _cw_27 (fun g hg hm => by have _h0 := List.mem_singleton.1 hm; have _h2 := _lo_u28_0 _ hg; have _h3 := _hiu28_0 _ hg; omega)).ch0 _cw_33)
    refine Step.call (r_call (xs := [.tmp 40, .tmp 41]) fk18 rfl) (c_laws_eqIntS _q_u37_0.ls _f_36.ls ) fun _v42 _w_37 _q42 => ?_
    obtain ⟨rfl, _cw_37⟩ := _q42
    have _cw_37z := _cw_37.size
    have E := E.trans _cw_37
    refine WL_step rfl rfl (r_not rfl) ?_
    refine WL_step rfl rfl (r_move rfl) ?_
    refine WL_split (d := 44) rfl (fun _h44 => ?_) (fun _h44 => ?_)
    · have _kb_38 := _h44
      have _h44 := bf_d (bt_n _h44)
      refine WL_skip rfl rfl ?_
      refine WL_skip rfl rfl ?_
      refine WL_skip rfl rfl ?_
      refine WL_step rfl rfl (r_pickT rfl rfl) ?_
      refine WL_nil ?_
      refine thn_nrm (_hK_35 _ _ ?_)
      clear _hK_35
      refine W_condT rfl ?_
      refine W_seq fun _K_39 _hK_39 => ?_
      refine W_region ?_
      refine WL_step rfl rfl (r_assign rfl) ?_
      refine WL_nil ?_
      refine thn_nrm (_hK_39 _ _ ?_)
      clear _hK_39
      refine W_ret (thn_ret ?_)
      clear _hK_34
      exact ret_intro [_] ⟨rfl, trivial⟩ ⟨congrArg Value.bool (by first | rfl | (exfalso; omega) | (exfalso; revert _h44; simp; done) | (exfalso; revert _h44; simp; omega)), E⟩
    · have _kb_38 := _h44
      have _h44 := bt_d (bf_n _h44)
      refine WL_step rfl rfl (r_move rfl) ?_
      refine WL_step rfl rfl (r_move rfl) ?_
      refine WL_step rfl rfl (r_neqB un4 rfl rfl) ?_
      refine WL_step rfl rfl (r_pickF rfl rfl) ?_
      refine WL_nil ?_
      refine thn_nrm (_hK_35 _ _ ?_)
      clear _hK_35
      refine W_cond rfl (fun _h48 => ?_) (fun _h48 => ?_)
      · have _kb_40 := _h48
        have _h48 := bf_e (bt_n _h48)
        refine W_seq fun _K_41 _hK_41 => ?_
        refine W_region ?_
        refine WL_step rfl rfl (r_assign rfl) ?_
        refine WL_nil ?_
        refine thn_nrm (_hK_41 _ _ ?_)
        clear _hK_41
        refine W_ret (thn_ret ?_)
        clear _hK_34
        exact ret_intro [_] ⟨rfl, trivial⟩ ⟨congrArg Value.bool (by first | rfl | (exfalso; omega) | (exfalso; revert _h48; simp; done) | (exfalso; revert _h48; simp; omega)), E⟩
      · have _kb_40 := _h48
        have _h48 := bt_e (bf_n _h48)
        refine W_skip ?_
        refine thn_nrm (_hK_34 _ _ ?_)
        clear _hK_34
        refine W_seq fun _K_42 _hK_42 => ?_
        refine W_seq fun _K_43 _hK_43 => ?_
        refine W_drawC [] 5 mixed rfl fun _w_44 _cw_44 => ?_
        have _cw_44z := _cw_44.size
        have E := E.trans _cw_44
        have _f_45 := (((_m_28.ch0 _cw_33).ch0 _cw_37).ch0 _cw_44)
        refine DR_s 0 rfl (by kernel_rfl) rfl rfl (t_loadAtA0 _f_45.at_ (fun i hi => absurd hi List.not_mem_nil) agg28 sz28 rfl ?_)
        have _f_46 := ((((((_f_21.ch0 _cw_25).ch0 _cw_26).ch _cw_27 (fun hm => by have _h1 := List.mem_singleton.1 hm; omega)).ch0 _cw_33).ch0 _cw_37).ch0 _cw_44)
        refine DR_s 1 rfl (by kernel_rfl) rfl rfl (t_loadAtA0 _f_46.at_ (fun i hi => absurd hi List.not_mem_nil) agg25 sz25 rfl ?_)
        refine DR_one 2 (by kernel_rfl) ?_
        refine DO_s rfl rfl rfl ?_
        have _f_47 := ((((((_f_22.ch0 _cw_25).ch0 _cw_26).ch _cw_27 (fun i hi => by have _h1 := List.mem_singleton.1 hi; omega)).ch0 _cw_33).ch0 _cw_37).ch0 _cw_44)
        have _f_48 := ((((((_f_23.ch0 _cw_25).ch0 _cw_26).ch _cw_27 (fun i hi => by have _h1 := List.mem_singleton.1 hi; omega)).ch0 _cw_33).ch0 _cw_37).ch0 _cw_44)
        have _f_49 := ((((((_f_24.ch0 _cw_25).ch0 _cw_26).ch _cw_27 (fun i hi => by have _h1 := List.mem_singleton.1 hi; omega)).ch0 _cw_33).ch0 _cw_37).ch0 _cw_44)
        refine Step.call (r_call (xs := [.tmp 50]) fk11 rfl) (c_laws_toAutomaton _ _f_47 _f_49 _f_48 (by omega)) fun _v51 _w_50 _q51 => ?_
        obtain ⟨u51_0x1, u51_0x2, _vs51_0x2, rfl, _q_u51_0x1, _lo_u51_0x1, _q_u51_0x2, _lo_u51_0x2, _od_vs51_0x2, _sep_vs51_0x2, _dj_u51_0x1_u51_0x2, _sep_u51_0x1_vs51_0x2, _cw_50⟩ := _q51
        have _cw_50z := _cw_50.size
        have E := E.trans _cw_50
        obtain ⟨Au51_0x1, Cu51_0x1, eu51_0x1⟩ := _q_u51_0x1.val
        subst eu51_0x1
        have lu51_0x1 := _q_u51_0x1.len
        have _hiu51_0x1 := _q_u51_0x1.lt
        obtain ⟨Au51_0x2, Cu51_0x2, eu51_0x2⟩ := _q_u51_0x2.val
        subst eu51_0x2
        have lu51_0x2 := _q_u51_0x2.len
        have _hiu51_0x2 := _q_u51_0x2.lt
        have _S_51 : Ch [] _w_44 _w_50 := ((Ch.refl _ _).trans _cw_50)
        refine ⟨_S_51, ?_⟩
        refine DR_one 3 (by kernel_rfl) ?_
        refine DO_s rfl rfl rfl ?_
        have _f_52 := ((((_f_30.ch0 _cw_33).ch0 _cw_37).ch0 _cw_44).ch0 _cw_50)
        have _f_53 := ((((_f_31.ch0 _cw_33).ch0 _cw_37).ch0 _cw_44).ch0 _cw_50)
        have _f_54 := ((((_f_32.ch0 _cw_33).ch0 _cw_37).ch0 _cw_44).ch0 _cw_50)
        refine Step.call (r_call (xs := [.tmp 49, .tmp 51]) fk13 rfl) (c_laws_eqAutomaton _ _f_52.ls _f_54.ls _f_53.rd _ _q_u51_0x1.ls _q_u51_0x2.ls _od_vs51_0x2.rd ) fun _v52 _w_55 _q52 => ?_
        obtain ⟨rfl, _cw_55⟩ := _q52
        have _cw_55z := _cw_55.size
        have E := E.trans _cw_55
        have _S_56 : Ch [] _w_44 _w_55 := (_S_51.trans _cw_55)
        refine ⟨_S_56, ?_⟩
        refine DR_s 4 rfl (by kernel_rfl) rfl rfl (t_v (fun _ => (r_not rfl)) ?_)
        refine DR_done (by kernel_rfl) ?_
        refine thn_nrm (_hK_43 _ _ ?_)
        clear _hK_43
        refine W_cond rfl (fun _h53 => ?_) (fun _h53 => ?_)
        · have _kb_57 := _h53
          have _h53 := bf_d (bt_n _h53)
          refine W_seq fun _K_58 _hK_58 => ?_
          refine W_region ?_
          refine WL_step rfl rfl (r_assign rfl) ?_
          refine WL_nil ?_
          refine thn_nrm (_hK_58 _ _ ?_)
          clear _hK_58
          refine W_ret (thn_ret ?_)
          clear _hK_42
          exact ret_intro [_] ⟨rfl, trivial⟩ ⟨congrArg Value.bool (by first | rfl | (exfalso; omega) | (exfalso; revert _h53; simp; done) | (exfalso; revert _h53; simp; omega)), E⟩
        · have _kb_57 := _h53
          have _h53 := bt_d (bf_n _h53)
          refine W_skip ?_
          refine thn_nrm (_hK_42 _ _ ?_)
          clear _hK_42
          refine W_seq fun _K_59 _hK_59 => ?_
          refine W_region ?_
          refine WL_step rfl rfl (r_assign rfl) ?_
          refine WL_nil ?_
          refine thn_nrm (_hK_59 _ _ ?_)
          clear _hK_59
          refine W_seq fun _K_60 _hK_60 => ?_
          refine W_region ?_
          have _f_61 := ((_f_45.ch0 _cw_50).ch0 _cw_55)
          refine WL_step rfl rfl (r_loadAtA0 _f_61.at_ agg28 sz28 rfl) ?_
          refine WL_step rfl rfl (r_move rfl) ?_
          refine WL_s rfl rfl ?_
          have _f_62 := (_f_52.ch0 _cw_55)
          have _f_63 := (_f_54.ch0 _cw_55)
          have _f_64 := (_f_53.ch0 _cw_55)
          refine Step.call (r_call (xs := [.tmp 54, .tmp 55]) fk19 rfl) (c_laws_markAutomaton _ _f_62 _f_63 (_f_64.up (lo' := _w_19.heap.size) (hi' := _w_25.heap.size) (by omega) (by omega)) (fun g hm => by have _h1 := _lo_u32_0x2 _ hm; have _h2 := _hiu32_0x2 _ hm; omega) _sep_vs32_0x2 (by omega) (fun g hm => by have _h1 := _lo_u32_0x1 _ hm; have _h2 := _hiu32_0x1 _ hm; omega) (fun g hm hg => by exact _dj_u32_0x1_u32_0x2 _ hm hg) _sep_u32_0x1_vs32_0x2 _ (by omega) (by first | omega | (simp <;> omega))) fun _v56 _w_65 _q56 => ?_
          obtain ⟨rfl, _cw_65⟩ := _q56
          have _cw_65z := _cw_65.size
          have E := E.step _cw_65 (fun i hm => by have _h1 := mem_rg hm; left; omega)
          refine WL_step rfl rfl (r_assign rfl) ?_
          refine WL_nil ?_
          refine thn_nrm (_hK_60 _ _ ?_)
          clear _hK_60
          refine W_seq fun _K_66 _hK_66 => ?_
          refine W_seq fun _K_67 _hK_67 => ?_
          refine W_region ?_
          refine WL_step rfl rfl (r_move rfl) ?_
          refine WL_step rfl rfl (r_lss rfl rfl) ?_
          refine WL_step rfl rfl (r_move rfl) ?_
          refine WL_split (d := 59) rfl (fun _h59 => ?_) (fun _h59 => ?_)
          · have _kb_68 := _h59
            have _h59 := bt_d _h59
            refine WL_skip rfl rfl ?_
            refine WL_skip rfl rfl ?_
            refine WL_skip rfl rfl ?_
            refine WL_skip rfl rfl ?_
            refine WL_step rfl rfl (r_pickT rfl rfl) ?_
            refine WL_step rfl rfl (r_move rfl) ?_
            refine WL_skip rfl rfl ?_
            refine WL_skip rfl rfl ?_
            refine WL_skip rfl rfl ?_
            refine WL_step rfl rfl (r_pickT rfl rfl) ?_
            refine WL_nil ?_
            refine thn_nrm (_hK_67 _ _ ?_)
            clear _hK_67
            refine W_condT rfl ?_
            refine W_seq fun _K_69 _hK_69 => ?_
            refine W_region ?_
            refine WL_step rfl rfl (r_assign rfl) ?_
            refine WL_nil ?_
            refine thn_nrm (_hK_69 _ _ ?_)
            clear _hK_69
            refine W_ret (thn_ret ?_)
            clear _hK_66
            exact ret_intro [_] ⟨rfl, trivial⟩ ⟨congrArg Value.bool (by first | rfl | (exfalso; omega) | (exfalso; revert _h59; simp; done) | (exfalso; revert _h59; simp; omega)), E⟩
          · have _kb_68 := _h59
            have _h59 := bf_d _h59
            refine WL_step rfl rfl (r_move rfl) ?_
            refine WL_step rfl rfl (r_move rfl) ?_
            refine WL_s rfl rfl ?_
            have _f_70 := (((((_q_u37_0.ch0 _cw_37).ch0 _cw_44).ch0 _cw_50).ch0 _cw_55).ch _cw_65 (fun g hg hm => by have _h0 := mem_rg hm; have _h1 := _lo_u37_0 _ hg; have _h2 := _hiu37_0 _ hg; omega))
            have _f_71 := (((((_f_36.ch0 _cw_37).ch0 _cw_44).ch0 _cw_50).ch0 _cw_55).ch _cw_65 (fun g hg hm => by have _h0 := mem_rg hm; have _h1 := _lo_u28_0 _ hg; have _h2 := _hiu28_0 _ hg; omega))
            refine Step.call (r_call (xs := [.tmp 60, .tmp 61]) fk18 rfl) (c_laws_eqIntS _f_70.ls _f_71.ls ) fun _v62 _w_72 _q62 => ?_
            obtain ⟨rfl, _cw_72⟩ := _q62
            have _cw_72z := _cw_72.size
            have E := E.trans _cw_72
            refine WL_step rfl rfl (r_not rfl) ?_
            refine WL_step rfl rfl (r_pickF rfl rfl) ?_
            refine WL_step rfl rfl (r_move rfl) ?_
            refine WL_splitF (d := 65) rfl _kb_38 ?_
            refine WL_step rfl rfl (r_move rfl) ?_
            refine WL_step rfl rfl (r_move rfl) ?_
            refine WL_step rfl rfl (r_neqB un4 rfl rfl) ?_
            refine WL_step rfl rfl (r_pickF rfl rfl) ?_
            refine WL_nil ?_
            refine thn_nrm (_hK_67 _ _ ?_)
            clear _hK_67
            refine W_condFk rfl _kb_40 ?_
            refine W_skip ?_
            refine thn_nrm (_hK_66 _ _ ?_)
            clear _hK_66
            refine W_seq fun _K_73 _hK_73 => ?_
            refine W_region ?_
            refine WL_step rfl rfl (r_assign rfl) ?_
            refine WL_nil ?_
            refine thn_nrm (_hK_73 _ _ ?_)
            clear _hK_73
            refine W_seq fun _K_74 _hK_74 => ?_
            refine W_region ?_
            refine WL_step rfl rfl (r_move rfl) ?_
            refine WL_step rfl rfl (r_move rfl) ?_
            refine WL_s rfl rfl ?_
            have _f_75 := (_f_70.ch0 _cw_72)
            refine Step.call (r_call (xs := [.tmp 70, .tmp 71]) fk20 rfl) (c_laws_markIntS _f_75 _ (by omega) (by first | omega | (simp <;> omega))) fun _v72 _w_76 _q72 => ?_
            obtain ⟨rfl, _q72, _cw_76⟩ := _q72
            have _cw_76z := _cw_76.size
            have E := E.step _cw_76 (fun i hi => .inl (by have _h1 := _lo_u37_0 _ hi; omega))
            refine WL_step rfl rfl (r_assign rfl) ?_
            refine WL_nil ?_
            refine thn_nrm (_hK_74 _ _ ?_)
            clear _hK_74
            refine W_seq fun _K_77 _hK_77 => ?_
            refine W_region ?_
            refine WL_step rfl rfl (r_assign rfl) ?_
            refine WL_nil ?_
            refine thn_nrm (_hK_77 _ _ ?_)
            clear _hK_77
            refine W_seq fun _K_78 _hK_78 => ?_
            refine W_region ?_
            refine WL_step rfl rfl (r_move rfl) ?_
            refine WL_step rfl rfl (r_move rfl) ?_
            refine WL_s rfl rfl ?_
            refine Step.call (r_call (xs := [.tmp 73, .tmp 74]) fk21 rfl) (c_laws_heldIntS _q72.ls _ (by omega) (by first | omega | (simp <;> omega))) fun _v75 _w_79 _q75 => ?_
            obtain ⟨rfl, _cw_79⟩ := _q75
            have _cw_79z := _cw_79.size
            have E := E.trans _cw_79
            refine WL_step rfl rfl (r_assign rfl) ?_
            refine WL_nil ?_
            refine thn_nrm (_hK_78 _ _ ?_)
            clear _hK_78
            refine W_seq fun _K_80 _hK_80 => ?_
            refine W_seq fun _K_81 _hK_81 => ?_
            refine W_region ?_
            refine WL_step rfl rfl (r_move rfl) ?_
            refine WL_step rfl rfl (r_lss rfl rfl) ?_
            refine WL_nil ?_
            refine thn_nrm (_hK_81 _ _ ?_)
            clear _hK_81
            refine W_cond rfl (fun _h77 => ?_) (fun _h77 => ?_)
            · have _kb_82 := _h77
              have _h77 := bt_d _h77
              refine W_seq fun _K_83 _hK_83 => ?_
              refine W_region ?_
              refine WL_step rfl rfl (r_assign rfl) ?_
              refine WL_nil ?_
              refine thn_nrm (_hK_83 _ _ ?_)
              clear _hK_83
              refine W_ret (thn_ret ?_)
              clear _hK_80
              exact ret_intro [_] ⟨rfl, trivial⟩ ⟨congrArg Value.bool (by first | rfl | (exfalso; omega) | (exfalso; revert _h77; simp; done) | (exfalso; revert _h77; simp; omega)), E⟩
            · have _kb_82 := _h77
              have _h77 := bf_d _h77
              refine W_skip ?_
              refine thn_nrm (_hK_80 _ _ ?_)
              clear _hK_80
              refine W_seq fun _K_84 _hK_84 => ?_
              refine W_seq fun _K_85 _hK_85 => ?_
              refine W_region ?_
              refine WL_step rfl rfl (r_move rfl) ?_
              refine WL_step rfl rfl (r_move rfl) ?_
              refine WL_step rfl rfl (r_neq rfl rfl) ?_
              refine WL_nil ?_
              refine thn_nrm (_hK_85 _ _ ?_)
              clear _hK_85
              refine W_cond rfl (fun _h80 => ?_) (fun _h80 => ?_)
              · have _kb_86 := _h80
                have _h80 := bf_d (bt_n _h80)
                refine W_seq fun _K_87 _hK_87 => ?_
                refine W_region ?_
                refine WL_step rfl rfl (r_assign rfl) ?_
                refine WL_nil ?_
                refine thn_nrm (_hK_87 _ _ ?_)
                clear _hK_87
                refine W_ret (thn_ret ?_)
                clear _hK_84
                exact ret_intro [_] ⟨rfl, trivial⟩ ⟨congrArg Value.bool (by first | rfl | (exfalso; omega) | (exfalso; revert _h80; simp; done) | (exfalso; revert _h80; simp; omega)), E⟩
              · have _kb_86 := _h80
                have _h80 := bt_d (bf_n _h80)
                refine W_skip ?_
                refine thn_nrm (_hK_84 _ _ ?_)
                clear _hK_84
                refine W_seq fun _K_88 _hK_88 => ?_
                refine W_region ?_
                have _f_89 := ((((((_f_46.ch0 _cw_50).ch0 _cw_55).ch _cw_65 (fun hm => by have _h1 := mem_rg hm; omega)).ch0 _cw_72).ch _cw_76 (fun hm => by have _h1 := _lo_u37_0 _ hm; have _h2 := _hiu37_0 _ hm; omega)).ch0 _cw_79)
                refine WL_step rfl rfl (r_loadAtA0 _f_89.at_ agg25 sz25 rfl) ?_
                refine WL_s rfl rfl ?_
                have _f_90 := ((((((_f_47.ch0 _cw_50).ch0 _cw_55).ch _cw_65 (fun i hm => by have _h1 := mem_rg hm; omega)).ch0 _cw_72).ch _cw_76 (fun i hi => by have _h1 := _lo_u37_0 _ hi; omega)).ch0 _cw_79)
                have _f_91 := ((((((_f_48.ch0 _cw_50).ch0 _cw_55).ch _cw_65 (fun i hm => by have _h1 := mem_rg hm; omega)).ch0 _cw_72).ch _cw_76 (fun i hi => by have _h1 := _lo_u37_0 _ hi; omega)).ch0 _cw_79)
                have _f_92 := ((((((_f_49.ch0 _cw_50).ch0 _cw_55).ch _cw_65 (fun i hm => by have _h1 := mem_rg hm; omega)).ch0 _cw_72).ch _cw_76 (fun i hi => by have _h1 := _lo_u37_0 _ hi; omega)).ch0 _cw_79)
                refine Step.call (r_call (xs := [.tmp 82]) fk11 rfl) (c_laws_toAutomaton _ _f_90 _f_92 _f_91 (by omega)) fun _v83 _w_93 _q83 => ?_
                obtain ⟨u83_0x1, u83_0x2, _vs83_0x2, rfl, _q_u83_0x1, _lo_u83_0x1, _q_u83_0x2, _lo_u83_0x2, _od_vs83_0x2, _sep_vs83_0x2, _dj_u83_0x1_u83_0x2, _sep_u83_0x1_vs83_0x2, _cw_93⟩ := _q83
                have _cw_93z := _cw_93.size
                have E := E.trans _cw_93
                obtain ⟨Au83_0x1, Cu83_0x1, eu83_0x1⟩ := _q_u83_0x1.val
                subst eu83_0x1
                have lu83_0x1 := _q_u83_0x1.len
                have _hiu83_0x1 := _q_u83_0x1.lt
                obtain ⟨Au83_0x2, Cu83_0x2, eu83_0x2⟩ := _q_u83_0x2.val
                subst eu83_0x2
                have lu83_0x2 := _q_u83_0x2.len
                have _hiu83_0x2 := _q_u83_0x2.lt
                refine WL_step rfl rfl (r_move rfl) ?_
                refine WL_step rfl rfl (r_move rfl) ?_
                refine WL_s rfl rfl ?_
                refine Step.call (r_call (xs := [.tmp 83, .tmp 84, .tmp 85]) fk23 rfl) (c_impl_DistinguishingWord _ _q_u83_0x1.ls _q_u83_0x2.ls _od_vs83_0x2.rd _ _ ) fun _v86 _w_94 _q86 => ?_
                obtain ⟨u86_0, rfl, _q_u86_0, _lo_u86_0, _cw_94⟩ := _q86
                have _cw_94z := _cw_94.size
                have E := E.trans _cw_94
                obtain ⟨Au86_0, Cu86_0, eu86_0⟩ := _q_u86_0.val
                subst eu86_0
                have lu86_0 := _q_u86_0.len
                have _hiu86_0 := _q_u86_0.lt
                refine WL_step rfl rfl (r_move rfl) ?_
                refine WL_step rfl rfl (r_extract rfl rfl) ?_
                refine WL_step rfl rfl (r_extract rfl rfl) ?_
                refine WL_step rfl rfl (r_assign rfl) ?_
                refine WL_step rfl rfl (r_assign rfl) ?_
                refine WL_nil ?_
                refine thn_nrm (_hK_88 _ _ ?_)
                clear _hK_88
                refine W_seq fun _K_95 _hK_95 => ?_
                refine W_seq fun _K_96 _hK_96 => ?_
                refine W_region ?_
                refine WL_step rfl rfl (r_move rfl) ?_
                refine WL_step rfl rfl (r_move rfl) ?_
                refine WL_s rfl rfl ?_
                have _f_97 := (((((_f_71.ch0 _cw_72).ch _cw_76 (fun g hg hm => by have _h1 := _lo_u37_0 _ hm; have _h2 := _hiu37_0 _ hm; have _h3 := _lo_u28_0 _ hg; have _h4 := _hiu28_0 _ hg; omega)).ch0 _cw_79).ch0 _cw_93).ch0 _cw_94)
                refine Step.call (r_call (xs := [.tmp 89, .tmp 90]) fk18 rfl) (c_laws_eqIntS _q_u86_0.ls _f_97.ls ) fun _v91 _w_98 _q91 => ?_
                obtain ⟨rfl, _cw_98⟩ := _q91
                have _cw_98z := _cw_98.size
                have E := E.trans _cw_98
                refine WL_step rfl rfl (r_not rfl) ?_
                refine WL_step rfl rfl (r_move rfl) ?_
                refine WL_splitF (d := 93) rfl _kb_38 ?_
                refine WL_step rfl rfl (r_move rfl) ?_
                refine WL_step rfl rfl (r_move rfl) ?_
                refine WL_step rfl rfl (r_neqB un4 rfl rfl) ?_
                refine WL_step rfl rfl (r_pickF rfl rfl) ?_
                refine WL_nil ?_
                refine thn_nrm (_hK_96 _ _ ?_)
                clear _hK_96
                refine W_condFk rfl _kb_40 ?_
                refine W_skip ?_
                refine thn_nrm (_hK_95 _ _ ?_)
                clear _hK_95
                refine W_seq fun _K_99 _hK_99 => ?_
                refine W_region ?_
                refine WL_step rfl rfl (r_assign rfl) ?_
                refine WL_nil ?_
                refine thn_nrm (_hK_99 _ _ ?_)
                clear _hK_99
                refine W_seq fun _K_100 _hK_100 => ?_
                refine W_region ?_
                refine WL_step rfl rfl (r_move rfl) ?_
                refine WL_step rfl rfl (r_move rfl) ?_
                refine WL_s rfl rfl ?_
                have _f_101 := ((((_q72.ch0 _cw_79).ch0 _cw_93).ch0 _cw_94).ch0 _cw_98)
                refine Step.call (r_call (xs := [.tmp 98, .tmp 99]) fk21 rfl) (c_laws_heldIntS _f_101.ls _ (by omega) (by first | omega | (simp <;> omega))) fun _v100 _w_102 _q100 => ?_
                obtain ⟨rfl, _cw_102⟩ := _q100
                have _cw_102z := _cw_102.size
                have E := E.trans _cw_102
                refine WL_step rfl rfl (r_assign rfl) ?_
                refine WL_nil ?_
                refine thn_nrm (_hK_100 _ _ ?_)
                clear _hK_100
                refine W_seq fun _K_103 _hK_103 => ?_
                refine W_seq fun _K_104 _hK_104 => ?_
                refine W_region ?_
                refine WL_step rfl rfl (r_move rfl) ?_
                refine WL_step rfl rfl (r_lss rfl rfl) ?_
                refine WL_nil ?_
                refine thn_nrm (_hK_104 _ _ ?_)
                clear _hK_104
                refine W_condFk rfl _kb_82 ?_
                refine W_skip ?_
                refine thn_nrm (_hK_103 _ _ ?_)
                clear _hK_103
                refine W_seq fun _K_105 _hK_105 => ?_
                refine W_seq fun _K_106 _hK_106 => ?_
                refine W_region ?_
                refine WL_step rfl rfl (r_move rfl) ?_
                refine WL_step rfl rfl (r_move rfl) ?_
                refine WL_step rfl rfl (r_neq rfl rfl) ?_
                refine WL_nil ?_
                refine thn_nrm (_hK_106 _ _ ?_)
                clear _hK_106
                refine W_condFk rfl _kb_86 ?_
                refine W_skip ?_
                refine thn_nrm (_hK_105 _ _ ?_)
                clear _hK_105
                refine W_seq fun _K_107 _hK_107 => ?_
                refine W_region ?_
                refine WL_step rfl rfl (r_assign rfl) ?_
                refine WL_nil ?_
                refine thn_nrm (_hK_107 _ _ ?_)
                clear _hK_107
                refine W_ret ?_
                exact ret_intro [_] ⟨rfl, trivial⟩ ⟨congrArg Value.bool (by first | rfl | (exfalso; omega) | (exfalso; revert _h80; simp; done) | (exfalso; revert _h80; simp; omega)), E⟩

end Go.Proofs.Ytliecidadhlieaa
