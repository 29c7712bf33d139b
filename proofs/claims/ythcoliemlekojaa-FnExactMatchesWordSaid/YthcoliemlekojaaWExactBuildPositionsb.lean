/- Walks of functions that FnExactBuildPositions reaches: what each returns, and that it leaves the memory that was there alone. -/
import Derived.Test.YthcoliemlekojaaKF
import Derived.Test.YthcoliemlekojaaKG
import Derived.Test.YthcoliemlekojaaKH
import Derived.Test.YthcoliemlekojaaKI
import Derived.Test.YthcoliemlekojaaKJ
import Derived.Test.YthcoliemlekojaaKM
import Derived.Test.YthcoliemlekojaaKN
import Derived.Test.YthcoliemlekojaaKO
import Derived.Test.YthcoliemlekojaaKP
import Derived.Test.YthcoliemlekojaaKQ
import Derived.Test.YthcoliemlekojaaKR
import Derived.Test.YthcoliemlekojaaKS
import Derived.Test.YthcoliemlekojaaKT
import Derived.Test.YthcoliemlekojaaKU
import Derived.Test.YthcoliemlekojaaKV
import Derived.Test.YthcoliemlekojaaKX
import Derived.Test.YthcoliemlekojaaKY
import Derived.Test.YthcoliemlekojaaKZ
import Derived.Test.YthcoliemlekojaaJA
import Derived.Test.YthcoliemlekojaaJB
import Derived.Test.YthcoliemlekojaaJC
import Derived.Test.YthcoliemlekojaaJD
import Derived.Test.YthcoliemlekojaaJE
import Derived.Test.YthcoliemlekojaaJF
import Derived.Test.YthcoliemlekojaaJG
import Derived.Test.YthcoliemlekojaaJH
import Derived.Test.YthcoliemlekojaaJI
import Derived.Test.YthcoliemlekojaaJK
import Derived.Test.YthcoliemlekojaaJM
import Derived.Test.YthcoliemlekojaaJN
import Derived.Test.YthcoliemlekojaaJO
import Derived.Test.YthcoliemlekojaaJP
import Derived.Test.YthcoliemlekojaaJQ
import Derived.Test.YthcoliemlekojaaJR
import Derived.Test.YthcoliemlekojaaJS
import Derived.Test.YthcoliemlekojaaJT
import Derived.Test.YthcoliemlekojaaJU
import Derived.Test.YthcoliemlekojaaJV
import Derived.Test.YthcoliemlekojaaWExactBuildPositions
import Derived.Test.YthcoliemlekojaaProg
namespace Go.Proofs.Ythcoliemlekojaa
open Go.KLib Go.Shelf
set_option maxHeartbeats 1000000
set_option maxRecDepth 20000
set_option linter.unusedVariables false
set_option linter.unusedSimpArgs false
namespace TExactBuildPositionsb
theorem agg25 : aggB Try.prog 25 = some false := by kernel_rfl
theorem agg3 : aggB Try.prog 3 = some false := by kernel_rfl
theorem agg4 : aggB Try.prog 4 = some false := by kernel_rfl
theorem agg49 : aggB Try.prog 49 = some false := by kernel_rfl
theorem agg61 : aggB Try.prog 61 = some true := by kernel_rfl
theorem agg74 : aggB Try.prog 74 = some false := by kernel_rfl
theorem by3 : bytesB Try.prog 3 = some 8 := by kernel_rfl
theorem el25 : elB Try.prog 25 = some 3 := by kernel_rfl
theorem el74 : elB Try.prog 74 = some 49 := by kernel_rfl
theorem fa37_0 : faB Try.prog 37 0 = some 0 := by kernel_rfl
theorem fa37_3 : faB Try.prog 37 3 = some 3 := by kernel_rfl
theorem fa55_0 : faB Try.prog 55 0 = some 0 := by kernel_rfl
theorem fa55_1 : faB Try.prog 55 1 = some 1 := by kernel_rfl
theorem fa61_0 : faB Try.prog 61 0 = some 0 := by kernel_rfl
theorem fa61_1 : faB Try.prog 61 1 = some 1 := by kernel_rfl
theorem fa61_2 : faB Try.prog 61 2 = some 2 := by kernel_rfl
theorem fa78_0 : faB Try.prog 78 0 = some 0 := by kernel_rfl
theorem fa78_1 : faB Try.prog 78 1 = some 4 := by kernel_rfl
theorem fk31 : fnB Try.prog 31 = true := by kernel_rfl
theorem fk55 : fnB Try.prog 55 = true := by kernel_rfl
theorem mixed : Try.prog.follows .mixedOrders = true := by kernel_rfl
theorem pl61 : placesB Try.prog 61 = some [(0, 1), (1, 1), (2, 1)] := by kernel_rfl
theorem sz25 : sizeB Try.prog 25 = some 1 := by kernel_rfl
theorem sz3 : sizeB Try.prog 3 = some 1 := by kernel_rfl
theorem sz49 : sizeB Try.prog 49 = some 1 := by kernel_rfl
theorem sz61 : sizeB Try.prog 61 = some 3 := by kernel_rfl
theorem zr3 : zeroB Try.prog 3 = some (.int .i64 0) := by kernel_rfl
theorem zr61 : zeroB Try.prog 61 = some (.agg #[.int .i64 0, .int .i64 0, .bool false]) := by kernel_rfl
end TExactBuildPositionsb
open TExactBuildPositionsb

/-- impl.Positions).build -/
theorem c_impl_Positions_build_n : ∀ (n : Nat) {w : World} {b_p t_p L_p : Nat} {_v_p0 : Value} {_p0 : List Int} {_p1 : Int} {_p2 : Int} {_v_p3 : Value} {_p3 : List Int} {_p4 : Bool} (m_p : Blk w b_p t_p [_v_p0, (.int .i64 _p1), (.int .i64 _p2), _v_p3, (.bool _p4)])  (_h_p0 : Ol ics 3 1 w _v_p0 _p0) (_nb_p0 : b_p ∉ bl _v_p0) (_ll_p0 : Lo L_p _v_p0) (_h_p3 : Ol ics 3 1 w _v_p3 _p3) (_nb_p3 : b_p ∉ bl _v_p3) (_ll_p3 : Lo L_p _v_p3) (_dj_p0_p3 : ∀ g ∈ bl _v_p0, g ∉ bl _v_p3) {LT_x : Nat} {p_x : Addr} {x : Tr} (_h_x : TrAt w LT_x L_p p_x x) (lb9 : b_p < LT_x ∨ L_p ≤ b_p) (lb8 : L_p ≤ w.heap.size) (hok : Okd x) (hb : _p0.length + x.sz ≤ 100000 ∧ _p3.length + x.sz ≤ 100000) (hsz : x.sz < n),
    Ctr Try.prog 31 #[(.pointer (some ⟨b_p, 0, none⟩)), (.pointer (some p_x))] w (fun v w' => ∃ (zp0 zp3 : Value), v = .agg #[.int .i64 ((bpT x _p0 _p3).f), .int .i64 ((bpT x _p0 _p3).l), .bool ((bpT x _p0 _p3).n)] ∧ Blk w' b_p t_p [zp0, .int .i64 _p1, .int .i64 _p2, zp3, .bool _p4] ∧ Ol ics 3 1 w' zp0 ((bpT x _p0 _p3).L) ∧ (∀ g ∈ bl zp0, w.heap.size ≤ g ∨ g ∈ (b_p :: (bl _v_p0 ++ bl _v_p3))) ∧ b_p ∉ bl zp0 ∧ Ol ics 3 1 w' zp3 ((bpT x _p0 _p3).F) ∧ (∀ g ∈ bl zp3, w.heap.size ≤ g ∨ g ∈ (b_p :: (bl _v_p0 ++ bl _v_p3))) ∧ b_p ∉ bl zp3 ∧ (∀ g ∈ bl zp0, g ∉ bl zp3) ∧ Ch (b_p :: (bl _v_p0 ++ bl _v_p3)) w w') := by
  intro n
  induction n with
  | zero => intros; omega
  | succ n ih =>
 intro w b_p t_p L_p _v_p0 _p0 _p1 _p2 _v_p3 _p3 _p4 m_p _h_p0 _nb_p0 _ll_p0 _h_p3 _nb_p3 _ll_p3 _dj_p0_p3 LT_x p_x x _h_x lb9 lb8 hok hb hsz
 obtain ⟨_A_p0, _C_p0, _e1_p0⟩ := _h_p0.val
 subst _e1_p0
 have _l_p0 := _h_p0.len
 have _lt_p0 := _h_p0.lt
 obtain ⟨_A_p3, _C_p3, _e1_p3⟩ := _h_p3.val
 subst _e1_p3
 have _l_p3 := _h_p3.len
 have _lt_p3 := _h_p3.lt
 have _zb_p := m_p.lt
 obtain ⟨_A_x, _C_x, _ps_x, _hc_x, _hk_x, _kd_x⟩ := _h_x.open
 have _kl_x := _kd_x.1
 have E := Ch.refl (b_p :: (bl (.slice _A_p0 _p0.length _C_p0) ++ bl (.slice _A_p3 _p3.length _C_p3))) w
 have k2 := hok.len; have hte : x.tok.letter = x.tok.letter := rfl
 refine Ctr_of_W (N := 163) (vs0 := [(.pointer (some ⟨b_p, 0, none⟩)), (.pointer (some p_x))]) Try.func31 rfl rfl rfl ?_
 refine W_seq fun _K_1 _hK_1 => ?_
 refine W_region ?_
 refine WL_s rfl rfl ?_
 refine s_alloc zr61 fun _b4 _w_2 _m4 _cw_2 _e4 => ?_
 have _cw_2z := _cw_2.size
 have E := E.trans _cw_2.of_nil
 have _z4 := _m4.lt
 replace _m4 : Blk _w_2 _b4 61 [(.int .i64 0), (.int .i64 0), (.bool false)] := _m4
 refine WL_nil ?_
 refine thn_nrm (_hK_1 _ _ ?_)
 clear _hK_1
 refine W_seq fun _K_3 _hK_3 => ?_
 refine W_seq fun _K_4 _hK_4 => ?_
 refine W_region ?_
 refine WL_step rfl rfl (r_move rfl) ?_
 refine WL_step rfl rfl (r_nilCheck rfl) ?_
 refine WL_step rfl rfl (r_fieldAddr fa78_0 rfl) ?_
 refine WL_step rfl rfl (r_fieldAddrN (n := 0) fa55_0 rfl rfl) ?_
 have _f_5 := (_hc_x.ch0 _cw_2)
 refine WL_step rfl rfl (r_loadAt _f_5 agg3 rfl rfl) ?_
 refine WL_nil ?_
 refine thn_nrm (_hK_4 _ _ ?_)
 clear _hK_4
 refine W_block ?_
 refine W_seq fun _K_6 _hK_6 => ?_
 refine W_region ?_
 refine WL_step rfl rfl (r_eql rfl rfl) ?_
 refine WL_step rfl rfl (r_assign rfl) ?_
 refine WL_nil ?_
 refine thn_nrm (_hK_6 _ _ ?_)
 clear _hK_6
 refine W_cond rfl (fun _h17 => ?_) (fun _h17 => ?_)
 ·have _kb_7 := _h17
  have _h17 := bt_d _h17
  have eb := bp2 (L := _p0) (F := _p3) hok (by omega)
  refine W_seq fun _K_8 _hK_8 => ?_
  refine W_region ?_
  refine WL_step rfl rfl (r_build (parts := [(2, .const (Go.Value.bool true))]) (cells := [(.int .i64 0), (.int .i64 0), (.bool true)]) zr61 pl61 rfl rfl) ?_
  refine WL_s rfl rfl ?_
  refine s_storeA (off := 0) 3 _m4 sz61 rfl (us := [(.int .i64 0), (.int .i64 0), (.bool true)]) rfl rfl rfl rfl fun _w_9 _m_10 _cw_9 => ?_
  have _cw_9z := _cw_9.size
  have E := E.step _cw_9 (oneL (by omega))
  replace _m_10 : Blk _w_9 _b4 61 [(.int .i64 0), (.int .i64 0), (.bool true)] := _m_10
  refine WL_nil ?_
  refine thn_nrm (_hK_8 _ _ ?_)
  clear _hK_8
  refine W_ret (inB_ret (thn_ret ?_))
  clear _hK_3
  have _f_11 := ((m_p.ch0 _cw_2).ch _cw_9 (ne1 (by omega)))
  have _f_12 := ((_h_p0.ch0 _cw_2).ch _cw_9 (fun g hg hm => by have _h0 := mSg.1 hm; have _h2 := _ll_p0 _ hg; have _h3 := _lt_p0 _ hg; omega))
  have _o_13 : Ol ics 3 1 _w_9 (.slice _A_p0 _p0.length _C_p0) ((bpT x _p0 _p3).L) := by
    have hx := _f_12
    exact hx.eq (by rw [eb] <;> first | rfl | (rw [hte]; done))
  have _f_14 := ((_h_p3.ch0 _cw_2).ch _cw_9 (fun g hg hm => by have _h0 := mSg.1 hm; have _h2 := _ll_p3 _ hg; have _h3 := _lt_p3 _ hg; omega))
  have _o_15 : Ol ics 3 1 _w_9 (.slice _A_p3 _p3.length _C_p3) ((bpT x _p0 _p3).F) := by
    have hx := _f_14
    exact hx.eq (by rw [eb] <;> first | rfl | (rw [hte]; done))
  have _m_16 : Blk _w_9 b_p t_p [(.slice _A_p0 _p0.length _C_p0), .int .i64 _p1, .int .i64 _p2, (.slice _A_p3 _p3.length _C_p3), .bool _p4] := by
    have hx := _f_11
    exact hx
  exact ret_intro [_] (resOf_loadA _m_10 rfl agg61 sz61 trivial) ⟨(.slice _A_p0 _p0.length _C_p0), (.slice _A_p3 _p3.length _C_p3), (((congrArg (fun zq => (Value.agg #[.int .i64 zq, .int .i64 0, .bool true])) (by rw [eb] <;> first | rfl | (rw [hte]; done))).trans (congrArg (fun zq => (Value.agg #[.int .i64 ((bpT x _p0 _p3).f), .int .i64 zq, .bool true])) (by rw [eb] <;> first | rfl | (rw [hte]; done)))).trans (congrArg (fun zq => (Value.agg #[.int .i64 ((bpT x _p0 _p3).f), .int .i64 ((bpT x _p0 _p3).l), .bool zq])) (by rw [eb] <;> first | rfl | (rw [hte]; done)))), _m_16, _o_13, (fun g hm => by exact (.inr (mCo _ (mAL _ hm)))), _nb_p0, _o_15, (fun g hm => by exact (.inr (mCo _ (mAR _ hm)))), _nb_p3, _dj_p0_p3, E⟩
 ·have _kb_7 := _h17
  have _h17 := bf_d _h17
  refine W_seq fun _K_17 _hK_17 => ?_
  refine W_region ?_
  refine WL_step rfl rfl (r_eql rfl rfl) ?_
  refine WL_step rfl rfl (r_assign rfl) ?_
  refine WL_nil ?_
  refine thn_nrm (_hK_17 _ _ ?_)
  clear _hK_17
  refine W_cond rfl (fun _h20 => ?_) (fun _h20 => ?_)
  ·have _kb_18 := _h20
   have _h20 := bt_d _h20
   have eb := bp3 (L := _p0) (F := _p3) hok (by omega)
   refine W_seq fun _K_19 _hK_19 => ?_
   refine W_region ?_
   refine WL_step rfl rfl (r_move rfl) ?_
   refine WL_step rfl rfl (r_nilCheck rfl) ?_
   refine WL_step rfl rfl (r_fieldAddr fa37_0 rfl) ?_
   have _f_20 := (m_p.ch0 _cw_2)
   refine WL_step rfl rfl (r_loadAt _f_20.at_ agg25 rfl rfl) ?_
   refine WL_step rfl rfl (r_len (by rw [el25]; rfl) rfl) ?_
   refine WL_step rfl rfl (r_shl (by omega) rfl rfl) ?_
   refine WL_step rfl rfl (r_assign rfl) ?_
   refine WL_nil ?_
   refine thn_nrm (_hK_19 _ _ ?_)
   clear _hK_19
   refine W_seq fun _K_21 _hK_21 => ?_
   have _J_23 : ∀ (lj : KL) (_wj_22 : World) (ju0_0 : Value) (ju0_3 : Value), Go.KLib.Sub [(0, (.pointer (some ⟨b_p, 0, none⟩))), (1, (.pointer (some p_x))), (4, (.pointer (some ⟨_b4, 0, none⟩))), (5, (.int .i64 (ishl 1 ((_p0.length : Nat) : Int)))), (16, (.int .i64 x.tok.kind))] lj → Ch (b_p :: (bl (.slice _A_p0 _p0.length _C_p0) ++ bl (.slice _A_p3 _p3.length _C_p3))) w _wj_22 → _w_2.heap.size ≤ _wj_22.heap.size → Ol ics 3 1 _wj_22 ju0_0 (_p0 ++ [x.tok.letter]) → (∀ g ∈ bl ju0_0, w.heap.size ≤ g ∨ g ∈ (b_p :: (bl (.slice _A_p0 _p0.length _C_p0) ++ bl (.slice _A_p3 _p3.length _C_p3)))) → b_p ∉ bl ju0_0 → Ol ics 3 1 _wj_22 ju0_3 _p3 → (∀ g ∈ bl ju0_3, w.heap.size ≤ g ∨ g ∈ (b_p :: (bl (.slice _A_p0 _p0.length _C_p0) ++ bl (.slice _A_p3 _p3.length _C_p3)))) → b_p ∉ bl ju0_3 → (∀ g ∈ bl ju0_0, g ∉ bl ju0_3) → Blk _wj_22 b_p t_p [ju0_0, (.int .i64 _p1), (.int .i64 _p2), ju0_3, (.bool _p4)] → At _wj_22 LT_x L_p p_x ([.int .i64 x.tok.kind, .int .i64 x.tok.letter, .int .i64 x.tok.low, .int .i64 x.tok.high, (.slice _A_x _ps_x.length _C_x)]) → Blk _wj_22 _b4 61 [(.int .i64 0), (.int .i64 0), (.bool false)] → _b4 ∉ bl ju0_0 → _b4 ∉ bl ju0_3 → _K_21 lj _wj_22 := by
    intro lj _wj_22 ju0_0 ju0_3 _jsub E szjK_21 _qju0_0 inju0_0 nbju0_0 _qju0_3 inju0_3 nbju0_3 _djju0_0ju0_3 mj0 _F9_0 _F9_1 _nbz9_ju0_0_b4 _nbz9_ju0_3_b4
    refine _hK_21 _ _ (W_sub _jsub ?_)
    clear _hK_21
    have EJ_24 := E
    have EJ_24z := EJ_24.size
    obtain ⟨_Aju0_0, _Cju0_0, _eju0_0⟩ := _qju0_0.val
    subst _eju0_0
    have _lju0_0 := _qju0_0.len
    have _hiju0_0 := _qju0_0.lt
    have _loju0_0 : Lo L_p (.slice _Aju0_0 ((_p0 ++ [x.tok.letter])).length _Cju0_0) := fun g hm => by have z2hm := _hiju0_0 _ hm; rcases inju0_0 _ hm with _z1 | _z1; (omega); (rcases List.mem_cons.1 _z1 with _z1 | _z1; (exact absurd (_z1 ▸ hm) nbju0_0); (replace hm := _z1; rcases List.mem_append.1 hm with hm | hm; (have _h1 := _ll_p0 _ hm; have _h2 := _lt_p0 _ hm; omega); (have _h1 := _ll_p3 _ hm; have _h2 := _lt_p3 _ hm; omega)))
    obtain ⟨_Aju0_3, _Cju0_3, _eju0_3⟩ := _qju0_3.val
    subst _eju0_3
    have _lju0_3 := _qju0_3.len
    have _hiju0_3 := _qju0_3.lt
    have _loju0_3 : Lo L_p (.slice _Aju0_3 (_p3).length _Cju0_3) := fun g hm => by have z2hm := _hiju0_3 _ hm; rcases inju0_3 _ hm with _z1 | _z1; (omega); (rcases List.mem_cons.1 _z1 with _z1 | _z1; (exact absurd (_z1 ▸ hm) nbju0_3); (replace hm := _z1; rcases List.mem_append.1 hm with hm | hm; (have _h1 := _ll_p0 _ hm; have _h2 := _lt_p0 _ hm; omega); (have _h1 := _ll_p3 _ hm; have _h2 := _lt_p3 _ hm; omega)))
    refine W_seq fun _K_25 _hK_25 => ?_
    refine W_region ?_
    refine WL_step rfl rfl (r_move rfl) ?_
    refine WL_step rfl rfl (r_move rfl) ?_
    refine WL_step rfl rfl (r_nilCheck rfl) ?_
    refine WL_step rfl rfl (r_fieldAddr fa37_3 rfl) ?_
    refine WL_step rfl rfl (r_loadAt mj0.at_ agg25 rfl rfl) ?_
    refine WL_s rfl rfl ?_
    refine s_buildSlice (cs := ics) (parts := [(0, .const (Go.Value.int Go.IntKind.i64 0))]) (0 : Int) [0] el25 sz3 zr3 ics_len (by decide) rfl rfl rfl (by decide) (by decide) rfl fun _v47 _w_26 _q47 _lo47 _cw_26 => ?_
    have _cw_26z := _cw_26.size
    have E := E.trans _cw_26.of_nil
    obtain ⟨_Av47, _Cv47, _ev47⟩ := _q47.val
    subst _ev47
    have _lv47 := _q47.len
    have _hiv47 := _q47.lt
    refine WL_s rfl rfl ?_
    have _f_28 := (_qju0_3.ch0 _cw_26)
    refine s_append (cs := ics) el25 sz3 by3 zr3 rfl (by decide) ics_one _f_28 _q47.ls rfl rfl (by first | omega | (simp only [List.length_append, List.length_nil, List.length_cons, List.length_replicate, List.length_set, List.length_reverse, List.length_map] at *; omega) | (simp at *; omega)) (by first | omega | (simp only [List.length_append, List.length_nil, List.length_cons, List.length_replicate, List.length_set, List.length_reverse, List.length_map] at *; omega) | (simp at *; omega)) _loju0_3 (by omega) fun _v48 _w_27 _q48 _lo48 _ap48 _cw_27 => ?_
    have _cw_27z := _cw_27.size
    have E := E.step _cw_27 (fun i hm => by exact inju0_3 _ hm)
    obtain ⟨_Av48, _Cv48, _ev48⟩ := _q48.val
    subst _ev48
    have _lv48 := _q48.len
    have _hiv48 := _q48.lt
    refine WL_step rfl rfl (r_nilCheck rfl) ?_
    refine WL_step rfl rfl (r_fieldAddr fa37_3 rfl) ?_
    refine WL_s rfl rfl ?_
    have _f_29 := ((mj0.ch0 _cw_26).ch _cw_27 nbju0_3)
    refine s_store1 (off := 3) _f_29 sz25 rfl rfl rfl rfl fun _w_30 _m_31 _cw_30 => ?_
    have _cw_30z := _cw_30.size
    have E := E.step _cw_30 (fun i hm => by have _h0 := mSg.1 hm; right; exact _h0 ▸ List.mem_cons_self ..)
    replace _m_31 : Blk _w_30 b_p t_p [(.slice _Aju0_0 ((_p0 ++ [x.tok.letter])).length _Cju0_0), (.int .i64 _p1), (.int .i64 _p2), (.slice _Av48 ((_p3 ++ [0])).length _Cv48), (.bool _p4)] := _m_31
    refine WL_nil ?_
    refine thn_nrm (_hK_25 _ _ ?_)
    clear _hK_25
    refine W_seq fun _K_32 _hK_32 => ?_
    refine W_region ?_
    refine WL_step rfl rfl (r_move rfl) ?_
    refine WL_step rfl rfl (r_move rfl) ?_
    refine WL_step rfl rfl (r_build (parts := [(0, .tmp 51), (1, .tmp 52)]) (cells := [(.int .i64 (ishl 1 ((_p0.length : Nat) : Int))), (.int .i64 (ishl 1 ((_p0.length : Nat) : Int))), (.bool false)]) zr61 pl61 rfl rfl) ?_
    refine WL_s rfl rfl ?_
    have _f_33 := (((_F9_1.ch0 _cw_26).ch _cw_27 _nbz9_ju0_3_b4).ch _cw_30 (ne1 (by omega)))
    refine s_storeA (off := 0) 3 _f_33 sz61 rfl (us := [(.int .i64 (ishl 1 ((_p0.length : Nat) : Int))), (.int .i64 (ishl 1 ((_p0.length : Nat) : Int))), (.bool false)]) rfl rfl rfl rfl fun _w_34 _m_35 _cw_34 => ?_
    have _cw_34z := _cw_34.size
    have E := E.step _cw_34 (oneL (by omega))
    replace _m_35 : Blk _w_34 _b4 61 [(.int .i64 (ishl 1 ((_p0.length : Nat) : Int))), (.int .i64 (ishl 1 ((_p0.length : Nat) : Int))), (.bool false)] := _m_35
    refine WL_nil ?_
    refine thn_nrm (_hK_32 _ _ ?_)
    clear _hK_32
    refine W_ret (inB_ret (thn_ret ?_))
    clear _hK_3
    have _f_36 := (_m_31.ch _cw_34 (ne1 (by omega)))
    have _f_37 := ((((_qju0_0.ch0 _cw_26).ch _cw_27 (fun g hg hm => by exact _djju0_0ju0_3 _ hg hm)).ch _cw_30 (fun g hg hm => by have _h0 := mSg.1 hm; exact nbju0_0 (by first | exact hg | exact _h0 ▸ hg))).ch _cw_34 (fun g hg hm => by have _h0 := mSg.1 hm; exact _nbz9_ju0_0_b4 (by first | exact hg | exact _h0 ▸ hg)))
    have _o_38 : Ol ics 3 1 _w_34 (.slice _Aju0_0 ((_p0 ++ [x.tok.letter])).length _Cju0_0) ((bpT x _p0 _p3).L) := by
      have hx := _f_37
      exact hx.eq (by rw [eb] <;> first | rfl | (rw [hte]; done))
    have _f_39 := ((_q48.ch _cw_30 (fun g hg hm => by have _h0 := mSg.1 hm; rcases _ap48 with ea | ea; (rw [ea] at hg; exact nbju0_3 (by first | exact hg | exact _h0 ▸ hg)); (have z2hg := _hiv48 _ hg; rw [ea] at hg; have _z1 := mSg.1 hg; omega))).ch _cw_34 (fun g hg hm => by have _h0 := mSg.1 hm; rcases _ap48 with ea | ea; (rw [ea] at hg; exact _nbz9_ju0_3_b4 (by first | exact hg | exact _h0 ▸ hg)); (have z2hg := _hiv48 _ hg; rw [ea] at hg; have _z1 := mSg.1 hg; omega)))
    have _o_40 : Ol ics 3 1 _w_34 (.slice _Av48 ((_p3 ++ [0])).length _Cv48) ((bpT x _p0 _p3).F) := by
      have hx := _f_39
      exact hx.eq (by rw [eb] <;> first | rfl | (rw [hte]; done))
    have _m_41 : Blk _w_34 b_p t_p [(.slice _Aju0_0 ((_p0 ++ [x.tok.letter])).length _Cju0_0), .int .i64 _p1, .int .i64 _p2, (.slice _Av48 ((_p3 ++ [0])).length _Cv48), .bool _p4] := by
      have hx := _f_36
      exact hx
    exact ret_intro [_] (resOf_loadA _m_35 rfl agg61 sz61 trivial) ⟨(.slice _Aju0_0 ((_p0 ++ [x.tok.letter])).length _Cju0_0), (.slice _Av48 ((_p3 ++ [0])).length _Cv48), (((congrArg (fun zq => (Value.agg #[.int .i64 zq, .int .i64 (ishl 1 ((_p0.length : Nat) : Int)), .bool false])) (by rw [eb] <;> first | rfl | (rw [hte]; done))).trans (congrArg (fun zq => (Value.agg #[.int .i64 ((bpT x _p0 _p3).f), .int .i64 zq, .bool false])) (by rw [eb] <;> first | rfl | (rw [hte]; done)))).trans (congrArg (fun zq => (Value.agg #[.int .i64 ((bpT x _p0 _p3).f), .int .i64 ((bpT x _p0 _p3).l), .bool zq])) (by rw [eb] <;> first | rfl | (rw [hte]; done)))), _m_41, _o_38, (fun g hm => by exact inju0_0 _ hm), nbju0_0, _o_40, (fun g hm => by rcases _ap48 with ea | ea; (rw [ea] at hm; exact inju0_3 _ hm); (have z2hm := _hiv48 _ hm; rw [ea] at hm; have _z1 := mSg.1 hm; left; omega)), (fun hm => by rcases _ap48 with ea | ea; (rw [ea] at hm; exact nbju0_3 (by first | exact hm | exact _h0 ▸ hm)); (have z2hm := _hiv48 _ hm; rw [ea] at hm; have _z1 := mSg.1 hm; omega)), (fun g hm hg => by rcases _ap48 with ea | ea; (rw [ea] at hg; exact _djju0_0ju0_3 _ hm hg); (have z2hg := _hiv48 _ hg; rw [ea] at hg; have _z1 := mSg.1 hg; have _h1 := _loju0_0 _ hm; have _h2 := _hiju0_0 _ hm; omega)), E⟩
   clear _hK_21
   refine W_drawC ((bl (.slice _A_p0 _p0.length _C_p0)) ++ [b_p]) 15 mixed rfl fun _w_42 _cw_42 => ?_
   have _cw_42z := _cw_42.size
   have E := E.trans _cw_42.of_nil
   refine DR_s 0 rfl (by kernel_rfl) rfl rfl (t_v (fun _ => (r_move rfl)) ?_)
   refine DR_s 1 rfl (by kernel_rfl) rfl rfl (t_v (fun _ => (r_move rfl)) ?_)
   refine DR_s 2 rfl (by kernel_rfl) rfl rfl (t_v (fun _ => (r_nilCheck rfl)) ?_)
   refine DR_s 3 rfl (by kernel_rfl) rfl rfl (t_v (fun _ => (r_fieldAddr fa37_0 rfl)) ?_)
   refine DR_s 5 rfl (by kernel_rfl) rfl rfl (t_v (fun _ => (r_move rfl)) ?_)
   refine DR_s 6 rfl (by kernel_rfl) rfl rfl (t_v (fun _ => (r_nilCheck rfl)) ?_)
   refine DR_s 7 rfl (by kernel_rfl) rfl rfl (t_v (fun _ => (r_fieldAddr fa78_0 rfl)) ?_)
   refine DR_s 8 rfl (by kernel_rfl) rfl rfl (t_v (fun _ => (r_fieldAddrN (n := 1) fa55_1 rfl rfl)) ?_)
   have _f_43 := (_f_5.ch0 _cw_42)
   refine DR_s 9 rfl (by kernel_rfl) rfl rfl (t_loadAt _f_43 (fun i hm => by rcases List.mem_append.1 hm with hm | hm; (have _h1 := _ll_p0 _ hm; have _h2 := _lt_p0 _ hm; omega); (have _h1 := mSg.1 hm; omega)) agg3 rfl rfl ?_)
   refine DR_two 4 10 (by kernel_rfl) ?_ ?_
   ·refine DO_s rfl rfl rfl ?_
    have _f_44 := (_f_20.ch0 _cw_42)
    refine s_v (r_loadAt _f_44.at_ agg25 rfl rfl) ?_
    refine ⟨(Ch.refl _ _), ?_⟩
    refine DR_one 10 (by kernel_rfl) ?_
    refine DO_s rfl rfl rfl ?_
    refine s_buildSlice (cs := ics) (parts := [(0, .tmp 37)]) (0 : Int) [x.tok.letter] el25 sz3 zr3 ics_len (by decide) rfl rfl rfl (by decide) (by decide) rfl fun _v38 _w_45 _q38 _lo38 _cw_45 => ?_
    have _cw_45z := _cw_45.size
    have E := E.trans _cw_45.of_nil
    obtain ⟨_Av38, _Cv38, _ev38⟩ := _q38.val
    subst _ev38
    have _lv38 := _q38.len
    have _hiv38 := _q38.lt
    have _S_46 : Ch ((bl (.slice _A_p0 _p0.length _C_p0)) ++ [b_p]) _w_42 _w_45 := ((Ch.refl _ _).trans _cw_45.of_nil)
    refine ⟨_S_46, ?_⟩
    refine DR_one 11 (by kernel_rfl) ?_
    refine DO_s rfl rfl rfl ?_
    have _f_48 := (((_h_p0.ch0 _cw_2).ch0 _cw_42).ch0 _cw_45)
    refine s_append (cs := ics) el25 sz3 by3 zr3 rfl (by decide) ics_one _f_48 _q38.ls rfl rfl (by first | omega | (simp only [List.length_append, List.length_nil, List.length_cons, List.length_replicate, List.length_set, List.length_reverse, List.length_map] at *; omega) | (simp at *; omega)) (by first | omega | (simp only [List.length_append, List.length_nil, List.length_cons, List.length_replicate, List.length_set, List.length_reverse, List.length_map] at *; omega) | (simp at *; omega)) _ll_p0 (by omega) fun _v39 _w_47 _q39 _lo39 _ap39 _cw_47 => ?_
    have _cw_47z := _cw_47.size
    have E := E.step _cw_47 (fun i hm => by exact (.inr (mCo _ (mAL _ hm))))
    obtain ⟨_Av39, _Cv39, _ev39⟩ := _q39.val
    subst _ev39
    have _lv39 := _q39.len
    have _hiv39 := _q39.lt
    have _S_49 := (_S_46.step _cw_47 (fun i hm => by exact .inr (mAL _ hm)))
    refine ⟨_S_49, ?_⟩
    refine DR_s 12 rfl (by kernel_rfl) rfl rfl (t_v (fun _ => (r_nilCheck rfl)) ?_)
    refine DR_s 13 rfl (by kernel_rfl) rfl rfl (t_v (fun _ => (r_fieldAddr fa37_0 rfl)) ?_)
    refine DR_one 14 (by kernel_rfl) ?_
    refine DO_s rfl rfl rfl ?_
    have _f_50 := ((_f_44.ch0 _cw_45).ch _cw_47 _nb_p0)
    refine s_store1 (off := 0) _f_50 sz25 rfl rfl rfl rfl fun _w_51 _m_52 _cw_51 => ?_
    have _cw_51z := _cw_51.size
    have E := E.step _cw_51 (fun i hm => by have _h0 := mSg.1 hm; right; exact _h0 ▸ List.mem_cons_self ..)
    replace _m_52 : Blk _w_51 b_p t_p [(.slice _Av39 ((_p0 ++ [x.tok.letter])).length _Cv39), (.int .i64 _p1), (.int .i64 _p2), (.slice _A_p3 _p3.length _C_p3), (.bool _p4)] := _m_52
    have _S_53 := (_S_49.step _cw_51 (fun i hm => by have _h0 := mSg.1 hm; exact .inr (by rw [_h0]; exact (mAR _ (mSg.2 rfl)))))
    refine ⟨_S_53, ?_⟩
    refine DR_done (by kernel_rfl) ?_
    refine thn_nrm ?_
    have _f_54 := (_q39.ch _cw_51 (fun g hg hm => by have _h0 := mSg.1 hm; rcases _ap39 with ea | ea; (rw [ea] at hg; exact _nb_p0 (by first | exact hg | exact _h0 ▸ hg)); (have z2hg := _hiv39 _ hg; rw [ea] at hg; have _z1 := mSg.1 hg; omega)))
    have _f_55 := (((((_h_p3.ch0 _cw_2).ch0 _cw_42).ch0 _cw_45).ch _cw_47 (fun g hg hm => by exact _dj_p0_p3 _ hm hg)).ch _cw_51 (fun g hg hm => by have _h0 := mSg.1 hm; exact _nb_p3 (by first | exact hg | exact _h0 ▸ hg)))
    have _f_56 := (((_f_43.ch0 _cw_45).ch _cw_47 (fun i hi => by have _h1 := _ll_p0 _ hi; omega)).ch _cw_51 (tfr1 (by omega)))
    have _f_57 := ((((_m4.ch0 _cw_42).ch0 _cw_45).ch _cw_47 (no_in _ll_p0 _lt_p0 (by omega))).ch _cw_51 (ne1 (by omega)))
    exact _J_23 _ _ _ _ (Sub.cons rfl (Sub.cons rfl (Sub.cons rfl (Sub.cons rfl (Sub.cons rfl (Sub.nil _)))))) E (by omega) _f_54 (fun g hm => by rcases _ap39 with ea | ea; (rw [ea] at hm; exact (.inr (mCo _ (mAL _ hm)))); (have z2hm := _hiv39 _ hm; rw [ea] at hm; have _z1 := mSg.1 hm; left; omega)) (fun hm => by rcases _ap39 with ea | ea; (rw [ea] at hm; exact _nb_p0 (by first | exact hm | exact _h0 ▸ hm)); (have z2hm := _hiv39 _ hm; rw [ea] at hm; have _z1 := mSg.1 hm; omega)) _f_55 (fun g hm => by exact (.inr (mCo _ (mAR _ hm)))) _nb_p3 (fun g hm hg => by rcases _ap39 with ea | ea; (rw [ea] at hm; exact _dj_p0_p3 _ hm hg); (have z2hm := _hiv39 _ hm; rw [ea] at hm; have _z1 := mSg.1 hm; have _h3 := _ll_p3 _ hg; have _h4 := _lt_p3 _ hg; omega)) _m_52 _f_56 _f_57 (fun hm => by rcases _ap39 with ea | ea; (rw [ea] at hm; have _h1 := _ll_p0 _ hm; have _h2 := _lt_p0 _ hm; omega); (have z2hm := _hiv39 _ hm; rw [ea] at hm; have _z1 := mSg.1 hm; omega)) (no_in _ll_p3 _lt_p3 (by omega))
   ·refine DO_s rfl rfl rfl ?_
    refine s_buildSlice (cs := ics) (parts := [(0, .tmp 37)]) (0 : Int) [x.tok.letter] el25 sz3 zr3 ics_len (by decide) rfl rfl rfl (by decide) (by decide) rfl fun _v38 _w_58 _q38 _lo38 _cw_58 => ?_
    have _cw_58z := _cw_58.size
    have E := E.trans _cw_58.of_nil
    obtain ⟨_Av38, _Cv38, _ev38⟩ := _q38.val
    subst _ev38
    have _lv38 := _q38.len
    have _hiv38 := _q38.lt
    have _S_59 : Ch ((bl (.slice _A_p0 _p0.length _C_p0)) ++ [b_p]) _w_42 _w_58 := ((Ch.refl _ _).trans _cw_58.of_nil)
    refine ⟨_S_59, ?_⟩
    refine DR_one 4 (by kernel_rfl) ?_
    refine DO_s rfl rfl rfl ?_
    have _f_60 := ((_f_20.ch0 _cw_42).ch0 _cw_58)
    refine s_v (r_loadAt _f_60.at_ agg25 rfl rfl) ?_
    refine ⟨_S_59, ?_⟩
    refine DR_one 11 (by kernel_rfl) ?_
    refine DO_s rfl rfl rfl ?_
    have _f_62 := (((_h_p0.ch0 _cw_2).ch0 _cw_42).ch0 _cw_58)
    refine s_append (cs := ics) el25 sz3 by3 zr3 rfl (by decide) ics_one _f_62 _q38.ls rfl rfl (by first | omega | (simp only [List.length_append, List.length_nil, List.length_cons, List.length_replicate, List.length_set, List.length_reverse, List.length_map] at *; omega) | (simp at *; omega)) (by first | omega | (simp only [List.length_append, List.length_nil, List.length_cons, List.length_replicate, List.length_set, List.length_reverse, List.length_map] at *; omega) | (simp at *; omega)) _ll_p0 (by omega) fun _v39 _w_61 _q39 _lo39 _ap39 _cw_61 => ?_
    have _cw_61z := _cw_61.size
    have E := E.step _cw_61 (fun i hm => by exact (.inr (mCo _ (mAL _ hm))))
    obtain ⟨_Av39, _Cv39, _ev39⟩ := _q39.val
    subst _ev39
    have _lv39 := _q39.len
    have _hiv39 := _q39.lt
    have _S_63 := (_S_59.step _cw_61 (fun i hm => by exact .inr (mAL _ hm)))
    refine ⟨_S_63, ?_⟩
    refine DR_s 12 rfl (by kernel_rfl) rfl rfl (t_v (fun _ => (r_nilCheck rfl)) ?_)
    refine DR_s 13 rfl (by kernel_rfl) rfl rfl (t_v (fun _ => (r_fieldAddr fa37_0 rfl)) ?_)
    refine DR_one 14 (by kernel_rfl) ?_
    refine DO_s rfl rfl rfl ?_
    have _f_64 := (_f_60.ch _cw_61 _nb_p0)
    refine s_store1 (off := 0) _f_64 sz25 rfl rfl rfl rfl fun _w_65 _m_66 _cw_65 => ?_
    have _cw_65z := _cw_65.size
    have E := E.step _cw_65 (fun i hm => by have _h0 := mSg.1 hm; right; exact _h0 ▸ List.mem_cons_self ..)
    replace _m_66 : Blk _w_65 b_p t_p [(.slice _Av39 ((_p0 ++ [x.tok.letter])).length _Cv39), (.int .i64 _p1), (.int .i64 _p2), (.slice _A_p3 _p3.length _C_p3), (.bool _p4)] := _m_66
    have _S_67 := (_S_63.step _cw_65 (fun i hm => by have _h0 := mSg.1 hm; exact .inr (by rw [_h0]; exact (mAR _ (mSg.2 rfl)))))
    refine ⟨_S_67, ?_⟩
    refine DR_done (by kernel_rfl) ?_
    refine thn_nrm ?_
    have _f_68 := (_q39.ch _cw_65 (fun g hg hm => by have _h0 := mSg.1 hm; rcases _ap39 with ea | ea; (rw [ea] at hg; exact _nb_p0 (by first | exact hg | exact _h0 ▸ hg)); (have z2hg := _hiv39 _ hg; rw [ea] at hg; have _z1 := mSg.1 hg; omega)))
    have _f_69 := (((((_h_p3.ch0 _cw_2).ch0 _cw_42).ch0 _cw_58).ch _cw_61 (fun g hg hm => by exact _dj_p0_p3 _ hm hg)).ch _cw_65 (fun g hg hm => by have _h0 := mSg.1 hm; exact _nb_p3 (by first | exact hg | exact _h0 ▸ hg)))
    have _f_70 := (((_f_43.ch0 _cw_58).ch _cw_61 (fun i hi => by have _h1 := _ll_p0 _ hi; omega)).ch _cw_65 (tfr1 (by omega)))
    have _f_71 := ((((_m4.ch0 _cw_42).ch0 _cw_58).ch _cw_61 (no_in _ll_p0 _lt_p0 (by omega))).ch _cw_65 (ne1 (by omega)))
    exact _J_23 _ _ _ _ (Sub.cons rfl (Sub.cons rfl (Sub.cons rfl (Sub.cons rfl (Sub.cons rfl (Sub.nil _)))))) E (by omega) _f_68 (fun g hm => by rcases _ap39 with ea | ea; (rw [ea] at hm; exact (.inr (mCo _ (mAL _ hm)))); (have z2hm := _hiv39 _ hm; rw [ea] at hm; have _z1 := mSg.1 hm; left; omega)) (fun hm => by rcases _ap39 with ea | ea; (rw [ea] at hm; exact _nb_p0 (by first | exact hm | exact _h0 ▸ hm)); (have z2hm := _hiv39 _ hm; rw [ea] at hm; have _z1 := mSg.1 hm; omega)) _f_69 (fun g hm => by exact (.inr (mCo _ (mAR _ hm)))) _nb_p3 (fun g hm hg => by rcases _ap39 with ea | ea; (rw [ea] at hm; exact _dj_p0_p3 _ hm hg); (have z2hm := _hiv39 _ hm; rw [ea] at hm; have _z1 := mSg.1 hm; have _h3 := _ll_p3 _ hg; have _h4 := _lt_p3 _ hg; omega)) _m_66 _f_70 _f_71 (fun hm => by rcases _ap39 with ea | ea; (rw [ea] at hm; have _h1 := _ll_p0 _ hm; have _h2 := _lt_p0 _ hm; omega); (have z2hm := _hiv39 _ hm; rw [ea] at hm; have _z1 := mSg.1 hm; omega)) (no_in _ll_p3 _lt_p3 (by omega))
  ·have _kb_18 := _h20
   have _h20 := bf_d _h20
   refine W_seq fun _K_72 _hK_72 => ?_
   refine W_region ?_
   refine WL_step rfl rfl (r_eql rfl rfl) ?_
   refine WL_step rfl rfl (r_assign rfl) ?_
   refine WL_nil ?_
   refine thn_nrm (_hK_72 _ _ ?_)
   clear _hK_72
   refine W_cond rfl (fun _h54 => ?_) (fun _h54 => ?_)
   ·have _kb_73 := _h54
    have _h54 := bt_d _h54
    obtain ⟨ta, tb, _hk0, _hk1, oa, ob, sab, ga, gb⟩ := hok.kk2 (by omega)
    have za := bpT_len ta _p0 _p3
    have zb := bpT_len tb (bpT ta _p0 _p3).L (bpT ta _p0 _p3).F
    have eb := bp5 (L := _p0) (F := _p3) hok (by omega) _hk0 _hk1
    refine W_seq fun _K_74 _hK_74 => ?_
    have _J_76 : ∀ (lj : KL) (_wj_75 : World) (ju0_0 : Value) (ju0_3 : Value) (jb6 : Nat) (jb7 : Nat), Go.KLib.Sub [(0, (.pointer (some ⟨b_p, 0, none⟩))), (1, (.pointer (some p_x))), (4, (.pointer (some ⟨_b4, 0, none⟩))), (6, (.pointer (some ⟨jb6, 0, none⟩))), (7, (.pointer (some ⟨jb7, 0, none⟩))), (16, (.int .i64 x.tok.kind))] lj → Ch (b_p :: (bl (.slice _A_p0 _p0.length _C_p0) ++ bl (.slice _A_p3 _p3.length _C_p3))) w _wj_75 → _w_2.heap.size ≤ _wj_75.heap.size → Ol ics 3 1 _wj_75 ju0_0 ((bpT tb ((bpT ta _p0 _p3).L) ((bpT ta _p0 _p3).F)).L) → (∀ g ∈ bl ju0_0, w.heap.size ≤ g ∨ g ∈ (b_p :: (bl (.slice _A_p0 _p0.length _C_p0) ++ bl (.slice _A_p3 _p3.length _C_p3)))) → b_p ∉ bl ju0_0 → Ol ics 3 1 _wj_75 ju0_3 ((bpT tb ((bpT ta _p0 _p3).L) ((bpT ta _p0 _p3).F)).F) → (∀ g ∈ bl ju0_3, w.heap.size ≤ g ∨ g ∈ (b_p :: (bl (.slice _A_p0 _p0.length _C_p0) ++ bl (.slice _A_p3 _p3.length _C_p3)))) → b_p ∉ bl ju0_3 → (∀ g ∈ bl ju0_0, g ∉ bl ju0_3) → Blk _wj_75 b_p t_p [ju0_0, (.int .i64 _p1), (.int .i64 _p2), ju0_3, (.bool _p4)] → Blk _wj_75 jb6 61 [(.int .i64 ((bpT ta _p0 _p3).f)), (.int .i64 ((bpT ta _p0 _p3).l)), (.bool ((bpT ta _p0 _p3).n))] → _w_2.heap.size ≤ jb6 → jb6 < _wj_75.heap.size → jb6 ∉ bl ju0_0 → jb6 ∉ bl ju0_3 → Blk _wj_75 jb7 61 [(.int .i64 ((bpT tb ((bpT ta _p0 _p3).L) ((bpT ta _p0 _p3).F)).f)), (.int .i64 ((bpT tb ((bpT ta _p0 _p3).L) ((bpT ta _p0 _p3).F)).l)), (.bool ((bpT tb ((bpT ta _p0 _p3).L) ((bpT ta _p0 _p3).F)).n))] → _w_2.heap.size ≤ jb7 → jb7 < _wj_75.heap.size → jb7 ∉ bl ju0_0 → jb7 ∉ bl ju0_3 → jb7 ≠ jb6 → At _wj_75 LT_x L_p p_x ([.int .i64 x.tok.kind, .int .i64 x.tok.letter, .int .i64 x.tok.low, .int .i64 x.tok.high, (.slice _A_x _ps_x.length _C_x)]) → Blk _wj_75 _b4 61 [(.int .i64 0), (.int .i64 0), (.bool false)] → _b4 ∉ bl ju0_0 → _b4 ∉ bl ju0_3 → _K_74 lj _wj_75 := by
     intro lj _wj_75 ju0_0 ju0_3 jb6 jb7 _jsub E szjK_74 _qju0_0 inju0_0 nbju0_0 _qju0_3 inju0_3 nbju0_3 _djju0_0ju0_3 mj0 _mjb6 _ejb6 _zjb6 _nbjb6ju0_0 _nbjb6ju0_3 _mjb7 _ejb7 _zjb7 _nbjb7ju0_0 _nbjb7ju0_3 njb7jb6 _F9_0 _F9_1 _nbz9_ju0_0_b4 _nbz9_ju0_3_b4
     refine _hK_74 _ _ (W_sub _jsub ?_)
     clear _hK_74
     have EJ_77 := E
     have EJ_77z := EJ_77.size
     obtain ⟨_Aju0_0, _Cju0_0, _eju0_0⟩ := _qju0_0.val
     subst _eju0_0
     have _lju0_0 := _qju0_0.len
     have _hiju0_0 := _qju0_0.lt
     have _loju0_0 : Lo L_p (.slice _Aju0_0 ((bpT tb ((bpT ta _p0 _p3).L) ((bpT ta _p0 _p3).F)).L).length _Cju0_0) := fun g hm => by have z2hm := _hiju0_0 _ hm; rcases inju0_0 _ hm with _z1 | _z1; (omega); (rcases List.mem_cons.1 _z1 with _z1 | _z1; (exact absurd (_z1 ▸ hm) nbju0_0); (replace hm := _z1; rcases List.mem_append.1 hm with hm | hm; (have _h1 := _ll_p0 _ hm; have _h2 := _lt_p0 _ hm; omega); (have _h1 := _ll_p3 _ hm; have _h2 := _lt_p3 _ hm; omega)))
     obtain ⟨_Aju0_3, _Cju0_3, _eju0_3⟩ := _qju0_3.val
     subst _eju0_3
     have _lju0_3 := _qju0_3.len
     have _hiju0_3 := _qju0_3.lt
     have _loju0_3 : Lo L_p (.slice _Aju0_3 ((bpT tb ((bpT ta _p0 _p3).L) ((bpT ta _p0 _p3).F)).F).length _Cju0_3) := fun g hm => by have z2hm := _hiju0_3 _ hm; rcases inju0_3 _ hm with _z1 | _z1; (omega); (rcases List.mem_cons.1 _z1 with _z1 | _z1; (exact absurd (_z1 ▸ hm) nbju0_3); (replace hm := _z1; rcases List.mem_append.1 hm with hm | hm; (have _h1 := _ll_p0 _ hm; have _h2 := _lt_p0 _ hm; omega); (have _h1 := _ll_p3 _ hm; have _h2 := _lt_p3 _ hm; omega)))
     refine W_seq fun _K_78 _hK_78 => ?_
     refine W_region ?_
     refine WL_step rfl rfl (r_fieldAddr fa61_0 rfl) ?_
     refine WL_step rfl rfl (r_loadAt _mjb6.at_ agg3 rfl rfl) ?_
     refine WL_step rfl rfl (r_fieldAddr fa61_0 rfl) ?_
     refine WL_step rfl rfl (r_loadAt _mjb7.at_ agg3 rfl rfl) ?_
     refine WL_step rfl rfl (r_or rfl rfl) ?_
     refine WL_step rfl rfl (r_fieldAddr fa61_1 rfl) ?_
     refine WL_step rfl rfl (r_loadAt _mjb6.at_ agg3 rfl rfl) ?_
     refine WL_step rfl rfl (r_fieldAddr fa61_1 rfl) ?_
     refine WL_step rfl rfl (r_loadAt _mjb7.at_ agg3 rfl rfl) ?_
     refine WL_step rfl rfl (r_or rfl rfl) ?_
     refine WL_step rfl rfl (r_fieldAddr fa61_2 rfl) ?_
     refine WL_step rfl rfl (r_loadAt _mjb6.at_ agg4 rfl rfl) ?_
     refine WL_step rfl rfl (r_move rfl) ?_
     refine WL_split (d := 84) rfl (fun _h84 => ?_) (fun _h84 => ?_)
     ·have _kb_79 := _h84
      refine WL_skip rfl rfl ?_
      refine WL_skip rfl rfl ?_
      refine WL_step rfl rfl (r_pickT rfl rfl) ?_
      refine WL_step rfl rfl (r_build (parts := [(0, .tmp 76), (1, .tmp 81), (2, .tmp 87)]) (cells := [(.int .i64 (ior ((bpT ta _p0 _p3).f) ((bpT tb ((bpT ta _p0 _p3).L) ((bpT ta _p0 _p3).F)).f))), (.int .i64 (ior ((bpT ta _p0 _p3).l) ((bpT tb ((bpT ta _p0 _p3).L) ((bpT ta _p0 _p3).F)).l))), (.bool true)]) zr61 pl61 rfl rfl) ?_
      refine WL_s rfl rfl ?_
      refine s_storeA (off := 0) 3 _F9_1 sz61 rfl (us := [(.int .i64 (ior ((bpT ta _p0 _p3).f) ((bpT tb ((bpT ta _p0 _p3).L) ((bpT ta _p0 _p3).F)).f))), (.int .i64 (ior ((bpT ta _p0 _p3).l) ((bpT tb ((bpT ta _p0 _p3).L) ((bpT ta _p0 _p3).F)).l))), (.bool true)]) rfl rfl rfl rfl fun _w_80 _m_81 _cw_80 => ?_
      have _cw_80z := _cw_80.size
      have E := E.step _cw_80 (oneL (by omega))
      replace _m_81 : Blk _w_80 _b4 61 [(.int .i64 (ior ((bpT ta _p0 _p3).f) ((bpT tb ((bpT ta _p0 _p3).L) ((bpT ta _p0 _p3).F)).f))), (.int .i64 (ior ((bpT ta _p0 _p3).l) ((bpT tb ((bpT ta _p0 _p3).L) ((bpT ta _p0 _p3).F)).l))), (.bool true)] := _m_81
      refine WL_nil ?_
      refine thn_nrm (_hK_78 _ _ ?_)
      clear _hK_78
      refine W_ret (inB_ret (thn_ret ?_))
      clear _hK_3
      have _f_82 := (mj0.ch _cw_80 (ne1 (by omega)))
      have _f_83 := (_qju0_0.ch _cw_80 (fun g hg hm => by have _h0 := mSg.1 hm; exact _nbz9_ju0_0_b4 (by first | exact hg | exact _h0 ▸ hg)))
      have _o_84 : Ol ics 3 1 _w_80 (.slice _Aju0_0 ((bpT tb ((bpT ta _p0 _p3).L) ((bpT ta _p0 _p3).F)).L).length _Cju0_0) ((bpT x _p0 _p3).L) := by
        have hx := _f_83
        exact hx.eq (by rw [eb] <;> first | rfl | exact rbA _h84 | exact rbB _h84 | exact rbC _h84 | exact rbD _h84 | exact rbE _h84 | (rw [_h84]; simp; done) | (rw [hte]; done))
      have _f_85 := (_qju0_3.ch _cw_80 (fun g hg hm => by have _h0 := mSg.1 hm; exact _nbz9_ju0_3_b4 (by first | exact hg | exact _h0 ▸ hg)))
      have _o_86 : Ol ics 3 1 _w_80 (.slice _Aju0_3 ((bpT tb ((bpT ta _p0 _p3).L) ((bpT ta _p0 _p3).F)).F).length _Cju0_3) ((bpT x _p0 _p3).F) := by
        have hx := _f_85
        exact hx.eq (by rw [eb] <;> first | rfl | exact rbA _h84 | exact rbB _h84 | exact rbC _h84 | exact rbD _h84 | exact rbE _h84 | (rw [_h84]; simp; done) | (rw [hte]; done))
      have _m_87 : Blk _w_80 b_p t_p [(.slice _Aju0_0 ((bpT tb ((bpT ta _p0 _p3).L) ((bpT ta _p0 _p3).F)).L).length _Cju0_0), .int .i64 _p1, .int .i64 _p2, (.slice _Aju0_3 ((bpT tb ((bpT ta _p0 _p3).L) ((bpT ta _p0 _p3).F)).F).length _Cju0_3), .bool _p4] := by
        have hx := _f_82
        exact hx
      exact ret_intro [_] (resOf_loadA _m_81 rfl agg61 sz61 trivial) ⟨(.slice _Aju0_0 ((bpT tb ((bpT ta _p0 _p3).L) ((bpT ta _p0 _p3).F)).L).length _Cju0_0), (.slice _Aju0_3 ((bpT tb ((bpT ta _p0 _p3).L) ((bpT ta _p0 _p3).F)).F).length _Cju0_3), (((congrArg (fun zq => (Value.agg #[.int .i64 zq, .int .i64 (ior ((bpT ta _p0 _p3).l) ((bpT tb ((bpT ta _p0 _p3).L) ((bpT ta _p0 _p3).F)).l)), .bool true])) (by rw [eb] <;> first | rfl | exact rbA _h84 | exact rbB _h84 | exact rbC _h84 | exact rbD _h84 | exact rbE _h84 | (rw [_h84]; simp; done) | (rw [hte]; done))).trans (congrArg (fun zq => (Value.agg #[.int .i64 ((bpT x _p0 _p3).f), .int .i64 zq, .bool true])) (by rw [eb] <;> first | rfl | exact rbA _h84 | exact rbB _h84 | exact rbC _h84 | exact rbD _h84 | exact rbE _h84 | (rw [_h84]; simp; done) | (rw [hte]; done)))).trans (congrArg (fun zq => (Value.agg #[.int .i64 ((bpT x _p0 _p3).f), .int .i64 ((bpT x _p0 _p3).l), .bool zq])) (by rw [eb] <;> first | rfl | exact rbA _h84 | exact rbB _h84 | exact rbC _h84 | exact rbD _h84 | exact rbE _h84 | (rw [_h84]; simp; done) | (rw [hte]; done)))), _m_87, _o_84, (fun g hm => by exact inju0_0 _ hm), nbju0_0, _o_86, (fun g hm => by exact inju0_3 _ hm), nbju0_3, _djju0_0ju0_3, E⟩
     ·have _kb_79 := _h84
      refine WL_step rfl rfl (r_fieldAddr fa61_2 rfl) ?_
      refine WL_step rfl rfl (r_loadAt _mjb7.at_ agg4 rfl rfl) ?_
      refine WL_step rfl rfl (r_pickF rfl rfl) ?_
      refine WL_step rfl rfl (r_build (parts := [(0, .tmp 76), (1, .tmp 81), (2, .tmp 87)]) (cells := [(.int .i64 (ior ((bpT ta _p0 _p3).f) ((bpT tb ((bpT ta _p0 _p3).L) ((bpT ta _p0 _p3).F)).f))), (.int .i64 (ior ((bpT ta _p0 _p3).l) ((bpT tb ((bpT ta _p0 _p3).L) ((bpT ta _p0 _p3).F)).l))), (.bool ((bpT tb ((bpT ta _p0 _p3).L) ((bpT ta _p0 _p3).F)).n))]) zr61 pl61 rfl rfl) ?_
      refine WL_s rfl rfl ?_
      refine s_storeA (off := 0) 3 _F9_1 sz61 rfl (us := [(.int .i64 (ior ((bpT ta _p0 _p3).f) ((bpT tb ((bpT ta _p0 _p3).L) ((bpT ta _p0 _p3).F)).f))), (.int .i64 (ior ((bpT ta _p0 _p3).l) ((bpT tb ((bpT ta _p0 _p3).L) ((bpT ta _p0 _p3).F)).l))), (.bool ((bpT tb ((bpT ta _p0 _p3).L) ((bpT ta _p0 _p3).F)).n))]) rfl rfl rfl rfl fun _w_88 _m_89 _cw_88 => ?_
      have _cw_88z := _cw_88.size
      have E := E.step _cw_88 (oneL (by omega))
      replace _m_89 : Blk _w_88 _b4 61 [(.int .i64 (ior ((bpT ta _p0 _p3).f) ((bpT tb ((bpT ta _p0 _p3).L) ((bpT ta _p0 _p3).F)).f))), (.int .i64 (ior ((bpT ta _p0 _p3).l) ((bpT tb ((bpT ta _p0 _p3).L) ((bpT ta _p0 _p3).F)).l))), (.bool ((bpT tb ((bpT ta _p0 _p3).L) ((bpT ta _p0 _p3).F)).n))] := _m_89
      refine WL_nil ?_
      refine thn_nrm (_hK_78 _ _ ?_)
      clear _hK_78
      refine W_ret (inB_ret (thn_ret ?_))
      clear _hK_3
      have _f_90 := (mj0.ch _cw_88 (ne1 (by omega)))
      have _f_91 := (_qju0_0.ch _cw_88 (fun g hg hm => by have _h0 := mSg.1 hm; exact _nbz9_ju0_0_b4 (by first | exact hg | exact _h0 ▸ hg)))
      have _o_92 : Ol ics 3 1 _w_88 (.slice _Aju0_0 ((bpT tb ((bpT ta _p0 _p3).L) ((bpT ta _p0 _p3).F)).L).length _Cju0_0) ((bpT x _p0 _p3).L) := by
        have hx := _f_91
        exact hx.eq (by rw [eb] <;> first | rfl | exact rbA _h84 | exact rbB _h84 | exact rbC _h84 | exact rbD _h84 | exact rbE _h84 | (rw [_h84]; simp; done) | (rw [hte]; done))
      have _f_93 := (_qju0_3.ch _cw_88 (fun g hg hm => by have _h0 := mSg.1 hm; exact _nbz9_ju0_3_b4 (by first | exact hg | exact _h0 ▸ hg)))
      have _o_94 : Ol ics 3 1 _w_88 (.slice _Aju0_3 ((bpT tb ((bpT ta _p0 _p3).L) ((bpT ta _p0 _p3).F)).F).length _Cju0_3) ((bpT x _p0 _p3).F) := by
        have hx := _f_93
        exact hx.eq (by rw [eb] <;> first | rfl | exact rbA _h84 | exact rbB _h84 | exact rbC _h84 | exact rbD _h84 | exact rbE _h84 | (rw [_h84]; simp; done) | (rw [hte]; done))
      have _m_95 : Blk _w_88 b_p t_p [(.slice _Aju0_0 ((bpT tb ((bpT ta _p0 _p3).L) ((bpT ta _p0 _p3).F)).L).length _Cju0_0), .int .i64 _p1, .int .i64 _p2, (.slice _Aju0_3 ((bpT tb ((bpT ta _p0 _p3).L) ((bpT ta _p0 _p3).F)).F).length _Cju0_3), .bool _p4] := by
        have hx := _f_90
        exact hx
      exact ret_intro [_] (resOf_loadA _m_89 rfl agg61 sz61 trivial) ⟨(.slice _Aju0_0 ((bpT tb ((bpT ta _p0 _p3).L) ((bpT ta _p0 _p3).F)).L).length _Cju0_0), (.slice _Aju0_3 ((bpT tb ((bpT ta _p0 _p3).L) ((bpT ta _p0 _p3).F)).F).length _Cju0_3), (((congrArg (fun zq => (Value.agg #[.int .i64 zq, .int .i64 (ior ((bpT ta _p0 _p3).l) ((bpT tb ((bpT ta _p0 _p3).L) ((bpT ta _p0 _p3).F)).l)), .bool ((bpT tb ((bpT ta _p0 _p3).L) ((bpT ta _p0 _p3).F)).n)])) (by rw [eb] <;> first | rfl | exact rbA _h84 | exact rbB _h84 | exact rbC _h84 | exact rbD _h84 | exact rbE _h84 | (rw [_h84]; simp; done) | (rw [hte]; done))).trans (congrArg (fun zq => (Value.agg #[.int .i64 ((bpT x _p0 _p3).f), .int .i64 zq, .bool ((bpT tb ((bpT ta _p0 _p3).L) ((bpT ta _p0 _p3).F)).n)])) (by rw [eb] <;> first | rfl | exact rbA _h84 | exact rbB _h84 | exact rbC _h84 | exact rbD _h84 | exact rbE _h84 | (rw [_h84]; simp; done) | (rw [hte]; done)))).trans (congrArg (fun zq => (Value.agg #[.int .i64 ((bpT x _p0 _p3).f), .int .i64 ((bpT x _p0 _p3).l), .bool zq])) (by rw [eb] <;> first | rfl | exact rbA _h84 | exact rbB _h84 | exact rbC _h84 | exact rbD _h84 | exact rbE _h84 | (rw [_h84]; simp; done) | (rw [hte]; done)))), _m_95, _o_92, (fun g hm => by exact inju0_0 _ hm), nbju0_0, _o_94, (fun g hm => by exact inju0_3 _ hm), nbju0_3, _djju0_0ju0_3, E⟩
    clear _hK_74
    refine W_drawC ([b_p] ++ (bl (.slice _A_p0 _p0.length _C_p0)) ++ (bl (.slice _A_p3 _p3.length _C_p3))) 20 mixed rfl fun _w_96 _cw_96 => ?_
    have _cw_96z := _cw_96.size
    have E := E.trans _cw_96.of_nil
    refine DR_s 0 rfl (by kernel_rfl) rfl rfl (t_v (fun _ => (r_move rfl)) ?_)
    refine DR_s 1 rfl (by kernel_rfl) rfl rfl (t_v (fun _ => (r_move rfl)) ?_)
    refine DR_s 2 rfl (by kernel_rfl) rfl rfl (t_v (fun _ => (r_nilCheck rfl)) ?_)
    refine DR_s 3 rfl (by kernel_rfl) rfl rfl (t_v (fun _ => (r_fieldAddr fa78_1 rfl)) ?_)
    have _f_97 := (_f_5.ch0 _cw_96)
    refine DR_s 4 rfl (by kernel_rfl) rfl rfl (t_loadAt _f_97 (fun i hm => by rcases List.mem_append.1 hm with hm | hm; (rcases List.mem_append.1 hm with hm | hm; (have _h1 := mSg.1 hm; omega); (have _h1 := _ll_p0 _ hm; have _h2 := _lt_p0 _ hm; omega)); (have _h1 := _ll_p3 _ hm; have _h2 := _lt_p3 _ hm; omega)) agg74 rfl rfl ?_)
    have _f_98 := ((_hk_x.ch0 _cw_2).ch0 _cw_96)
    have _f_99 := ((_kd_x.ch0 _cw_2).ch0 _cw_96)
    refine DR_s 5 rfl (by kernel_rfl) rfl rfl (t_index (j := 0) _f_98 acs_len el74 sz49 rfl rfl rfl (by omega) fun _p61 _y61 _hy61 _a61 => ?_)
    have ht61 := _hk0
    have _tr61 := _f_99.2 _ _ _ _hy61 _hk0
    obtain ⟨_A_61, _C_61, _ps_61, _hc_61, _hk_61, _kd_61⟩ := _tr61.open
    have _kl_61 := _kd_61.1
    replace _a61 : At _w_96 LT_x L_p _p61 ([(.pointer (some _y61))]) := _a61
    refine DR_s 6 rfl (by kernel_rfl) rfl rfl (t_loadAt0 _a61 (fun i hm => by rcases List.mem_append.1 hm with hm | hm; (rcases List.mem_append.1 hm with hm | hm; (have _h1 := mSg.1 hm; omega); (have _h1 := _ll_p0 _ hm; have _h2 := _lt_p0 _ hm; omega)); (have _h1 := _ll_p3 _ hm; have _h2 := _lt_p3 _ hm; omega)) agg49 rfl rfl ?_)
    refine DR_s 8 rfl (by kernel_rfl) rfl rfl (t_v (fun _ => (r_move rfl)) ?_)
    refine DR_s 9 rfl (by kernel_rfl) rfl rfl (t_v (fun _ => (r_move rfl)) ?_)
    refine DR_s 10 rfl (by kernel_rfl) rfl rfl (t_v (fun _ => (r_nilCheck rfl)) ?_)
    refine DR_s 11 rfl (by kernel_rfl) rfl rfl (t_v (fun _ => (r_fieldAddr fa78_1 rfl)) ?_)
    refine DR_s 12 rfl (by kernel_rfl) rfl rfl (t_loadAt _f_97 (fun i hm => by rcases List.mem_append.1 hm with hm | hm; (rcases List.mem_append.1 hm with hm | hm; (have _h1 := mSg.1 hm; omega); (have _h1 := _ll_p0 _ hm; have _h2 := _lt_p0 _ hm; omega)); (have _h1 := _ll_p3 _ hm; have _h2 := _lt_p3 _ hm; omega)) agg74 rfl rfl ?_)
    refine DR_s 13 rfl (by kernel_rfl) rfl rfl (t_index (j := 1) _f_98 acs_len el74 sz49 rfl rfl rfl (by omega) fun _p69 _y69 _hy69 _a69 => ?_)
    have ht69 := _hk1
    have _tr69 := _f_99.2 _ _ _ _hy69 _hk1
    obtain ⟨_A_69, _C_69, _ps_69, _hc_69, _hk_69, _kd_69⟩ := _tr69.open
    have _kl_69 := _kd_69.1
    replace _a69 : At _w_96 LT_x L_p _p69 ([(.pointer (some _y69))]) := _a69
    refine DR_s 14 rfl (by kernel_rfl) rfl rfl (t_loadAt0 _a69 (fun i hm => by rcases List.mem_append.1 hm with hm | hm; (rcases List.mem_append.1 hm with hm | hm; (have _h1 := mSg.1 hm; omega); (have _h1 := _ll_p0 _ hm; have _h2 := _lt_p0 _ hm; omega)); (have _h1 := _ll_p3 _ hm; have _h2 := _lt_p3 _ hm; omega)) agg49 rfl rfl ?_)
    refine DR_three 7 16 17 (by kernel_rfl) ?_ ?_ ?_
    ·refine DO_s rfl rfl rfl ?_
     have _f_100 := ((m_p.ch0 _cw_2).ch0 _cw_96)
     have _f_101 := ((_h_p0.ch0 _cw_2).ch0 _cw_96)
     have _f_102 := ((_h_p3.ch0 _cw_2).ch0 _cw_96)
     refine Step.call (r_call (xs := [.tmp 56, .tmp 62]) fk31 rfl) (ih _f_100 _f_101 _nb_p0 (Lo.down _ll_p0 (by omega)) _f_102 _nb_p3 (Lo.down _ll_p3 (by omega)) _dj_p0_p3 _tr61 (by omega) (by omega) oa ⟨by omega, by omega⟩ (by omega)) fun _v63 _w_103 _q63 => ?_
     obtain ⟨_z63_0, _z63_3, rfl, _m63, _qz63_0, _inz63_0, _nbz63_0, _qz63_3, _inz63_3, _nbz63_3, _djz63_0z63_3, _cw_103⟩ := _q63
     have _cw_103z := _cw_103.size
     have E := E.step _cw_103 (fun i hm => by rcases List.mem_cons.1 hm with _h0 | hm; (right; exact _h0 ▸ List.mem_cons_self ..); (rcases List.mem_append.1 hm with hm | hm; (exact (.inr (mCo _ (mAL _ hm)))); (exact (.inr (mCo _ (mAR _ hm))))))
     obtain ⟨Az63_0, Cz63_0, ez63_0⟩ := _qz63_0.val
     subst ez63_0
     have lz63_0 := _qz63_0.len
     have hiz63_0 := _qz63_0.lt
     have _loz63_0 : Lo L_p (.slice Az63_0 ((bpT ta _p0 _p3).L).length Cz63_0) := loOld _inz63_0 _nbz63_0 (by omega) (all2 _ll_p0 _ll_p3)
     obtain ⟨Az63_3, Cz63_3, ez63_3⟩ := _qz63_3.val
     subst ez63_3
     have lz63_3 := _qz63_3.len
     have hiz63_3 := _qz63_3.lt
     have _loz63_3 : Lo L_p (.slice Az63_3 ((bpT ta _p0 _p3).F).length Cz63_3) := loOld _inz63_3 _nbz63_3 (by omega) (all2 _ll_p0 _ll_p3)
     have nQ63_0_4 := nbOld _inz63_0 _nbz63_0 (show _b4 < _ by omega) (nin2 (no_in _ll_p0 _lt_p0 (by omega)) (no_in _ll_p3 _lt_p3 (by omega)))
     have iQ63_0 := inOldE E _inz63_0 _nbz63_0 (by omega) (all2 (fun g hm => (.inr (mCo _ (mAL _ hm)))) (fun g hm => (.inr (mCo _ (mAR _ hm)))))
     have nQ63_3_4 := nbOld _inz63_3 _nbz63_3 (show _b4 < _ by omega) (nin2 (no_in _ll_p0 _lt_p0 (by omega)) (no_in _ll_p3 _lt_p3 (by omega)))
     have iQ63_3 := inOldE E _inz63_3 _nbz63_3 (by omega) (all2 (fun g hm => (.inr (mCo _ (mAL _ hm)))) (fun g hm => (.inr (mCo _ (mAR _ hm)))))
     replace _m63 : Blk _w_103 b_p t_p [(.slice Az63_0 ((bpT ta _p0 _p3).L).length Cz63_0), (.int .i64 _p1), (.int .i64 _p2), (.slice Az63_3 ((bpT ta _p0 _p3).F).length Cz63_3), (.bool _p4)] := _m63
     have _S_104 : Ch ([b_p] ++ (bl (.slice _A_p0 _p0.length _C_p0)) ++ (bl (.slice _A_p3 _p3.length _C_p3))) _w_96 _w_103 := ((Ch.refl _ _).step _cw_103 (all3 (.inr (mAL _ (mAL _ (mSg.2 rfl)))) (fun i hm => .inr (mAL _ (mAR _ hm))) (fun i hm => .inr (mAR _ hm))))
     refine ⟨_S_104, ?_⟩
     refine DR_three 15 16 17 (by kernel_rfl) ?_ ?_ ?_
     ·refine DO_s rfl rfl rfl ?_
      have _f_105 := (_tr69.ch _cw_103 (lwr3 (by omega) _ll_p0 (by omega) _ll_p3 (by omega)))
      refine Step.call (r_call (xs := [.tmp 64, .tmp 70]) fk31 rfl) (ih _m63 _qz63_0 _nbz63_0 (Lo.down _loz63_0 (by omega)) _qz63_3 _nbz63_3 (Lo.down _loz63_3 (by omega)) _djz63_0z63_3 _f_105 (by omega) (by omega) ob ⟨by omega, by omega⟩ (by omega)) fun _v71 _w_106 _q71 => ?_
      obtain ⟨_z71_0, _z71_3, rfl, _m71, _qz71_0, _inz71_0, _nbz71_0, _qz71_3, _inz71_3, _nbz71_3, _djz71_0z71_3, _cw_106⟩ := _q71
      have _cw_106z := _cw_106.size
      have E := E.step _cw_106 (fun i hm => by rcases List.mem_cons.1 hm with _h0 | hm; (right; exact _h0 ▸ List.mem_cons_self ..); (rcases List.mem_append.1 hm with hm | hm; (exact (iQ63_0 _ hm)); (exact (iQ63_3 _ hm))))
      obtain ⟨Az71_0, Cz71_0, ez71_0⟩ := _qz71_0.val
      subst ez71_0
      have lz71_0 := _qz71_0.len
      have hiz71_0 := _qz71_0.lt
      have _loz71_0 : Lo L_p (.slice Az71_0 ((bpT tb ((bpT ta _p0 _p3).L) ((bpT ta _p0 _p3).F)).L).length Cz71_0) := loOld _inz71_0 _nbz71_0 (by omega) (all2 _loz63_0 _loz63_3)
      obtain ⟨Az71_3, Cz71_3, ez71_3⟩ := _qz71_3.val
      subst ez71_3
      have lz71_3 := _qz71_3.len
      have hiz71_3 := _qz71_3.lt
      have _loz71_3 : Lo L_p (.slice Az71_3 ((bpT tb ((bpT ta _p0 _p3).L) ((bpT ta _p0 _p3).F)).F).length Cz71_3) := loOld _inz71_3 _nbz71_3 (by omega) (all2 _loz63_0 _loz63_3)
      have nQ71_0_4 := nbOld _inz71_0 _nbz71_0 (show _b4 < _ by omega) (nin2 nQ63_0_4 nQ63_3_4)
      have iQ71_0 := inOldE E _inz71_0 _nbz71_0 (by omega) (all2 (fun g hm => (iQ63_0 _ hm)) (fun g hm => (iQ63_3 _ hm)))
      have nQ71_3_4 := nbOld _inz71_3 _nbz71_3 (show _b4 < _ by omega) (nin2 nQ63_0_4 nQ63_3_4)
      have iQ71_3 := inOldE E _inz71_3 _nbz71_3 (by omega) (all2 (fun g hm => (iQ63_0 _ hm)) (fun g hm => (iQ63_3 _ hm)))
      replace _m71 : Blk _w_106 b_p t_p [(.slice Az71_0 ((bpT tb ((bpT ta _p0 _p3).L) ((bpT ta _p0 _p3).F)).L).length Cz71_0), (.int .i64 _p1), (.int .i64 _p2), (.slice Az71_3 ((bpT tb ((bpT ta _p0 _p3).L) ((bpT ta _p0 _p3).F)).F).length Cz71_3), (.bool _p4)] := _m71
      have _S_107 := (_S_104.step _cw_106 (all3 (.inr (mAL _ (mAL _ (mSg.2 rfl)))) (inCall _inz63_0 (by omega) (.inr (mAL _ (mAL _ (mSg.2 rfl)))) (fun i hm => .inr (mAL _ (mAR _ hm))) (fun i hm => .inr (mAR _ hm))) (inCall _inz63_3 (by omega) (.inr (mAL _ (mAL _ (mSg.2 rfl)))) (fun i hm => .inr (mAL _ (mAR _ hm))) (fun i hm => .inr (mAR _ hm)))))
      refine ⟨_S_107, ?_⟩
      refine DR_two 16 17 (by kernel_rfl) ?_ ?_
      ·refine DO_s rfl rfl rfl ?_
       refine s_alloc zr61 fun _b6 _w_108 _m6 _cw_108 _e6 => ?_
       have _cw_108z := _cw_108.size
       have E := E.trans _cw_108.of_nil
       have _z6 := _m6.lt
       replace _m6 : Blk _w_108 _b6 61 [(.int .i64 0), (.int .i64 0), (.bool false)] := _m6
       have _S_109 := (_S_107.trans _cw_108.of_nil)
       refine ⟨_S_109, ?_⟩
       refine DR_one 17 (by kernel_rfl) ?_
       refine DO_s rfl rfl rfl ?_
       refine s_alloc zr61 fun _b7 _w_110 _m7 _cw_110 _e7 => ?_
       have _cw_110z := _cw_110.size
       have E := E.trans _cw_110.of_nil
       have _z7 := _m7.lt
       replace _m7 : Blk _w_110 _b7 61 [(.int .i64 0), (.int .i64 0), (.bool false)] := _m7
       have _S_111 := (_S_109.trans _cw_110.of_nil)
       refine ⟨_S_111, ?_⟩
       refine DR_one 18 (by kernel_rfl) ?_
       refine DO_s rfl rfl rfl ?_
       have _f_112 := (_m6.ch0 _cw_110)
       refine s_storeA (off := 0) 3 _f_112 sz61 rfl (us := [(.int .i64 ((bpT ta _p0 _p3).f)), (.int .i64 ((bpT ta _p0 _p3).l)), (.bool ((bpT ta _p0 _p3).n))]) rfl rfl rfl rfl fun _w_113 _m_114 _cw_113 => ?_
       have _cw_113z := _cw_113.size
       have E := E.step _cw_113 (oneL (by omega))
       replace _m_114 : Blk _w_113 _b6 61 [(.int .i64 ((bpT ta _p0 _p3).f)), (.int .i64 ((bpT ta _p0 _p3).l)), (.bool ((bpT ta _p0 _p3).n))] := _m_114
       have _S_115 := (_S_111.step _cw_113 (oneL (by omega)))
       refine ⟨_S_115, ?_⟩
       refine DR_one 19 (by kernel_rfl) ?_
       refine DO_s rfl rfl rfl ?_
       have _f_116 := (_m7.ch _cw_113 (ne1 (by omega)))
       refine s_storeA (off := 0) 3 _f_116 sz61 rfl (us := [(.int .i64 ((bpT tb ((bpT ta _p0 _p3).L) ((bpT ta _p0 _p3).F)).f)), (.int .i64 ((bpT tb ((bpT ta _p0 _p3).L) ((bpT ta _p0 _p3).F)).l)), (.bool ((bpT tb ((bpT ta _p0 _p3).L) ((bpT ta _p0 _p3).F)).n))]) rfl rfl rfl rfl fun _w_117 _m_118 _cw_117 => ?_
       have _cw_117z := _cw_117.size
       have E := E.step _cw_117 (oneL (by omega))
       replace _m_118 : Blk _w_117 _b7 61 [(.int .i64 ((bpT tb ((bpT ta _p0 _p3).L) ((bpT ta _p0 _p3).F)).f)), (.int .i64 ((bpT tb ((bpT ta _p0 _p3).L) ((bpT ta _p0 _p3).F)).l)), (.bool ((bpT tb ((bpT ta _p0 _p3).L) ((bpT ta _p0 _p3).F)).n))] := _m_118
       have _S_119 := (_S_115.step _cw_117 (oneL (by omega)))
       refine ⟨_S_119, ?_⟩
       refine DR_done (by kernel_rfl) ?_
       refine thn_nrm ?_
       have _f_120 := ((((_qz71_0.ch0 _cw_108).ch0 _cw_110).ch _cw_113 (fun g hg hm => by have _h0 := mSg.1 hm; have _h2 := _loz71_0 _ hg; have _h3 := hiz71_0 _ hg; omega)).ch _cw_117 (fun g hg hm => by have _h0 := mSg.1 hm; have _h2 := _loz71_0 _ hg; have _h3 := hiz71_0 _ hg; omega))
       have _f_121 := ((((_qz71_3.ch0 _cw_108).ch0 _cw_110).ch _cw_113 (fun g hg hm => by have _h0 := mSg.1 hm; have _h2 := _loz71_3 _ hg; have _h3 := hiz71_3 _ hg; omega)).ch _cw_117 (fun g hg hm => by have _h0 := mSg.1 hm; have _h2 := _loz71_3 _ hg; have _h3 := hiz71_3 _ hg; omega))
       have _f_122 := ((((_m71.ch0 _cw_108).ch0 _cw_110).ch _cw_113 (ne1 (by omega))).ch _cw_117 (ne1 (by omega)))
       have _f_123 := (_m_114.ch _cw_117 (ne1 (by omega)))
       have _f_124 := ((((((_f_97.ch _cw_103 (lwr3 (by omega) _ll_p0 (by omega) _ll_p3 (by omega))).ch _cw_106 (lwr3 (by omega) _loz63_0 (by omega) _loz63_3 (by omega))).ch0 _cw_108).ch0 _cw_110).ch _cw_113 (tfr1 (by omega))).ch _cw_117 (tfr1 (by omega)))
       have _f_125 := (((((((_m4.ch0 _cw_96).ch _cw_103 (nin3 (by omega) (no_hi _lt_p0 (by omega)) (no_hi _lt_p3 (by omega)))).ch _cw_106 (nin3 (by omega) nQ63_0_4 nQ63_3_4)).ch0 _cw_108).ch0 _cw_110).ch _cw_113 (ne1 (by omega))).ch _cw_117 (ne1 (by omega)))
       exact _J_76 _ _ _ _ _b6 _b7 (Sub.cons rfl (Sub.cons rfl (Sub.cons rfl (Sub.cons rfl (Sub.cons rfl (Sub.cons rfl (Sub.nil _))))))) E (by omega) _f_120 iQ71_0 _nbz71_0 _f_121 iQ71_3 _nbz71_3 _djz71_0z71_3 _f_122 _f_123 (by omega) (by omega) (no_in _loz71_0 hiz71_0 (by omega)) (no_in _loz71_3 hiz71_3 (by omega)) _m_118 (by omega) (by omega) (no_in _loz71_0 hiz71_0 (by omega)) (no_in _loz71_3 hiz71_3 (by omega)) (by omega) _f_124 _f_125 nQ71_0_4 nQ71_3_4
      ·refine DO_s rfl rfl rfl ?_
       refine s_alloc zr61 fun _b7 _w_126 _m7 _cw_126 _e7 => ?_
       have _cw_126z := _cw_126.size
       have E := E.trans _cw_126.of_nil
       have _z7 := _m7.lt
       replace _m7 : Blk _w_126 _b7 61 [(.int .i64 0), (.int .i64 0), (.bool false)] := _m7
       have _S_127 := (_S_107.trans _cw_126.of_nil)
       refine ⟨_S_127, ?_⟩
       refine DR_one 16 (by kernel_rfl) ?_
       refine DO_s rfl rfl rfl ?_
       refine s_alloc zr61 fun _b6 _w_128 _m6 _cw_128 _e6 => ?_
       have _cw_128z := _cw_128.size
       have E := E.trans _cw_128.of_nil
       have _z6 := _m6.lt
       replace _m6 : Blk _w_128 _b6 61 [(.int .i64 0), (.int .i64 0), (.bool false)] := _m6
       have _S_129 := (_S_127.trans _cw_128.of_nil)
       refine ⟨_S_129, ?_⟩
       refine DR_one 18 (by kernel_rfl) ?_
       refine DO_s rfl rfl rfl ?_
       refine s_storeA (off := 0) 3 _m6 sz61 rfl (us := [(.int .i64 ((bpT ta _p0 _p3).f)), (.int .i64 ((bpT ta _p0 _p3).l)), (.bool ((bpT ta _p0 _p3).n))]) rfl rfl rfl rfl fun _w_130 _m_131 _cw_130 => ?_
       have _cw_130z := _cw_130.size
       have E := E.step _cw_130 (oneL (by omega))
       replace _m_131 : Blk _w_130 _b6 61 [(.int .i64 ((bpT ta _p0 _p3).f)), (.int .i64 ((bpT ta _p0 _p3).l)), (.bool ((bpT ta _p0 _p3).n))] := _m_131
       have _S_132 := (_S_129.step _cw_130 (oneL (by omega)))
       refine ⟨_S_132, ?_⟩
       refine DR_one 19 (by kernel_rfl) ?_
       refine DO_s rfl rfl rfl ?_
       have _f_133 := ((_m7.ch0 _cw_128).ch _cw_130 (ne1 (by omega)))
       refine s_storeA (off := 0) 3 _f_133 sz61 rfl (us := [(.int .i64 ((bpT tb ((bpT ta _p0 _p3).L) ((bpT ta _p0 _p3).F)).f)), (.int .i64 ((bpT tb ((bpT ta _p0 _p3).L) ((bpT ta _p0 _p3).F)).l)), (.bool ((bpT tb ((bpT ta _p0 _p3).L) ((bpT ta _p0 _p3).F)).n))]) rfl rfl rfl rfl fun _w_134 _m_135 _cw_134 => ?_
       have _cw_134z := _cw_134.size
       have E := E.step _cw_134 (oneL (by omega))
       replace _m_135 : Blk _w_134 _b7 61 [(.int .i64 ((bpT tb ((bpT ta _p0 _p3).L) ((bpT ta _p0 _p3).F)).f)), (.int .i64 ((bpT tb ((bpT ta _p0 _p3).L) ((bpT ta _p0 _p3).F)).l)), (.bool ((bpT tb ((bpT ta _p0 _p3).L) ((bpT ta _p0 _p3).F)).n))] := _m_135
       have _S_136 := (_S_132.step _cw_134 (oneL (by omega)))
       refine ⟨_S_136, ?_⟩
       refine DR_done (by kernel_rfl) ?_
       refine thn_nrm ?_
       have _f_137 := ((((_qz71_0.ch0 _cw_126).ch0 _cw_128).ch _cw_130 (fun g hg hm => by have _h0 := mSg.1 hm; have _h2 := _loz71_0 _ hg; have _h3 := hiz71_0 _ hg; omega)).ch _cw_134 (fun g hg hm => by have _h0 := mSg.1 hm; have _h2 := _loz71_0 _ hg; have _h3 := hiz71_0 _ hg; omega))
       have _f_138 := ((((_qz71_3.ch0 _cw_126).ch0 _cw_128).ch _cw_130 (fun g hg hm => by have _h0 := mSg.1 hm; have _h2 := _loz71_3 _ hg; have _h3 := hiz71_3 _ hg; omega)).ch _cw_134 (fun g hg hm => by have _h0 := mSg.1 hm; have _h2 := _loz71_3 _ hg; have _h3 := hiz71_3 _ hg; omega))
       have _f_139 := ((((_m71.ch0 _cw_126).ch0 _cw_128).ch _cw_130 (ne1 (by omega))).ch _cw_134 (ne1 (by omega)))
       have _f_140 := (_m_131.ch _cw_134 (ne1 (by omega)))
       have _f_141 := ((((((_f_97.ch _cw_103 (lwr3 (by omega) _ll_p0 (by omega) _ll_p3 (by omega))).ch _cw_106 (lwr3 (by omega) _loz63_0 (by omega) _loz63_3 (by omega))).ch0 _cw_126).ch0 _cw_128).ch _cw_130 (tfr1 (by omega))).ch _cw_134 (tfr1 (by omega)))
       have _f_142 := (((((((_m4.ch0 _cw_96).ch _cw_103 (nin3 (by omega) (no_hi _lt_p0 (by omega)) (no_hi _lt_p3 (by omega)))).ch _cw_106 (nin3 (by omega) nQ63_0_4 nQ63_3_4)).ch0 _cw_126).ch0 _cw_128).ch _cw_130 (ne1 (by omega))).ch _cw_134 (ne1 (by omega)))
       exact _J_76 _ _ _ _ _b6 _b7 (Sub.cons rfl (Sub.cons rfl (Sub.cons rfl (Sub.cons rfl (Sub.cons rfl (Sub.cons rfl (Sub.nil _))))))) E (by omega) _f_137 iQ71_0 _nbz71_0 _f_138 iQ71_3 _nbz71_3 _djz71_0z71_3 _f_139 _f_140 (by omega) (by omega) (no_in _loz71_0 hiz71_0 (by omega)) (no_in _loz71_3 hiz71_3 (by omega)) _m_135 (by omega) (by omega) (no_in _loz71_0 hiz71_0 (by omega)) (no_in _loz71_3 hiz71_3 (by omega)) (by omega) _f_141 _f_142 nQ71_0_4 nQ71_3_4
     ·refine DO_s rfl rfl rfl ?_
      refine s_alloc zr61 fun _b6 _w_143 _m6 _cw_143 _e6 => ?_
      have _cw_143z := _cw_143.size
      have E := E.trans _cw_143.of_nil
      have _z6 := _m6.lt
      replace _m6 : Blk _w_143 _b6 61 [(.int .i64 0), (.int .i64 0), (.bool false)] := _m6
      have _S_144 := (_S_104.trans _cw_143.of_nil)
      refine ⟨_S_144, ?_⟩
      refine DR_two 15 17 (by kernel_rfl) ?_ ?_
      ·refine DO_s rfl rfl rfl ?_
       have _f_145 := (_m63.ch0 _cw_143)
       have _f_146 := (_qz63_0.ch0 _cw_143)
       have _f_147 := (_qz63_3.ch0 _cw_143)
       have _f_148 := ((_tr69.ch _cw_103 (lwr3 (by omega) _ll_p0 (by omega) _ll_p3 (by omega))).ch0 _cw_143)
       refine Step.call (r_call (xs := [.tmp 64, .tmp 70]) fk31 rfl) (ih _f_145 _f_146 _nbz63_0 (Lo.down _loz63_0 (by omega)) _f_147 _nbz63_3 (Lo.down _loz63_3 (by omega)) _djz63_0z63_3 _f_148 (by omega) (by omega) ob ⟨by omega, by omega⟩ (by omega)) fun _v71 _w_149 _q71 => ?_
       obtain ⟨_z71_0, _z71_3, rfl, _m71, _qz71_0, _inz71_0, _nbz71_0, _qz71_3, _inz71_3, _nbz71_3, _djz71_0z71_3, _cw_149⟩ := _q71
       have _cw_149z := _cw_149.size
       have E := E.step _cw_149 (fun i hm => by rcases List.mem_cons.1 hm with _h0 | hm; (right; exact _h0 ▸ List.mem_cons_self ..); (rcases List.mem_append.1 hm with hm | hm; (exact (iQ63_0 _ hm)); (exact (iQ63_3 _ hm))))
       obtain ⟨Az71_0, Cz71_0, ez71_0⟩ := _qz71_0.val
       subst ez71_0
       have lz71_0 := _qz71_0.len
       have hiz71_0 := _qz71_0.lt
       have _loz71_0 : Lo L_p (.slice Az71_0 ((bpT tb ((bpT ta _p0 _p3).L) ((bpT ta _p0 _p3).F)).L).length Cz71_0) := loOld _inz71_0 _nbz71_0 (by omega) (all2 _loz63_0 _loz63_3)
       obtain ⟨Az71_3, Cz71_3, ez71_3⟩ := _qz71_3.val
       subst ez71_3
       have lz71_3 := _qz71_3.len
       have hiz71_3 := _qz71_3.lt
       have _loz71_3 : Lo L_p (.slice Az71_3 ((bpT tb ((bpT ta _p0 _p3).L) ((bpT ta _p0 _p3).F)).F).length Cz71_3) := loOld _inz71_3 _nbz71_3 (by omega) (all2 _loz63_0 _loz63_3)
       have nQ71_0_4 := nbOld _inz71_0 _nbz71_0 (show _b4 < _ by omega) (nin2 nQ63_0_4 nQ63_3_4)
       have nQ71_0_6 := nbOld _inz71_0 _nbz71_0 (show _b6 < _ by omega) (nin2 (no_in _loz63_0 hiz63_0 (by omega)) (no_in _loz63_3 hiz63_3 (by omega)))
       have iQ71_0 := inOldE E _inz71_0 _nbz71_0 (by omega) (all2 (fun g hm => (iQ63_0 _ hm)) (fun g hm => (iQ63_3 _ hm)))
       have nQ71_3_4 := nbOld _inz71_3 _nbz71_3 (show _b4 < _ by omega) (nin2 nQ63_0_4 nQ63_3_4)
       have nQ71_3_6 := nbOld _inz71_3 _nbz71_3 (show _b6 < _ by omega) (nin2 (no_in _loz63_0 hiz63_0 (by omega)) (no_in _loz63_3 hiz63_3 (by omega)))
       have iQ71_3 := inOldE E _inz71_3 _nbz71_3 (by omega) (all2 (fun g hm => (iQ63_0 _ hm)) (fun g hm => (iQ63_3 _ hm)))
       replace _m71 : Blk _w_149 b_p t_p [(.slice Az71_0 ((bpT tb ((bpT ta _p0 _p3).L) ((bpT ta _p0 _p3).F)).L).length Cz71_0), (.int .i64 _p1), (.int .i64 _p2), (.slice Az71_3 ((bpT tb ((bpT ta _p0 _p3).L) ((bpT ta _p0 _p3).F)).F).length Cz71_3), (.bool _p4)] := _m71
       have _S_150 := (_S_144.step _cw_149 (all3 (.inr (mAL _ (mAL _ (mSg.2 rfl)))) (inCall _inz63_0 (by omega) (.inr (mAL _ (mAL _ (mSg.2 rfl)))) (fun i hm => .inr (mAL _ (mAR _ hm))) (fun i hm => .inr (mAR _ hm))) (inCall _inz63_3 (by omega) (.inr (mAL _ (mAL _ (mSg.2 rfl)))) (fun i hm => .inr (mAL _ (mAR _ hm))) (fun i hm => .inr (mAR _ hm)))))
       refine ⟨_S_150, ?_⟩
       refine DR_one 17 (by kernel_rfl) ?_
       refine DO_s rfl rfl rfl ?_
       refine s_alloc zr61 fun _b7 _w_151 _m7 _cw_151 _e7 => ?_
       have _cw_151z := _cw_151.size
       have E := E.trans _cw_151.of_nil
       have _z7 := _m7.lt
       replace _m7 : Blk _w_151 _b7 61 [(.int .i64 0), (.int .i64 0), (.bool false)] := _m7
       have _S_152 := (_S_150.trans _cw_151.of_nil)
       refine ⟨_S_152, ?_⟩
       refine DR_one 18 (by kernel_rfl) ?_
       refine DO_s rfl rfl rfl ?_
       have _f_153 := ((_m6.ch _cw_149 (nin3 (by omega) (no_hi hiz63_0 (by omega)) (no_hi hiz63_3 (by omega)))).ch0 _cw_151)
       refine s_storeA (off := 0) 3 _f_153 sz61 rfl (us := [(.int .i64 ((bpT ta _p0 _p3).f)), (.int .i64 ((bpT ta _p0 _p3).l)), (.bool ((bpT ta _p0 _p3).n))]) rfl rfl rfl rfl fun _w_154 _m_155 _cw_154 => ?_
       have _cw_154z := _cw_154.size
       have E := E.step _cw_154 (oneL (by omega))
       replace _m_155 : Blk _w_154 _b6 61 [(.int .i64 ((bpT ta _p0 _p3).f)), (.int .i64 ((bpT ta _p0 _p3).l)), (.bool ((bpT ta _p0 _p3).n))] := _m_155
       have _S_156 := (_S_152.step _cw_154 (oneL (by omega)))
       refine ⟨_S_156, ?_⟩
       refine DR_one 19 (by kernel_rfl) ?_
       refine DO_s rfl rfl rfl ?_
       have _f_157 := (_m7.ch _cw_154 (ne1 (by omega)))
       refine s_storeA (off := 0) 3 _f_157 sz61 rfl (us := [(.int .i64 ((bpT tb ((bpT ta _p0 _p3).L) ((bpT ta _p0 _p3).F)).f)), (.int .i64 ((bpT tb ((bpT ta _p0 _p3).L) ((bpT ta _p0 _p3).F)).l)), (.bool ((bpT tb ((bpT ta _p0 _p3).L) ((bpT ta _p0 _p3).F)).n))]) rfl rfl rfl rfl fun _w_158 _m_159 _cw_158 => ?_
       have _cw_158z := _cw_158.size
       have E := E.step _cw_158 (oneL (by omega))
       replace _m_159 : Blk _w_158 _b7 61 [(.int .i64 ((bpT tb ((bpT ta _p0 _p3).L) ((bpT ta _p0 _p3).F)).f)), (.int .i64 ((bpT tb ((bpT ta _p0 _p3).L) ((bpT ta _p0 _p3).F)).l)), (.bool ((bpT tb ((bpT ta _p0 _p3).L) ((bpT ta _p0 _p3).F)).n))] := _m_159
       have _S_160 := (_S_156.step _cw_158 (oneL (by omega)))
       refine ⟨_S_160, ?_⟩
       refine DR_done (by kernel_rfl) ?_
       refine thn_nrm ?_
       have _f_161 := (((_qz71_0.ch0 _cw_151).ch _cw_154 (fun g hg hm => by have _h0 := mSg.1 hm; exact nQ71_0_6 (by first | exact hg | exact _h0 ▸ hg))).ch _cw_158 (fun g hg hm => by have _h0 := mSg.1 hm; have _h2 := _loz71_0 _ hg; have _h3 := hiz71_0 _ hg; omega))
       have _f_162 := (((_qz71_3.ch0 _cw_151).ch _cw_154 (fun g hg hm => by have _h0 := mSg.1 hm; exact nQ71_3_6 (by first | exact hg | exact _h0 ▸ hg))).ch _cw_158 (fun g hg hm => by have _h0 := mSg.1 hm; have _h2 := _loz71_3 _ hg; have _h3 := hiz71_3 _ hg; omega))
       have _f_163 := (((_m71.ch0 _cw_151).ch _cw_154 (ne1 (by omega))).ch _cw_158 (ne1 (by omega)))
       have _f_164 := (_m_155.ch _cw_158 (ne1 (by omega)))
       have _f_165 := ((((((_f_97.ch _cw_103 (lwr3 (by omega) _ll_p0 (by omega) _ll_p3 (by omega))).ch0 _cw_143).ch _cw_149 (lwr3 (by omega) _loz63_0 (by omega) _loz63_3 (by omega))).ch0 _cw_151).ch _cw_154 (tfr1 (by omega))).ch _cw_158 (tfr1 (by omega)))
       have _f_166 := (((((((_m4.ch0 _cw_96).ch _cw_103 (nin3 (by omega) (no_hi _lt_p0 (by omega)) (no_hi _lt_p3 (by omega)))).ch0 _cw_143).ch _cw_149 (nin3 (by omega) nQ63_0_4 nQ63_3_4)).ch0 _cw_151).ch _cw_154 (ne1 (by omega))).ch _cw_158 (ne1 (by omega)))
       exact _J_76 _ _ _ _ _b6 _b7 (Sub.cons rfl (Sub.cons rfl (Sub.cons rfl (Sub.cons rfl (Sub.cons rfl (Sub.cons rfl (Sub.nil _))))))) E (by omega) _f_161 iQ71_0 _nbz71_0 _f_162 iQ71_3 _nbz71_3 _djz71_0z71_3 _f_163 _f_164 (by omega) (by omega) nQ71_0_6 nQ71_3_6 _m_159 (by omega) (by omega) (no_in _loz71_0 hiz71_0 (by omega)) (no_in _loz71_3 hiz71_3 (by omega)) (by omega) _f_165 _f_166 nQ71_0_4 nQ71_3_4
      ·refine DO_s rfl rfl rfl ?_
       refine s_alloc zr61 fun _b7 _w_167 _m7 _cw_167 _e7 => ?_
       have _cw_167z := _cw_167.size
       have E := E.trans _cw_167.of_nil
       have _z7 := _m7.lt
       replace _m7 : Blk _w_167 _b7 61 [(.int .i64 0), (.int .i64 0), (.bool false)] := _m7
       have _S_168 := (_S_144.trans _cw_167.of_nil)
       refine ⟨_S_168, ?_⟩
       refine DR_one 15 (by kernel_rfl) ?_
       refine DO_s rfl rfl rfl ?_
       have _f_169 := ((_m63.ch0 _cw_143).ch0 _cw_167)
       have _f_170 := ((_qz63_0.ch0 _cw_143).ch0 _cw_167)
       have _f_171 := ((_qz63_3.ch0 _cw_143).ch0 _cw_167)
       have _f_172 := (((_tr69.ch _cw_103 (lwr3 (by omega) _ll_p0 (by omega) _ll_p3 (by omega))).ch0 _cw_143).ch0 _cw_167)
       refine Step.call (r_call (xs := [.tmp 64, .tmp 70]) fk31 rfl) (ih _f_169 _f_170 _nbz63_0 (Lo.down _loz63_0 (by omega)) _f_171 _nbz63_3 (Lo.down _loz63_3 (by omega)) _djz63_0z63_3 _f_172 (by omega) (by omega) ob ⟨by omega, by omega⟩ (by omega)) fun _v71 _w_173 _q71 => ?_
       obtain ⟨_z71_0, _z71_3, rfl, _m71, _qz71_0, _inz71_0, _nbz71_0, _qz71_3, _inz71_3, _nbz71_3, _djz71_0z71_3, _cw_173⟩ := _q71
       have _cw_173z := _cw_173.size
       have E := E.step _cw_173 (fun i hm => by rcases List.mem_cons.1 hm with _h0 | hm; (right; exact _h0 ▸ List.mem_cons_self ..); (rcases List.mem_append.1 hm with hm | hm; (exact (iQ63_0 _ hm)); (exact (iQ63_3 _ hm))))
       obtain ⟨Az71_0, Cz71_0, ez71_0⟩ := _qz71_0.val
       subst ez71_0
       have lz71_0 := _qz71_0.len
       have hiz71_0 := _qz71_0.lt
       have _loz71_0 : Lo L_p (.slice Az71_0 ((bpT tb ((bpT ta _p0 _p3).L) ((bpT ta _p0 _p3).F)).L).length Cz71_0) := loOld _inz71_0 _nbz71_0 (by omega) (all2 _loz63_0 _loz63_3)
       obtain ⟨Az71_3, Cz71_3, ez71_3⟩ := _qz71_3.val
       subst ez71_3
       have lz71_3 := _qz71_3.len
       have hiz71_3 := _qz71_3.lt
       have _loz71_3 : Lo L_p (.slice Az71_3 ((bpT tb ((bpT ta _p0 _p3).L) ((bpT ta _p0 _p3).F)).F).length Cz71_3) := loOld _inz71_3 _nbz71_3 (by omega) (all2 _loz63_0 _loz63_3)
       have nQ71_0_4 := nbOld _inz71_0 _nbz71_0 (show _b4 < _ by omega) (nin2 nQ63_0_4 nQ63_3_4)
       have nQ71_0_6 := nbOld _inz71_0 _nbz71_0 (show _b6 < _ by omega) (nin2 (no_in _loz63_0 hiz63_0 (by omega)) (no_in _loz63_3 hiz63_3 (by omega)))
       have nQ71_0_7 := nbOld _inz71_0 _nbz71_0 (show _b7 < _ by omega) (nin2 (no_in _loz63_0 hiz63_0 (by omega)) (no_in _loz63_3 hiz63_3 (by omega)))
       have iQ71_0 := inOldE E _inz71_0 _nbz71_0 (by omega) (all2 (fun g hm => (iQ63_0 _ hm)) (fun g hm => (iQ63_3 _ hm)))
       have nQ71_3_4 := nbOld _inz71_3 _nbz71_3 (show _b4 < _ by omega) (nin2 nQ63_0_4 nQ63_3_4)
       have nQ71_3_6 := nbOld _inz71_3 _nbz71_3 (show _b6 < _ by omega) (nin2 (no_in _loz63_0 hiz63_0 (by omega)) (no_in _loz63_3 hiz63_3 (by omega)))
       have nQ71_3_7 := nbOld _inz71_3 _nbz71_3 (show _b7 < _ by omega) (nin2 (no_in _loz63_0 hiz63_0 (by omega)) (no_in _loz63_3 hiz63_3 (by omega)))
       have iQ71_3 := inOldE E _inz71_3 _nbz71_3 (by omega) (all2 (fun g hm => (iQ63_0 _ hm)) (fun g hm => (iQ63_3 _ hm)))
       replace _m71 : Blk _w_173 b_p t_p [(.slice Az71_0 ((bpT tb ((bpT ta _p0 _p3).L) ((bpT ta _p0 _p3).F)).L).length Cz71_0), (.int .i64 _p1), (.int .i64 _p2), (.slice Az71_3 ((bpT tb ((bpT ta _p0 _p3).L) ((bpT ta _p0 _p3).F)).F).length Cz71_3), (.bool _p4)] := _m71
       have _S_174 := (_S_168.step _cw_173 (all3 (.inr (mAL _ (mAL _ (mSg.2 rfl)))) (inCall _inz63_0 (by omega) (.inr (mAL _ (mAL _ (mSg.2 rfl)))) (fun i hm => .inr (mAL _ (mAR _ hm))) (fun i hm => .inr (mAR _ hm))) (inCall _inz63_3 (by omega) (.inr (mAL _ (mAL _ (mSg.2 rfl)))) (fun i hm => .inr (mAL _ (mAR _ hm))) (fun i hm => .inr (mAR _ hm)))))
       refine ⟨_S_174, ?_⟩
       refine DR_one 18 (by kernel_rfl) ?_
       refine DO_s rfl rfl rfl ?_
       have _f_175 := ((_m6.ch0 _cw_167).ch _cw_173 (nin3 (by omega) (no_hi hiz63_0 (by omega)) (no_hi hiz63_3 (by omega))))
       refine s_storeA (off := 0) 3 _f_175 sz61 rfl (us := [(.int .i64 ((bpT ta _p0 _p3).f)), (.int .i64 ((bpT ta _p0 _p3).l)), (.bool ((bpT ta _p0 _p3).n))]) rfl rfl rfl rfl fun _w_176 _m_177 _cw_176 => ?_
       have _cw_176z := _cw_176.size
       have E := E.step _cw_176 (oneL (by omega))
       replace _m_177 : Blk _w_176 _b6 61 [(.int .i64 ((bpT ta _p0 _p3).f)), (.int .i64 ((bpT ta _p0 _p3).l)), (.bool ((bpT ta _p0 _p3).n))] := _m_177
       have _S_178 := (_S_174.step _cw_176 (oneL (by omega)))
       refine ⟨_S_178, ?_⟩
       refine DR_one 19 (by kernel_rfl) ?_
       refine DO_s rfl rfl rfl ?_
       have _f_179 := ((_m7.ch _cw_173 (nin3 (by omega) (no_hi hiz63_0 (by omega)) (no_hi hiz63_3 (by omega)))).ch _cw_176 (ne1 (by omega)))
       refine s_storeA (off := 0) 3 _f_179 sz61 rfl (us := [(.int .i64 ((bpT tb ((bpT ta _p0 _p3).L) ((bpT ta _p0 _p3).F)).f)), (.int .i64 ((bpT tb ((bpT ta _p0 _p3).L) ((bpT ta _p0 _p3).F)).l)), (.bool ((bpT tb ((bpT ta _p0 _p3).L) ((bpT ta _p0 _p3).F)).n))]) rfl rfl rfl rfl fun _w_180 _m_181 _cw_180 => ?_
       have _cw_180z := _cw_180.size
       have E := E.step _cw_180 (oneL (by omega))
       replace _m_181 : Blk _w_180 _b7 61 [(.int .i64 ((bpT tb ((bpT ta _p0 _p3).L) ((bpT ta _p0 _p3).F)).f)), (.int .i64 ((bpT tb ((bpT ta _p0 _p3).L) ((bpT ta _p0 _p3).F)).l)), (.bool ((bpT tb ((bpT ta _p0 _p3).L) ((bpT ta _p0 _p3).F)).n))] := _m_181
       have _S_182 := (_S_178.step _cw_180 (oneL (by omega)))
       refine ⟨_S_182, ?_⟩
       refine DR_done (by kernel_rfl) ?_
       refine thn_nrm ?_
       have _f_183 := ((_qz71_0.ch _cw_176 (fun g hg hm => by have _h0 := mSg.1 hm; exact nQ71_0_6 (by first | exact hg | exact _h0 ▸ hg))).ch _cw_180 (fun g hg hm => by have _h0 := mSg.1 hm; exact nQ71_0_7 (by first | exact hg | exact _h0 ▸ hg)))
       have _f_184 := ((_qz71_3.ch _cw_176 (fun g hg hm => by have _h0 := mSg.1 hm; exact nQ71_3_6 (by first | exact hg | exact _h0 ▸ hg))).ch _cw_180 (fun g hg hm => by have _h0 := mSg.1 hm; exact nQ71_3_7 (by first | exact hg | exact _h0 ▸ hg)))
       have _f_185 := ((_m71.ch _cw_176 (ne1 (by omega))).ch _cw_180 (ne1 (by omega)))
       have _f_186 := (_m_177.ch _cw_180 (ne1 (by omega)))
       have _f_187 := ((((((_f_97.ch _cw_103 (lwr3 (by omega) _ll_p0 (by omega) _ll_p3 (by omega))).ch0 _cw_143).ch0 _cw_167).ch _cw_173 (lwr3 (by omega) _loz63_0 (by omega) _loz63_3 (by omega))).ch _cw_176 (tfr1 (by omega))).ch _cw_180 (tfr1 (by omega)))
       have _f_188 := (((((((_m4.ch0 _cw_96).ch _cw_103 (nin3 (by omega) (no_hi _lt_p0 (by omega)) (no_hi _lt_p3 (by omega)))).ch0 _cw_143).ch0 _cw_167).ch _cw_173 (nin3 (by omega) nQ63_0_4 nQ63_3_4)).ch _cw_176 (ne1 (by omega))).ch _cw_180 (ne1 (by omega)))
       exact _J_76 _ _ _ _ _b6 _b7 (Sub.cons rfl (Sub.cons rfl (Sub.cons rfl (Sub.cons rfl (Sub.cons rfl (Sub.cons rfl (Sub.nil _))))))) E (by omega) _f_183 iQ71_0 _nbz71_0 _f_184 iQ71_3 _nbz71_3 _djz71_0z71_3 _f_185 _f_186 (by omega) (by omega) nQ71_0_6 nQ71_3_6 _m_181 (by omega) (by omega) nQ71_0_7 nQ71_3_7 (by omega) _f_187 _f_188 nQ71_0_4 nQ71_3_4
     ·refine DO_s rfl rfl rfl ?_
      refine s_alloc zr61 fun _b7 _w_189 _m7 _cw_189 _e7 => ?_
      have _cw_189z := _cw_189.size
      have E := E.trans _cw_189.of_nil
      have _z7 := _m7.lt
      replace _m7 : Blk _w_189 _b7 61 [(.int .i64 0), (.int .i64 0), (.bool false)] := _m7
      have _S_190 := (_S_104.trans _cw_189.of_nil)
      refine ⟨_S_190, ?_⟩
      refine DR_two 15 16 (by kernel_rfl) ?_ ?_
      ·refine DO_s rfl rfl rfl ?_
       have _f_191 := (_m63.ch0 _cw_189)
       have _f_192 := (_qz63_0.ch0 _cw_189)
       have _f_193 := (_qz63_3.ch0 _cw_189)
       have _f_194 := ((_tr69.ch _cw_103 (lwr3 (by omega) _ll_p0 (by omega) _ll_p3 (by omega))).ch0 _cw_189)
       refine Step.call (r_call (xs := [.tmp 64, .tmp 70]) fk31 rfl) (ih _f_191 _f_192 _nbz63_0 (Lo.down _loz63_0 (by omega)) _f_193 _nbz63_3 (Lo.down _loz63_3 (by omega)) _djz63_0z63_3 _f_194 (by omega) (by omega) ob ⟨by omega, by omega⟩ (by omega)) fun _v71 _w_195 _q71 => ?_
       obtain ⟨_z71_0, _z71_3, rfl, _m71, _qz71_0, _inz71_0, _nbz71_0, _qz71_3, _inz71_3, _nbz71_3, _djz71_0z71_3, _cw_195⟩ := _q71
       have _cw_195z := _cw_195.size
       have E := E.step _cw_195 (fun i hm => by rcases List.mem_cons.1 hm with _h0 | hm; (right; exact _h0 ▸ List.mem_cons_self ..); (rcases List.mem_append.1 hm with hm | hm; (exact (iQ63_0 _ hm)); (exact (iQ63_3 _ hm))))
       obtain ⟨Az71_0, Cz71_0, ez71_0⟩ := _qz71_0.val
       subst ez71_0
       have lz71_0 := _qz71_0.len
       have hiz71_0 := _qz71_0.lt
       have _loz71_0 : Lo L_p (.slice Az71_0 ((bpT tb ((bpT ta _p0 _p3).L) ((bpT ta _p0 _p3).F)).L).length Cz71_0) := loOld _inz71_0 _nbz71_0 (by omega) (all2 _loz63_0 _loz63_3)
       obtain ⟨Az71_3, Cz71_3, ez71_3⟩ := _qz71_3.val
       subst ez71_3
       have lz71_3 := _qz71_3.len
       have hiz71_3 := _qz71_3.lt
       have _loz71_3 : Lo L_p (.slice Az71_3 ((bpT tb ((bpT ta _p0 _p3).L) ((bpT ta _p0 _p3).F)).F).length Cz71_3) := loOld _inz71_3 _nbz71_3 (by omega) (all2 _loz63_0 _loz63_3)
       have nQ71_0_4 := nbOld _inz71_0 _nbz71_0 (show _b4 < _ by omega) (nin2 nQ63_0_4 nQ63_3_4)
       have nQ71_0_7 := nbOld _inz71_0 _nbz71_0 (show _b7 < _ by omega) (nin2 (no_in _loz63_0 hiz63_0 (by omega)) (no_in _loz63_3 hiz63_3 (by omega)))
       have iQ71_0 := inOldE E _inz71_0 _nbz71_0 (by omega) (all2 (fun g hm => (iQ63_0 _ hm)) (fun g hm => (iQ63_3 _ hm)))
       have nQ71_3_4 := nbOld _inz71_3 _nbz71_3 (show _b4 < _ by omega) (nin2 nQ63_0_4 nQ63_3_4)
       have nQ71_3_7 := nbOld _inz71_3 _nbz71_3 (show _b7 < _ by omega) (nin2 (no_in _loz63_0 hiz63_0 (by omega)) (no_in _loz63_3 hiz63_3 (by omega)))
       have iQ71_3 := inOldE E _inz71_3 _nbz71_3 (by omega) (all2 (fun g hm => (iQ63_0 _ hm)) (fun g hm => (iQ63_3 _ hm)))
       replace _m71 : Blk _w_195 b_p t_p [(.slice Az71_0 ((bpT tb ((bpT ta _p0 _p3).L) ((bpT ta _p0 _p3).F)).L).length Cz71_0), (.int .i64 _p1), (.int .i64 _p2), (.slice Az71_3 ((bpT tb ((bpT ta _p0 _p3).L) ((bpT ta _p0 _p3).F)).F).length Cz71_3), (.bool _p4)] := _m71
       have _S_196 := (_S_190.step _cw_195 (all3 (.inr (mAL _ (mAL _ (mSg.2 rfl)))) (inCall _inz63_0 (by omega) (.inr (mAL _ (mAL _ (mSg.2 rfl)))) (fun i hm => .inr (mAL _ (mAR _ hm))) (fun i hm => .inr (mAR _ hm))) (inCall _inz63_3 (by omega) (.inr (mAL _ (mAL _ (mSg.2 rfl)))) (fun i hm => .inr (mAL _ (mAR _ hm))) (fun i hm => .inr (mAR _ hm)))))
       refine ⟨_S_196, ?_⟩
       refine DR_one 16 (by kernel_rfl) ?_
       refine DO_s rfl rfl rfl ?_
       refine s_alloc zr61 fun _b6 _w_197 _m6 _cw_197 _e6 => ?_
       have _cw_197z := _cw_197.size
       have E := E.trans _cw_197.of_nil
       have _z6 := _m6.lt
       replace _m6 : Blk _w_197 _b6 61 [(.int .i64 0), (.int .i64 0), (.bool false)] := _m6
       have _S_198 := (_S_196.trans _cw_197.of_nil)
       refine ⟨_S_198, ?_⟩
       refine DR_one 18 (by kernel_rfl) ?_
       refine DO_s rfl rfl rfl ?_
       refine s_storeA (off := 0) 3 _m6 sz61 rfl (us := [(.int .i64 ((bpT ta _p0 _p3).f)), (.int .i64 ((bpT ta _p0 _p3).l)), (.bool ((bpT ta _p0 _p3).n))]) rfl rfl rfl rfl fun _w_199 _m_200 _cw_199 => ?_
       have _cw_199z := _cw_199.size
       have E := E.step _cw_199 (oneL (by omega))
       replace _m_200 : Blk _w_199 _b6 61 [(.int .i64 ((bpT ta _p0 _p3).f)), (.int .i64 ((bpT ta _p0 _p3).l)), (.bool ((bpT ta _p0 _p3).n))] := _m_200
       have _S_201 := (_S_198.step _cw_199 (oneL (by omega)))
       refine ⟨_S_201, ?_⟩
       refine DR_one 19 (by kernel_rfl) ?_
       refine DO_s rfl rfl rfl ?_
       have _f_202 := (((_m7.ch _cw_195 (nin3 (by omega) (no_hi hiz63_0 (by omega)) (no_hi hiz63_3 (by omega)))).ch0 _cw_197).ch _cw_199 (ne1 (by omega)))
       refine s_storeA (off := 0) 3 _f_202 sz61 rfl (us := [(.int .i64 ((bpT tb ((bpT ta _p0 _p3).L) ((bpT ta _p0 _p3).F)).f)), (.int .i64 ((bpT tb ((bpT ta _p0 _p3).L) ((bpT ta _p0 _p3).F)).l)), (.bool ((bpT tb ((bpT ta _p0 _p3).L) ((bpT ta _p0 _p3).F)).n))]) rfl rfl rfl rfl fun _w_203 _m_204 _cw_203 => ?_
       have _cw_203z := _cw_203.size
       have E := E.step _cw_203 (oneL (by omega))
       replace _m_204 : Blk _w_203 _b7 61 [(.int .i64 ((bpT tb ((bpT ta _p0 _p3).L) ((bpT ta _p0 _p3).F)).f)), (.int .i64 ((bpT tb ((bpT ta _p0 _p3).L) ((bpT ta _p0 _p3).F)).l)), (.bool ((bpT tb ((bpT ta _p0 _p3).L) ((bpT ta _p0 _p3).F)).n))] := _m_204
       have _S_205 := (_S_201.step _cw_203 (oneL (by omega)))
       refine ⟨_S_205, ?_⟩
       refine DR_done (by kernel_rfl) ?_
       refine thn_nrm ?_
       have _f_206 := (((_qz71_0.ch0 _cw_197).ch _cw_199 (fun g hg hm => by have _h0 := mSg.1 hm; have _h2 := _loz71_0 _ hg; have _h3 := hiz71_0 _ hg; omega)).ch _cw_203 (fun g hg hm => by have _h0 := mSg.1 hm; exact nQ71_0_7 (by first | exact hg | exact _h0 ▸ hg)))
       have _f_207 := (((_qz71_3.ch0 _cw_197).ch _cw_199 (fun g hg hm => by have _h0 := mSg.1 hm; have _h2 := _loz71_3 _ hg; have _h3 := hiz71_3 _ hg; omega)).ch _cw_203 (fun g hg hm => by have _h0 := mSg.1 hm; exact nQ71_3_7 (by first | exact hg | exact _h0 ▸ hg)))
       have _f_208 := (((_m71.ch0 _cw_197).ch _cw_199 (ne1 (by omega))).ch _cw_203 (ne1 (by omega)))
       have _f_209 := (_m_200.ch _cw_203 (ne1 (by omega)))
       have _f_210 := ((((((_f_97.ch _cw_103 (lwr3 (by omega) _ll_p0 (by omega) _ll_p3 (by omega))).ch0 _cw_189).ch _cw_195 (lwr3 (by omega) _loz63_0 (by omega) _loz63_3 (by omega))).ch0 _cw_197).ch _cw_199 (tfr1 (by omega))).ch _cw_203 (tfr1 (by omega)))
       have _f_211 := (((((((_m4.ch0 _cw_96).ch _cw_103 (nin3 (by omega) (no_hi _lt_p0 (by omega)) (no_hi _lt_p3 (by omega)))).ch0 _cw_189).ch _cw_195 (nin3 (by omega) nQ63_0_4 nQ63_3_4)).ch0 _cw_197).ch _cw_199 (ne1 (by omega))).ch _cw_203 (ne1 (by omega)))
       exact _J_76 _ _ _ _ _b6 _b7 (Sub.cons rfl (Sub.cons rfl (Sub.cons rfl (Sub.cons rfl (Sub.cons rfl (Sub.cons rfl (Sub.nil _))))))) E (by omega) _f_206 iQ71_0 _nbz71_0 _f_207 iQ71_3 _nbz71_3 _djz71_0z71_3 _f_208 _f_209 (by omega) (by omega) (no_in _loz71_0 hiz71_0 (by omega)) (no_in _loz71_3 hiz71_3 (by omega)) _m_204 (by omega) (by omega) nQ71_0_7 nQ71_3_7 (by omega) _f_210 _f_211 nQ71_0_4 nQ71_3_4
      ·refine DO_s rfl rfl rfl ?_
       refine s_alloc zr61 fun _b6 _w_212 _m6 _cw_212 _e6 => ?_
       have _cw_212z := _cw_212.size
       have E := E.trans _cw_212.of_nil
       have _z6 := _m6.lt
       replace _m6 : Blk _w_212 _b6 61 [(.int .i64 0), (.int .i64 0), (.bool false)] := _m6
       have _S_213 := (_S_190.trans _cw_212.of_nil)
       refine ⟨_S_213, ?_⟩
       refine DR_one 15 (by kernel_rfl) ?_
       refine DO_s rfl rfl rfl ?_
       have _f_214 := ((_m63.ch0 _cw_189).ch0 _cw_212)
       have _f_215 := ((_qz63_0.ch0 _cw_189).ch0 _cw_212)
       have _f_216 := ((_qz63_3.ch0 _cw_189).ch0 _cw_212)
       have _f_217 := (((_tr69.ch _cw_103 (lwr3 (by omega) _ll_p0 (by omega) _ll_p3 (by omega))).ch0 _cw_189).ch0 _cw_212)
       refine Step.call (r_call (xs := [.tmp 64, .tmp 70]) fk31 rfl) (ih _f_214 _f_215 _nbz63_0 (Lo.down _loz63_0 (by omega)) _f_216 _nbz63_3 (Lo.down _loz63_3 (by omega)) _djz63_0z63_3 _f_217 (by omega) (by omega) ob ⟨by omega, by omega⟩ (by omega)) fun _v71 _w_218 _q71 => ?_
       obtain ⟨_z71_0, _z71_3, rfl, _m71, _qz71_0, _inz71_0, _nbz71_0, _qz71_3, _inz71_3, _nbz71_3, _djz71_0z71_3, _cw_218⟩ := _q71
       have _cw_218z := _cw_218.size
       have E := E.step _cw_218 (fun i hm => by rcases List.mem_cons.1 hm with _h0 | hm; (right; exact _h0 ▸ List.mem_cons_self ..); (rcases List.mem_append.1 hm with hm | hm; (exact (iQ63_0 _ hm)); (exact (iQ63_3 _ hm))))
       obtain ⟨Az71_0, Cz71_0, ez71_0⟩ := _qz71_0.val
       subst ez71_0
       have lz71_0 := _qz71_0.len
       have hiz71_0 := _qz71_0.lt
       have _loz71_0 : Lo L_p (.slice Az71_0 ((bpT tb ((bpT ta _p0 _p3).L) ((bpT ta _p0 _p3).F)).L).length Cz71_0) := loOld _inz71_0 _nbz71_0 (by omega) (all2 _loz63_0 _loz63_3)
       obtain ⟨Az71_3, Cz71_3, ez71_3⟩ := _qz71_3.val
       subst ez71_3
       have lz71_3 := _qz71_3.len
       have hiz71_3 := _qz71_3.lt
       have _loz71_3 : Lo L_p (.slice Az71_3 ((bpT tb ((bpT ta _p0 _p3).L) ((bpT ta _p0 _p3).F)).F).length Cz71_3) := loOld _inz71_3 _nbz71_3 (by omega) (all2 _loz63_0 _loz63_3)
       have nQ71_0_4 := nbOld _inz71_0 _nbz71_0 (show _b4 < _ by omega) (nin2 nQ63_0_4 nQ63_3_4)
       have nQ71_0_7 := nbOld _inz71_0 _nbz71_0 (show _b7 < _ by omega) (nin2 (no_in _loz63_0 hiz63_0 (by omega)) (no_in _loz63_3 hiz63_3 (by omega)))
       have nQ71_0_6 := nbOld _inz71_0 _nbz71_0 (show _b6 < _ by omega) (nin2 (no_in _loz63_0 hiz63_0 (by omega)) (no_in _loz63_3 hiz63_3 (by omega)))
       have iQ71_0 := inOldE E _inz71_0 _nbz71_0 (by omega) (all2 (fun g hm => (iQ63_0 _ hm)) (fun g hm => (iQ63_3 _ hm)))
       have nQ71_3_4 := nbOld _inz71_3 _nbz71_3 (show _b4 < _ by omega) (nin2 nQ63_0_4 nQ63_3_4)
       have nQ71_3_7 := nbOld _inz71_3 _nbz71_3 (show _b7 < _ by omega) (nin2 (no_in _loz63_0 hiz63_0 (by omega)) (no_in _loz63_3 hiz63_3 (by omega)))
       have nQ71_3_6 := nbOld _inz71_3 _nbz71_3 (show _b6 < _ by omega) (nin2 (no_in _loz63_0 hiz63_0 (by omega)) (no_in _loz63_3 hiz63_3 (by omega)))
       have iQ71_3 := inOldE E _inz71_3 _nbz71_3 (by omega) (all2 (fun g hm => (iQ63_0 _ hm)) (fun g hm => (iQ63_3 _ hm)))
       replace _m71 : Blk _w_218 b_p t_p [(.slice Az71_0 ((bpT tb ((bpT ta _p0 _p3).L) ((bpT ta _p0 _p3).F)).L).length Cz71_0), (.int .i64 _p1), (.int .i64 _p2), (.slice Az71_3 ((bpT tb ((bpT ta _p0 _p3).L) ((bpT ta _p0 _p3).F)).F).length Cz71_3), (.bool _p4)] := _m71
       have _S_219 := (_S_213.step _cw_218 (all3 (.inr (mAL _ (mAL _ (mSg.2 rfl)))) (inCall _inz63_0 (by omega) (.inr (mAL _ (mAL _ (mSg.2 rfl)))) (fun i hm => .inr (mAL _ (mAR _ hm))) (fun i hm => .inr (mAR _ hm))) (inCall _inz63_3 (by omega) (.inr (mAL _ (mAL _ (mSg.2 rfl)))) (fun i hm => .inr (mAL _ (mAR _ hm))) (fun i hm => .inr (mAR _ hm)))))
       refine ⟨_S_219, ?_⟩
       refine DR_one 18 (by kernel_rfl) ?_
       refine DO_s rfl rfl rfl ?_
       have _f_220 := (_m6.ch _cw_218 (nin3 (by omega) (no_hi hiz63_0 (by omega)) (no_hi hiz63_3 (by omega))))
       refine s_storeA (off := 0) 3 _f_220 sz61 rfl (us := [(.int .i64 ((bpT ta _p0 _p3).f)), (.int .i64 ((bpT ta _p0 _p3).l)), (.bool ((bpT ta _p0 _p3).n))]) rfl rfl rfl rfl fun _w_221 _m_222 _cw_221 => ?_
       have _cw_221z := _cw_221.size
       have E := E.step _cw_221 (oneL (by omega))
       replace _m_222 : Blk _w_221 _b6 61 [(.int .i64 ((bpT ta _p0 _p3).f)), (.int .i64 ((bpT ta _p0 _p3).l)), (.bool ((bpT ta _p0 _p3).n))] := _m_222
       have _S_223 := (_S_219.step _cw_221 (oneL (by omega)))
       refine ⟨_S_223, ?_⟩
       refine DR_one 19 (by kernel_rfl) ?_
       refine DO_s rfl rfl rfl ?_
       have _f_224 := (((_m7.ch0 _cw_212).ch _cw_218 (nin3 (by omega) (no_hi hiz63_0 (by omega)) (no_hi hiz63_3 (by omega)))).ch _cw_221 (ne1 (by omega)))
       refine s_storeA (off := 0) 3 _f_224 sz61 rfl (us := [(.int .i64 ((bpT tb ((bpT ta _p0 _p3).L) ((bpT ta _p0 _p3).F)).f)), (.int .i64 ((bpT tb ((bpT ta _p0 _p3).L) ((bpT ta _p0 _p3).F)).l)), (.bool ((bpT tb ((bpT ta _p0 _p3).L) ((bpT ta _p0 _p3).F)).n))]) rfl rfl rfl rfl fun _w_225 _m_226 _cw_225 => ?_
       have _cw_225z := _cw_225.size
       have E := E.step _cw_225 (oneL (by omega))
       replace _m_226 : Blk _w_225 _b7 61 [(.int .i64 ((bpT tb ((bpT ta _p0 _p3).L) ((bpT ta _p0 _p3).F)).f)), (.int .i64 ((bpT tb ((bpT ta _p0 _p3).L) ((bpT ta _p0 _p3).F)).l)), (.bool ((bpT tb ((bpT ta _p0 _p3).L) ((bpT ta _p0 _p3).F)).n))] := _m_226
       have _S_227 := (_S_223.step _cw_225 (oneL (by omega)))
       refine ⟨_S_227, ?_⟩
       refine DR_done (by kernel_rfl) ?_
       refine thn_nrm ?_
       have _f_228 := ((_qz71_0.ch _cw_221 (fun g hg hm => by have _h0 := mSg.1 hm; exact nQ71_0_6 (by first | exact hg | exact _h0 ▸ hg))).ch _cw_225 (fun g hg hm => by have _h0 := mSg.1 hm; exact nQ71_0_7 (by first | exact hg | exact _h0 ▸ hg)))
       have _f_229 := ((_qz71_3.ch _cw_221 (fun g hg hm => by have _h0 := mSg.1 hm; exact nQ71_3_6 (by first | exact hg | exact _h0 ▸ hg))).ch _cw_225 (fun g hg hm => by have _h0 := mSg.1 hm; exact nQ71_3_7 (by first | exact hg | exact _h0 ▸ hg)))
       have _f_230 := ((_m71.ch _cw_221 (ne1 (by omega))).ch _cw_225 (ne1 (by omega)))
       have _f_231 := (_m_222.ch _cw_225 (ne1 (by omega)))
       have _f_232 := ((((((_f_97.ch _cw_103 (lwr3 (by omega) _ll_p0 (by omega) _ll_p3 (by omega))).ch0 _cw_189).ch0 _cw_212).ch _cw_218 (lwr3 (by omega) _loz63_0 (by omega) _loz63_3 (by omega))).ch _cw_221 (tfr1 (by omega))).ch _cw_225 (tfr1 (by omega)))
       have _f_233 := (((((((_m4.ch0 _cw_96).ch _cw_103 (nin3 (by omega) (no_hi _lt_p0 (by omega)) (no_hi _lt_p3 (by omega)))).ch0 _cw_189).ch0 _cw_212).ch _cw_218 (nin3 (by omega) nQ63_0_4 nQ63_3_4)).ch _cw_221 (ne1 (by omega))).ch _cw_225 (ne1 (by omega)))
       exact _J_76 _ _ _ _ _b6 _b7 (Sub.cons rfl (Sub.cons rfl (Sub.cons rfl (Sub.cons rfl (Sub.cons rfl (Sub.cons rfl (Sub.nil _))))))) E (by omega) _f_228 iQ71_0 _nbz71_0 _f_229 iQ71_3 _nbz71_3 _djz71_0z71_3 _f_230 _f_231 (by omega) (by omega) nQ71_0_6 nQ71_3_6 _m_226 (by omega) (by omega) nQ71_0_7 nQ71_3_7 (by omega) _f_232 _f_233 nQ71_0_4 nQ71_3_4
    ·refine DO_s rfl rfl rfl ?_
     refine s_alloc zr61 fun _b6 _w_234 _m6 _cw_234 _e6 => ?_
     have _cw_234z := _cw_234.size
     have E := E.trans _cw_234.of_nil
     have _z6 := _m6.lt
     replace _m6 : Blk _w_234 _b6 61 [(.int .i64 0), (.int .i64 0), (.bool false)] := _m6
     have _S_235 : Ch ([b_p] ++ (bl (.slice _A_p0 _p0.length _C_p0)) ++ (bl (.slice _A_p3 _p3.length _C_p3))) _w_96 _w_234 := ((Ch.refl _ _).trans _cw_234.of_nil)
     refine ⟨_S_235, ?_⟩
     refine DR_two 7 17 (by kernel_rfl) ?_ ?_
     ·refine DO_s rfl rfl rfl ?_
      have _f_236 := (((m_p.ch0 _cw_2).ch0 _cw_96).ch0 _cw_234)
      have _f_237 := (((_h_p0.ch0 _cw_2).ch0 _cw_96).ch0 _cw_234)
      have _f_238 := (((_h_p3.ch0 _cw_2).ch0 _cw_96).ch0 _cw_234)
      have _f_239 := (_tr61.ch0 _cw_234)
      refine Step.call (r_call (xs := [.tmp 56, .tmp 62]) fk31 rfl) (ih _f_236 _f_237 _nb_p0 (Lo.down _ll_p0 (by omega)) _f_238 _nb_p3 (Lo.down _ll_p3 (by omega)) _dj_p0_p3 _f_239 (by omega) (by omega) oa ⟨by omega, by omega⟩ (by omega)) fun _v63 _w_240 _q63 => ?_
      obtain ⟨_z63_0, _z63_3, rfl, _m63, _qz63_0, _inz63_0, _nbz63_0, _qz63_3, _inz63_3, _nbz63_3, _djz63_0z63_3, _cw_240⟩ := _q63
      have _cw_240z := _cw_240.size
      have E := E.step _cw_240 (fun i hm => by rcases List.mem_cons.1 hm with _h0 | hm; (right; exact _h0 ▸ List.mem_cons_self ..); (rcases List.mem_append.1 hm with hm | hm; (exact (.inr (mCo _ (mAL _ hm)))); (exact (.inr (mCo _ (mAR _ hm))))))
      obtain ⟨Az63_0, Cz63_0, ez63_0⟩ := _qz63_0.val
      subst ez63_0
      have lz63_0 := _qz63_0.len
      have hiz63_0 := _qz63_0.lt
      have _loz63_0 : Lo L_p (.slice Az63_0 ((bpT ta _p0 _p3).L).length Cz63_0) := loOld _inz63_0 _nbz63_0 (by omega) (all2 _ll_p0 _ll_p3)
      obtain ⟨Az63_3, Cz63_3, ez63_3⟩ := _qz63_3.val
      subst ez63_3
      have lz63_3 := _qz63_3.len
      have hiz63_3 := _qz63_3.lt
      have _loz63_3 : Lo L_p (.slice Az63_3 ((bpT ta _p0 _p3).F).length Cz63_3) := loOld _inz63_3 _nbz63_3 (by omega) (all2 _ll_p0 _ll_p3)
      have nQ63_0_4 := nbOld _inz63_0 _nbz63_0 (show _b4 < _ by omega) (nin2 (no_in _ll_p0 _lt_p0 (by omega)) (no_in _ll_p3 _lt_p3 (by omega)))
      have nQ63_0_6 := nbOld _inz63_0 _nbz63_0 (show _b6 < _ by omega) (nin2 (no_in _ll_p0 _lt_p0 (by omega)) (no_in _ll_p3 _lt_p3 (by omega)))
      have iQ63_0 := inOldE E _inz63_0 _nbz63_0 (by omega) (all2 (fun g hm => (.inr (mCo _ (mAL _ hm)))) (fun g hm => (.inr (mCo _ (mAR _ hm)))))
      have nQ63_3_4 := nbOld _inz63_3 _nbz63_3 (show _b4 < _ by omega) (nin2 (no_in _ll_p0 _lt_p0 (by omega)) (no_in _ll_p3 _lt_p3 (by omega)))
      have nQ63_3_6 := nbOld _inz63_3 _nbz63_3 (show _b6 < _ by omega) (nin2 (no_in _ll_p0 _lt_p0 (by omega)) (no_in _ll_p3 _lt_p3 (by omega)))
      have iQ63_3 := inOldE E _inz63_3 _nbz63_3 (by omega) (all2 (fun g hm => (.inr (mCo _ (mAL _ hm)))) (fun g hm => (.inr (mCo _ (mAR _ hm)))))
      replace _m63 : Blk _w_240 b_p t_p [(.slice Az63_0 ((bpT ta _p0 _p3).L).length Cz63_0), (.int .i64 _p1), (.int .i64 _p2), (.slice Az63_3 ((bpT ta _p0 _p3).F).length Cz63_3), (.bool _p4)] := _m63
      have _S_241 := (_S_235.step _cw_240 (all3 (.inr (mAL _ (mAL _ (mSg.2 rfl)))) (fun i hm => .inr (mAL _ (mAR _ hm))) (fun i hm => .inr (mAR _ hm))))
      refine ⟨_S_241, ?_⟩
      refine DR_two 15 17 (by kernel_rfl) ?_ ?_
      ·refine DO_s rfl rfl rfl ?_
       have _f_242 := ((_tr69.ch0 _cw_234).ch _cw_240 (lwr3 (by omega) _ll_p0 (by omega) _ll_p3 (by omega)))
       refine Step.call (r_call (xs := [.tmp 64, .tmp 70]) fk31 rfl) (ih _m63 _qz63_0 _nbz63_0 (Lo.down _loz63_0 (by omega)) _qz63_3 _nbz63_3 (Lo.down _loz63_3 (by omega)) _djz63_0z63_3 _f_242 (by omega) (by omega) ob ⟨by omega, by omega⟩ (by omega)) fun _v71 _w_243 _q71 => ?_
       obtain ⟨_z71_0, _z71_3, rfl, _m71, _qz71_0, _inz71_0, _nbz71_0, _qz71_3, _inz71_3, _nbz71_3, _djz71_0z71_3, _cw_243⟩ := _q71
       have _cw_243z := _cw_243.size
       have E := E.step _cw_243 (fun i hm => by rcases List.mem_cons.1 hm with _h0 | hm; (right; exact _h0 ▸ List.mem_cons_self ..); (rcases List.mem_append.1 hm with hm | hm; (exact (iQ63_0 _ hm)); (exact (iQ63_3 _ hm))))
       obtain ⟨Az71_0, Cz71_0, ez71_0⟩ := _qz71_0.val
       subst ez71_0
       have lz71_0 := _qz71_0.len
       have hiz71_0 := _qz71_0.lt
       have _loz71_0 : Lo L_p (.slice Az71_0 ((bpT tb ((bpT ta _p0 _p3).L) ((bpT ta _p0 _p3).F)).L).length Cz71_0) := loOld _inz71_0 _nbz71_0 (by omega) (all2 _loz63_0 _loz63_3)
       obtain ⟨Az71_3, Cz71_3, ez71_3⟩ := _qz71_3.val
       subst ez71_3
       have lz71_3 := _qz71_3.len
       have hiz71_3 := _qz71_3.lt
       have _loz71_3 : Lo L_p (.slice Az71_3 ((bpT tb ((bpT ta _p0 _p3).L) ((bpT ta _p0 _p3).F)).F).length Cz71_3) := loOld _inz71_3 _nbz71_3 (by omega) (all2 _loz63_0 _loz63_3)
       have nQ71_0_4 := nbOld _inz71_0 _nbz71_0 (show _b4 < _ by omega) (nin2 nQ63_0_4 nQ63_3_4)
       have nQ71_0_6 := nbOld _inz71_0 _nbz71_0 (show _b6 < _ by omega) (nin2 nQ63_0_6 nQ63_3_6)
       have iQ71_0 := inOldE E _inz71_0 _nbz71_0 (by omega) (all2 (fun g hm => (iQ63_0 _ hm)) (fun g hm => (iQ63_3 _ hm)))
       have nQ71_3_4 := nbOld _inz71_3 _nbz71_3 (show _b4 < _ by omega) (nin2 nQ63_0_4 nQ63_3_4)
       have nQ71_3_6 := nbOld _inz71_3 _nbz71_3 (show _b6 < _ by omega) (nin2 nQ63_0_6 nQ63_3_6)
       have iQ71_3 := inOldE E _inz71_3 _nbz71_3 (by omega) (all2 (fun g hm => (iQ63_0 _ hm)) (fun g hm => (iQ63_3 _ hm)))
       replace _m71 : Blk _w_243 b_p t_p [(.slice Az71_0 ((bpT tb ((bpT ta _p0 _p3).L) ((bpT ta _p0 _p3).F)).L).length Cz71_0), (.int .i64 _p1), (.int .i64 _p2), (.slice Az71_3 ((bpT tb ((bpT ta _p0 _p3).L) ((bpT ta _p0 _p3).F)).F).length Cz71_3), (.bool _p4)] := _m71
       have _S_244 := (_S_241.step _cw_243 (all3 (.inr (mAL _ (mAL _ (mSg.2 rfl)))) (inCall _inz63_0 (by omega) (.inr (mAL _ (mAL _ (mSg.2 rfl)))) (fun i hm => .inr (mAL _ (mAR _ hm))) (fun i hm => .inr (mAR _ hm))) (inCall _inz63_3 (by omega) (.inr (mAL _ (mAL _ (mSg.2 rfl)))) (fun i hm => .inr (mAL _ (mAR _ hm))) (fun i hm => .inr (mAR _ hm)))))
       refine ⟨_S_244, ?_⟩
       refine DR_one 17 (by kernel_rfl) ?_
       refine DO_s rfl rfl rfl ?_
       refine s_alloc zr61 fun _b7 _w_245 _m7 _cw_245 _e7 => ?_
       have _cw_245z := _cw_245.size
       have E := E.trans _cw_245.of_nil
       have _z7 := _m7.lt
       replace _m7 : Blk _w_245 _b7 61 [(.int .i64 0), (.int .i64 0), (.bool false)] := _m7
       have _S_246 := (_S_244.trans _cw_245.of_nil)
       refine ⟨_S_246, ?_⟩
       refine DR_one 18 (by kernel_rfl) ?_
       refine DO_s rfl rfl rfl ?_
       have _f_247 := (((_m6.ch _cw_240 (nin3 (by omega) (no_hi _lt_p0 (by omega)) (no_hi _lt_p3 (by omega)))).ch _cw_243 (nin3 (by omega) nQ63_0_6 nQ63_3_6)).ch0 _cw_245)
       refine s_storeA (off := 0) 3 _f_247 sz61 rfl (us := [(.int .i64 ((bpT ta _p0 _p3).f)), (.int .i64 ((bpT ta _p0 _p3).l)), (.bool ((bpT ta _p0 _p3).n))]) rfl rfl rfl rfl fun _w_248 _m_249 _cw_248 => ?_
       have _cw_248z := _cw_248.size
       have E := E.step _cw_248 (oneL (by omega))
       replace _m_249 : Blk _w_248 _b6 61 [(.int .i64 ((bpT ta _p0 _p3).f)), (.int .i64 ((bpT ta _p0 _p3).l)), (.bool ((bpT ta _p0 _p3).n))] := _m_249
       have _S_250 := (_S_246.step _cw_248 (oneL (by omega)))
       refine ⟨_S_250, ?_⟩
       refine DR_one 19 (by kernel_rfl) ?_
       refine DO_s rfl rfl rfl ?_
       have _f_251 := (_m7.ch _cw_248 (ne1 (by omega)))
       refine s_storeA (off := 0) 3 _f_251 sz61 rfl (us := [(.int .i64 ((bpT tb ((bpT ta _p0 _p3).L) ((bpT ta _p0 _p3).F)).f)), (.int .i64 ((bpT tb ((bpT ta _p0 _p3).L) ((bpT ta _p0 _p3).F)).l)), (.bool ((bpT tb ((bpT ta _p0 _p3).L) ((bpT ta _p0 _p3).F)).n))]) rfl rfl rfl rfl fun _w_252 _m_253 _cw_252 => ?_
       have _cw_252z := _cw_252.size
       have E := E.step _cw_252 (oneL (by omega))
       replace _m_253 : Blk _w_252 _b7 61 [(.int .i64 ((bpT tb ((bpT ta _p0 _p3).L) ((bpT ta _p0 _p3).F)).f)), (.int .i64 ((bpT tb ((bpT ta _p0 _p3).L) ((bpT ta _p0 _p3).F)).l)), (.bool ((bpT tb ((bpT ta _p0 _p3).L) ((bpT ta _p0 _p3).F)).n))] := _m_253
       have _S_254 := (_S_250.step _cw_252 (oneL (by omega)))
       refine ⟨_S_254, ?_⟩
       refine DR_done (by kernel_rfl) ?_
       refine thn_nrm ?_
       have _f_255 := (((_qz71_0.ch0 _cw_245).ch _cw_248 (fun g hg hm => by have _h0 := mSg.1 hm; exact nQ71_0_6 (by first | exact hg | exact _h0 ▸ hg))).ch _cw_252 (fun g hg hm => by have _h0 := mSg.1 hm; have _h2 := _loz71_0 _ hg; have _h3 := hiz71_0 _ hg; omega))
       have _f_256 := (((_qz71_3.ch0 _cw_245).ch _cw_248 (fun g hg hm => by have _h0 := mSg.1 hm; exact nQ71_3_6 (by first | exact hg | exact _h0 ▸ hg))).ch _cw_252 (fun g hg hm => by have _h0 := mSg.1 hm; have _h2 := _loz71_3 _ hg; have _h3 := hiz71_3 _ hg; omega))
       have _f_257 := (((_m71.ch0 _cw_245).ch _cw_248 (ne1 (by omega))).ch _cw_252 (ne1 (by omega)))
       have _f_258 := (_m_249.ch _cw_252 (ne1 (by omega)))
       have _f_259 := ((((((_f_97.ch0 _cw_234).ch _cw_240 (lwr3 (by omega) _ll_p0 (by omega) _ll_p3 (by omega))).ch _cw_243 (lwr3 (by omega) _loz63_0 (by omega) _loz63_3 (by omega))).ch0 _cw_245).ch _cw_248 (tfr1 (by omega))).ch _cw_252 (tfr1 (by omega)))
       have _f_260 := (((((((_m4.ch0 _cw_96).ch0 _cw_234).ch _cw_240 (nin3 (by omega) (no_hi _lt_p0 (by omega)) (no_hi _lt_p3 (by omega)))).ch _cw_243 (nin3 (by omega) nQ63_0_4 nQ63_3_4)).ch0 _cw_245).ch _cw_248 (ne1 (by omega))).ch _cw_252 (ne1 (by omega)))
       exact _J_76 _ _ _ _ _b6 _b7 (Sub.cons rfl (Sub.cons rfl (Sub.cons rfl (Sub.cons rfl (Sub.cons rfl (Sub.cons rfl (Sub.nil _))))))) E (by omega) _f_255 iQ71_0 _nbz71_0 _f_256 iQ71_3 _nbz71_3 _djz71_0z71_3 _f_257 _f_258 (by omega) (by omega) nQ71_0_6 nQ71_3_6 _m_253 (by omega) (by omega) (no_in _loz71_0 hiz71_0 (by omega)) (no_in _loz71_3 hiz71_3 (by omega)) (by omega) _f_259 _f_260 nQ71_0_4 nQ71_3_4
      ·refine DO_s rfl rfl rfl ?_
       refine s_alloc zr61 fun _b7 _w_261 _m7 _cw_261 _e7 => ?_
       have _cw_261z := _cw_261.size
       have E := E.trans _cw_261.of_nil
       have _z7 := _m7.lt
       replace _m7 : Blk _w_261 _b7 61 [(.int .i64 0), (.int .i64 0), (.bool false)] := _m7
       have _S_262 := (_S_241.trans _cw_261.of_nil)
       refine ⟨_S_262, ?_⟩
       refine DR_one 15 (by kernel_rfl) ?_
       refine DO_s rfl rfl rfl ?_
       have _f_263 := (_m63.ch0 _cw_261)
       have _f_264 := (_qz63_0.ch0 _cw_261)
       have _f_265 := (_qz63_3.ch0 _cw_261)
       have _f_266 := (((_tr69.ch0 _cw_234).ch _cw_240 (lwr3 (by omega) _ll_p0 (by omega) _ll_p3 (by omega))).ch0 _cw_261)
       refine Step.call (r_call (xs := [.tmp 64, .tmp 70]) fk31 rfl) (ih _f_263 _f_264 _nbz63_0 (Lo.down _loz63_0 (by omega)) _f_265 _nbz63_3 (Lo.down _loz63_3 (by omega)) _djz63_0z63_3 _f_266 (by omega) (by omega) ob ⟨by omega, by omega⟩ (by omega)) fun _v71 _w_267 _q71 => ?_
       obtain ⟨_z71_0, _z71_3, rfl, _m71, _qz71_0, _inz71_0, _nbz71_0, _qz71_3, _inz71_3, _nbz71_3, _djz71_0z71_3, _cw_267⟩ := _q71
       have _cw_267z := _cw_267.size
       have E := E.step _cw_267 (fun i hm => by rcases List.mem_cons.1 hm with _h0 | hm; (right; exact _h0 ▸ List.mem_cons_self ..); (rcases List.mem_append.1 hm with hm | hm; (exact (iQ63_0 _ hm)); (exact (iQ63_3 _ hm))))
       obtain ⟨Az71_0, Cz71_0, ez71_0⟩ := _qz71_0.val
       subst ez71_0
       have lz71_0 := _qz71_0.len
       have hiz71_0 := _qz71_0.lt
       have _loz71_0 : Lo L_p (.slice Az71_0 ((bpT tb ((bpT ta _p0 _p3).L) ((bpT ta _p0 _p3).F)).L).length Cz71_0) := loOld _inz71_0 _nbz71_0 (by omega) (all2 _loz63_0 _loz63_3)
       obtain ⟨Az71_3, Cz71_3, ez71_3⟩ := _qz71_3.val
       subst ez71_3
       have lz71_3 := _qz71_3.len
       have hiz71_3 := _qz71_3.lt
       have _loz71_3 : Lo L_p (.slice Az71_3 ((bpT tb ((bpT ta _p0 _p3).L) ((bpT ta _p0 _p3).F)).F).length Cz71_3) := loOld _inz71_3 _nbz71_3 (by omega) (all2 _loz63_0 _loz63_3)
       have nQ71_0_4 := nbOld _inz71_0 _nbz71_0 (show _b4 < _ by omega) (nin2 nQ63_0_4 nQ63_3_4)
       have nQ71_0_6 := nbOld _inz71_0 _nbz71_0 (show _b6 < _ by omega) (nin2 nQ63_0_6 nQ63_3_6)
       have nQ71_0_7 := nbOld _inz71_0 _nbz71_0 (show _b7 < _ by omega) (nin2 (no_in _loz63_0 hiz63_0 (by omega)) (no_in _loz63_3 hiz63_3 (by omega)))
       have iQ71_0 := inOldE E _inz71_0 _nbz71_0 (by omega) (all2 (fun g hm => (iQ63_0 _ hm)) (fun g hm => (iQ63_3 _ hm)))
       have nQ71_3_4 := nbOld _inz71_3 _nbz71_3 (show _b4 < _ by omega) (nin2 nQ63_0_4 nQ63_3_4)
       have nQ71_3_6 := nbOld _inz71_3 _nbz71_3 (show _b6 < _ by omega) (nin2 nQ63_0_6 nQ63_3_6)
       have nQ71_3_7 := nbOld _inz71_3 _nbz71_3 (show _b7 < _ by omega) (nin2 (no_in _loz63_0 hiz63_0 (by omega)) (no_in _loz63_3 hiz63_3 (by omega)))
       have iQ71_3 := inOldE E _inz71_3 _nbz71_3 (by omega) (all2 (fun g hm => (iQ63_0 _ hm)) (fun g hm => (iQ63_3 _ hm)))
       replace _m71 : Blk _w_267 b_p t_p [(.slice Az71_0 ((bpT tb ((bpT ta _p0 _p3).L) ((bpT ta _p0 _p3).F)).L).length Cz71_0), (.int .i64 _p1), (.int .i64 _p2), (.slice Az71_3 ((bpT tb ((bpT ta _p0 _p3).L) ((bpT ta _p0 _p3).F)).F).length Cz71_3), (.bool _p4)] := _m71
       have _S_268 := (_S_262.step _cw_267 (all3 (.inr (mAL _ (mAL _ (mSg.2 rfl)))) (inCall _inz63_0 (by omega) (.inr (mAL _ (mAL _ (mSg.2 rfl)))) (fun i hm => .inr (mAL _ (mAR _ hm))) (fun i hm => .inr (mAR _ hm))) (inCall _inz63_3 (by omega) (.inr (mAL _ (mAL _ (mSg.2 rfl)))) (fun i hm => .inr (mAL _ (mAR _ hm))) (fun i hm => .inr (mAR _ hm)))))
       refine ⟨_S_268, ?_⟩
       refine DR_one 18 (by kernel_rfl) ?_
       refine DO_s rfl rfl rfl ?_
       have _f_269 := (((_m6.ch _cw_240 (nin3 (by omega) (no_hi _lt_p0 (by omega)) (no_hi _lt_p3 (by omega)))).ch0 _cw_261).ch _cw_267 (nin3 (by omega) nQ63_0_6 nQ63_3_6))
       refine s_storeA (off := 0) 3 _f_269 sz61 rfl (us := [(.int .i64 ((bpT ta _p0 _p3).f)), (.int .i64 ((bpT ta _p0 _p3).l)), (.bool ((bpT ta _p0 _p3).n))]) rfl rfl rfl rfl fun _w_270 _m_271 _cw_270 => ?_
       have _cw_270z := _cw_270.size
       have E := E.step _cw_270 (oneL (by omega))
       replace _m_271 : Blk _w_270 _b6 61 [(.int .i64 ((bpT ta _p0 _p3).f)), (.int .i64 ((bpT ta _p0 _p3).l)), (.bool ((bpT ta _p0 _p3).n))] := _m_271
       have _S_272 := (_S_268.step _cw_270 (oneL (by omega)))
       refine ⟨_S_272, ?_⟩
       refine DR_one 19 (by kernel_rfl) ?_
       refine DO_s rfl rfl rfl ?_
       have _f_273 := ((_m7.ch _cw_267 (nin3 (by omega) (no_hi hiz63_0 (by omega)) (no_hi hiz63_3 (by omega)))).ch _cw_270 (ne1 (by omega)))
       refine s_storeA (off := 0) 3 _f_273 sz61 rfl (us := [(.int .i64 ((bpT tb ((bpT ta _p0 _p3).L) ((bpT ta _p0 _p3).F)).f)), (.int .i64 ((bpT tb ((bpT ta _p0 _p3).L) ((bpT ta _p0 _p3).F)).l)), (.bool ((bpT tb ((bpT ta _p0 _p3).L) ((bpT ta _p0 _p3).F)).n))]) rfl rfl rfl rfl fun _w_274 _m_275 _cw_274 => ?_
       have _cw_274z := _cw_274.size
       have E := E.step _cw_274 (oneL (by omega))
       replace _m_275 : Blk _w_274 _b7 61 [(.int .i64 ((bpT tb ((bpT ta _p0 _p3).L) ((bpT ta _p0 _p3).F)).f)), (.int .i64 ((bpT tb ((bpT ta _p0 _p3).L) ((bpT ta _p0 _p3).F)).l)), (.bool ((bpT tb ((bpT ta _p0 _p3).L) ((bpT ta _p0 _p3).F)).n))] := _m_275
       have _S_276 := (_S_272.step _cw_274 (oneL (by omega)))
       refine ⟨_S_276, ?_⟩
       refine DR_done (by kernel_rfl) ?_
       refine thn_nrm ?_
       have _f_277 := ((_qz71_0.ch _cw_270 (fun g hg hm => by have _h0 := mSg.1 hm; exact nQ71_0_6 (by first | exact hg | exact _h0 ▸ hg))).ch _cw_274 (fun g hg hm => by have _h0 := mSg.1 hm; exact nQ71_0_7 (by first | exact hg | exact _h0 ▸ hg)))
       have _f_278 := ((_qz71_3.ch _cw_270 (fun g hg hm => by have _h0 := mSg.1 hm; exact nQ71_3_6 (by first | exact hg | exact _h0 ▸ hg))).ch _cw_274 (fun g hg hm => by have _h0 := mSg.1 hm; exact nQ71_3_7 (by first | exact hg | exact _h0 ▸ hg)))
       have _f_279 := ((_m71.ch _cw_270 (ne1 (by omega))).ch _cw_274 (ne1 (by omega)))
       have _f_280 := (_m_271.ch _cw_274 (ne1 (by omega)))
       have _f_281 := ((((((_f_97.ch0 _cw_234).ch _cw_240 (lwr3 (by omega) _ll_p0 (by omega) _ll_p3 (by omega))).ch0 _cw_261).ch _cw_267 (lwr3 (by omega) _loz63_0 (by omega) _loz63_3 (by omega))).ch _cw_270 (tfr1 (by omega))).ch _cw_274 (tfr1 (by omega)))
       have _f_282 := (((((((_m4.ch0 _cw_96).ch0 _cw_234).ch _cw_240 (nin3 (by omega) (no_hi _lt_p0 (by omega)) (no_hi _lt_p3 (by omega)))).ch0 _cw_261).ch _cw_267 (nin3 (by omega) nQ63_0_4 nQ63_3_4)).ch _cw_270 (ne1 (by omega))).ch _cw_274 (ne1 (by omega)))
       exact _J_76 _ _ _ _ _b6 _b7 (Sub.cons rfl (Sub.cons rfl (Sub.cons rfl (Sub.cons rfl (Sub.cons rfl (Sub.cons rfl (Sub.nil _))))))) E (by omega) _f_277 iQ71_0 _nbz71_0 _f_278 iQ71_3 _nbz71_3 _djz71_0z71_3 _f_279 _f_280 (by omega) (by omega) nQ71_0_6 nQ71_3_6 _m_275 (by omega) (by omega) nQ71_0_7 nQ71_3_7 (by omega) _f_281 _f_282 nQ71_0_4 nQ71_3_4
     ·refine DO_s rfl rfl rfl ?_
      refine s_alloc zr61 fun _b7 _w_283 _m7 _cw_283 _e7 => ?_
      have _cw_283z := _cw_283.size
      have E := E.trans _cw_283.of_nil
      have _z7 := _m7.lt
      replace _m7 : Blk _w_283 _b7 61 [(.int .i64 0), (.int .i64 0), (.bool false)] := _m7
      have _S_284 := (_S_235.trans _cw_283.of_nil)
      refine ⟨_S_284, ?_⟩
      refine DR_one 7 (by kernel_rfl) ?_
      refine DO_s rfl rfl rfl ?_
      have _f_285 := ((((m_p.ch0 _cw_2).ch0 _cw_96).ch0 _cw_234).ch0 _cw_283)
      have _f_286 := ((((_h_p0.ch0 _cw_2).ch0 _cw_96).ch0 _cw_234).ch0 _cw_283)
      have _f_287 := ((((_h_p3.ch0 _cw_2).ch0 _cw_96).ch0 _cw_234).ch0 _cw_283)
      have _f_288 := ((_tr61.ch0 _cw_234).ch0 _cw_283)
      refine Step.call (r_call (xs := [.tmp 56, .tmp 62]) fk31 rfl) (ih _f_285 _f_286 _nb_p0 (Lo.down _ll_p0 (by omega)) _f_287 _nb_p3 (Lo.down _ll_p3 (by omega)) _dj_p0_p3 _f_288 (by omega) (by omega) oa ⟨by omega, by omega⟩ (by omega)) fun _v63 _w_289 _q63 => ?_
      obtain ⟨_z63_0, _z63_3, rfl, _m63, _qz63_0, _inz63_0, _nbz63_0, _qz63_3, _inz63_3, _nbz63_3, _djz63_0z63_3, _cw_289⟩ := _q63
      have _cw_289z := _cw_289.size
      have E := E.step _cw_289 (fun i hm => by rcases List.mem_cons.1 hm with _h0 | hm; (right; exact _h0 ▸ List.mem_cons_self ..); (rcases List.mem_append.1 hm with hm | hm; (exact (.inr (mCo _ (mAL _ hm)))); (exact (.inr (mCo _ (mAR _ hm))))))
      obtain ⟨Az63_0, Cz63_0, ez63_0⟩ := _qz63_0.val
      subst ez63_0
      have lz63_0 := _qz63_0.len
      have hiz63_0 := _qz63_0.lt
      have _loz63_0 : Lo L_p (.slice Az63_0 ((bpT ta _p0 _p3).L).length Cz63_0) := loOld _inz63_0 _nbz63_0 (by omega) (all2 _ll_p0 _ll_p3)
      obtain ⟨Az63_3, Cz63_3, ez63_3⟩ := _qz63_3.val
      subst ez63_3
      have lz63_3 := _qz63_3.len
      have hiz63_3 := _qz63_3.lt
      have _loz63_3 : Lo L_p (.slice Az63_3 ((bpT ta _p0 _p3).F).length Cz63_3) := loOld _inz63_3 _nbz63_3 (by omega) (all2 _ll_p0 _ll_p3)
      have nQ63_0_4 := nbOld _inz63_0 _nbz63_0 (show _b4 < _ by omega) (nin2 (no_in _ll_p0 _lt_p0 (by omega)) (no_in _ll_p3 _lt_p3 (by omega)))
      have nQ63_0_6 := nbOld _inz63_0 _nbz63_0 (show _b6 < _ by omega) (nin2 (no_in _ll_p0 _lt_p0 (by omega)) (no_in _ll_p3 _lt_p3 (by omega)))
      have nQ63_0_7 := nbOld _inz63_0 _nbz63_0 (show _b7 < _ by omega) (nin2 (no_in _ll_p0 _lt_p0 (by omega)) (no_in _ll_p3 _lt_p3 (by omega)))
      have iQ63_0 := inOldE E _inz63_0 _nbz63_0 (by omega) (all2 (fun g hm => (.inr (mCo _ (mAL _ hm)))) (fun g hm => (.inr (mCo _ (mAR _ hm)))))
      have nQ63_3_4 := nbOld _inz63_3 _nbz63_3 (show _b4 < _ by omega) (nin2 (no_in _ll_p0 _lt_p0 (by omega)) (no_in _ll_p3 _lt_p3 (by omega)))
      have nQ63_3_6 := nbOld _inz63_3 _nbz63_3 (show _b6 < _ by omega) (nin2 (no_in _ll_p0 _lt_p0 (by omega)) (no_in _ll_p3 _lt_p3 (by omega)))
      have nQ63_3_7 := nbOld _inz63_3 _nbz63_3 (show _b7 < _ by omega) (nin2 (no_in _ll_p0 _lt_p0 (by omega)) (no_in _ll_p3 _lt_p3 (by omega)))
      have iQ63_3 := inOldE E _inz63_3 _nbz63_3 (by omega) (all2 (fun g hm => (.inr (mCo _ (mAL _ hm)))) (fun g hm => (.inr (mCo _ (mAR _ hm)))))
      replace _m63 : Blk _w_289 b_p t_p [(.slice Az63_0 ((bpT ta _p0 _p3).L).length Cz63_0), (.int .i64 _p1), (.int .i64 _p2), (.slice Az63_3 ((bpT ta _p0 _p3).F).length Cz63_3), (.bool _p4)] := _m63
      have _S_290 := (_S_284.step _cw_289 (all3 (.inr (mAL _ (mAL _ (mSg.2 rfl)))) (fun i hm => .inr (mAL _ (mAR _ hm))) (fun i hm => .inr (mAR _ hm))))
      refine ⟨_S_290, ?_⟩
      refine DR_one 15 (by kernel_rfl) ?_
      refine DO_s rfl rfl rfl ?_
      have _f_291 := (((_tr69.ch0 _cw_234).ch0 _cw_283).ch _cw_289 (lwr3 (by omega) _ll_p0 (by omega) _ll_p3 (by omega)))
      refine Step.call (r_call (xs := [.tmp 64, .tmp 70]) fk31 rfl) (ih _m63 _qz63_0 _nbz63_0 (Lo.down _loz63_0 (by omega)) _qz63_3 _nbz63_3 (Lo.down _loz63_3 (by omega)) _djz63_0z63_3 _f_291 (by omega) (by omega) ob ⟨by omega, by omega⟩ (by omega)) fun _v71 _w_292 _q71 => ?_
      obtain ⟨_z71_0, _z71_3, rfl, _m71, _qz71_0, _inz71_0, _nbz71_0, _qz71_3, _inz71_3, _nbz71_3, _djz71_0z71_3, _cw_292⟩ := _q71
      have _cw_292z := _cw_292.size
      have E := E.step _cw_292 (fun i hm => by rcases List.mem_cons.1 hm with _h0 | hm; (right; exact _h0 ▸ List.mem_cons_self ..); (rcases List.mem_append.1 hm with hm | hm; (exact (iQ63_0 _ hm)); (exact (iQ63_3 _ hm))))
      obtain ⟨Az71_0, Cz71_0, ez71_0⟩ := _qz71_0.val
      subst ez71_0
      have lz71_0 := _qz71_0.len
      have hiz71_0 := _qz71_0.lt
      have _loz71_0 : Lo L_p (.slice Az71_0 ((bpT tb ((bpT ta _p0 _p3).L) ((bpT ta _p0 _p3).F)).L).length Cz71_0) := loOld _inz71_0 _nbz71_0 (by omega) (all2 _loz63_0 _loz63_3)
      obtain ⟨Az71_3, Cz71_3, ez71_3⟩ := _qz71_3.val
      subst ez71_3
      have lz71_3 := _qz71_3.len
      have hiz71_3 := _qz71_3.lt
      have _loz71_3 : Lo L_p (.slice Az71_3 ((bpT tb ((bpT ta _p0 _p3).L) ((bpT ta _p0 _p3).F)).F).length Cz71_3) := loOld _inz71_3 _nbz71_3 (by omega) (all2 _loz63_0 _loz63_3)
      have nQ71_0_4 := nbOld _inz71_0 _nbz71_0 (show _b4 < _ by omega) (nin2 nQ63_0_4 nQ63_3_4)
      have nQ71_0_6 := nbOld _inz71_0 _nbz71_0 (show _b6 < _ by omega) (nin2 nQ63_0_6 nQ63_3_6)
      have nQ71_0_7 := nbOld _inz71_0 _nbz71_0 (show _b7 < _ by omega) (nin2 nQ63_0_7 nQ63_3_7)
      have iQ71_0 := inOldE E _inz71_0 _nbz71_0 (by omega) (all2 (fun g hm => (iQ63_0 _ hm)) (fun g hm => (iQ63_3 _ hm)))
      have nQ71_3_4 := nbOld _inz71_3 _nbz71_3 (show _b4 < _ by omega) (nin2 nQ63_0_4 nQ63_3_4)
      have nQ71_3_6 := nbOld _inz71_3 _nbz71_3 (show _b6 < _ by omega) (nin2 nQ63_0_6 nQ63_3_6)
      have nQ71_3_7 := nbOld _inz71_3 _nbz71_3 (show _b7 < _ by omega) (nin2 nQ63_0_7 nQ63_3_7)
      have iQ71_3 := inOldE E _inz71_3 _nbz71_3 (by omega) (all2 (fun g hm => (iQ63_0 _ hm)) (fun g hm => (iQ63_3 _ hm)))
      replace _m71 : Blk _w_292 b_p t_p [(.slice Az71_0 ((bpT tb ((bpT ta _p0 _p3).L) ((bpT ta _p0 _p3).F)).L).length Cz71_0), (.int .i64 _p1), (.int .i64 _p2), (.slice Az71_3 ((bpT tb ((bpT ta _p0 _p3).L) ((bpT ta _p0 _p3).F)).F).length Cz71_3), (.bool _p4)] := _m71
      have _S_293 := (_S_290.step _cw_292 (all3 (.inr (mAL _ (mAL _ (mSg.2 rfl)))) (inCall _inz63_0 (by omega) (.inr (mAL _ (mAL _ (mSg.2 rfl)))) (fun i hm => .inr (mAL _ (mAR _ hm))) (fun i hm => .inr (mAR _ hm))) (inCall _inz63_3 (by omega) (.inr (mAL _ (mAL _ (mSg.2 rfl)))) (fun i hm => .inr (mAL _ (mAR _ hm))) (fun i hm => .inr (mAR _ hm)))))
      refine ⟨_S_293, ?_⟩
      refine DR_one 18 (by kernel_rfl) ?_
      refine DO_s rfl rfl rfl ?_
      have _f_294 := (((_m6.ch0 _cw_283).ch _cw_289 (nin3 (by omega) (no_hi _lt_p0 (by omega)) (no_hi _lt_p3 (by omega)))).ch _cw_292 (nin3 (by omega) nQ63_0_6 nQ63_3_6))
      refine s_storeA (off := 0) 3 _f_294 sz61 rfl (us := [(.int .i64 ((bpT ta _p0 _p3).f)), (.int .i64 ((bpT ta _p0 _p3).l)), (.bool ((bpT ta _p0 _p3).n))]) rfl rfl rfl rfl fun _w_295 _m_296 _cw_295 => ?_
      have _cw_295z := _cw_295.size
      have E := E.step _cw_295 (oneL (by omega))
      replace _m_296 : Blk _w_295 _b6 61 [(.int .i64 ((bpT ta _p0 _p3).f)), (.int .i64 ((bpT ta _p0 _p3).l)), (.bool ((bpT ta _p0 _p3).n))] := _m_296
      have _S_297 := (_S_293.step _cw_295 (oneL (by omega)))
      refine ⟨_S_297, ?_⟩
      refine DR_one 19 (by kernel_rfl) ?_
      refine DO_s rfl rfl rfl ?_
      have _f_298 := (((_m7.ch _cw_289 (nin3 (by omega) (no_hi _lt_p0 (by omega)) (no_hi _lt_p3 (by omega)))).ch _cw_292 (nin3 (by omega) nQ63_0_7 nQ63_3_7)).ch _cw_295 (ne1 (by omega)))
      refine s_storeA (off := 0) 3 _f_298 sz61 rfl (us := [(.int .i64 ((bpT tb ((bpT ta _p0 _p3).L) ((bpT ta _p0 _p3).F)).f)), (.int .i64 ((bpT tb ((bpT ta _p0 _p3).L) ((bpT ta _p0 _p3).F)).l)), (.bool ((bpT tb ((bpT ta _p0 _p3).L) ((bpT ta _p0 _p3).F)).n))]) rfl rfl rfl rfl fun _w_299 _m_300 _cw_299 => ?_
      have _cw_299z := _cw_299.size
      have E := E.step _cw_299 (oneL (by omega))
      replace _m_300 : Blk _w_299 _b7 61 [(.int .i64 ((bpT tb ((bpT ta _p0 _p3).L) ((bpT ta _p0 _p3).F)).f)), (.int .i64 ((bpT tb ((bpT ta _p0 _p3).L) ((bpT ta _p0 _p3).F)).l)), (.bool ((bpT tb ((bpT ta _p0 _p3).L) ((bpT ta _p0 _p3).F)).n))] := _m_300
      have _S_301 := (_S_297.step _cw_299 (oneL (by omega)))
      refine ⟨_S_301, ?_⟩
      refine DR_done (by kernel_rfl) ?_
      refine thn_nrm ?_
      have _f_302 := ((_qz71_0.ch _cw_295 (fun g hg hm => by have _h0 := mSg.1 hm; exact nQ71_0_6 (by first | exact hg | exact _h0 ▸ hg))).ch _cw_299 (fun g hg hm => by have _h0 := mSg.1 hm; exact nQ71_0_7 (by first | exact hg | exact _h0 ▸ hg)))
      have _f_303 := ((_qz71_3.ch _cw_295 (fun g hg hm => by have _h0 := mSg.1 hm; exact nQ71_3_6 (by first | exact hg | exact _h0 ▸ hg))).ch _cw_299 (fun g hg hm => by have _h0 := mSg.1 hm; exact nQ71_3_7 (by first | exact hg | exact _h0 ▸ hg)))
      have _f_304 := ((_m71.ch _cw_295 (ne1 (by omega))).ch _cw_299 (ne1 (by omega)))
      have _f_305 := (_m_296.ch _cw_299 (ne1 (by omega)))
      have _f_306 := ((((((_f_97.ch0 _cw_234).ch0 _cw_283).ch _cw_289 (lwr3 (by omega) _ll_p0 (by omega) _ll_p3 (by omega))).ch _cw_292 (lwr3 (by omega) _loz63_0 (by omega) _loz63_3 (by omega))).ch _cw_295 (tfr1 (by omega))).ch _cw_299 (tfr1 (by omega)))
      have _f_307 := (((((((_m4.ch0 _cw_96).ch0 _cw_234).ch0 _cw_283).ch _cw_289 (nin3 (by omega) (no_hi _lt_p0 (by omega)) (no_hi _lt_p3 (by omega)))).ch _cw_292 (nin3 (by omega) nQ63_0_4 nQ63_3_4)).ch _cw_295 (ne1 (by omega))).ch _cw_299 (ne1 (by omega)))
      exact _J_76 _ _ _ _ _b6 _b7 (Sub.cons rfl (Sub.cons rfl (Sub.cons rfl (Sub.cons rfl (Sub.cons rfl (Sub.cons rfl (Sub.nil _))))))) E (by omega) _f_302 iQ71_0 _nbz71_0 _f_303 iQ71_3 _nbz71_3 _djz71_0z71_3 _f_304 _f_305 (by omega) (by omega) nQ71_0_6 nQ71_3_6 _m_300 (by omega) (by omega) nQ71_0_7 nQ71_3_7 (by omega) _f_306 _f_307 nQ71_0_4 nQ71_3_4
    ·refine DO_s rfl rfl rfl ?_
     refine s_alloc zr61 fun _b7 _w_308 _m7 _cw_308 _e7 => ?_
     have _cw_308z := _cw_308.size
     have E := E.trans _cw_308.of_nil
     have _z7 := _m7.lt
     replace _m7 : Blk _w_308 _b7 61 [(.int .i64 0), (.int .i64 0), (.bool false)] := _m7
     have _S_309 : Ch ([b_p] ++ (bl (.slice _A_p0 _p0.length _C_p0)) ++ (bl (.slice _A_p3 _p3.length _C_p3))) _w_96 _w_308 := ((Ch.refl _ _).trans _cw_308.of_nil)
     refine ⟨_S_309, ?_⟩
     refine DR_two 7 16 (by kernel_rfl) ?_ ?_
     ·refine DO_s rfl rfl rfl ?_
      have _f_310 := (((m_p.ch0 _cw_2).ch0 _cw_96).ch0 _cw_308)
      have _f_311 := (((_h_p0.ch0 _cw_2).ch0 _cw_96).ch0 _cw_308)
      have _f_312 := (((_h_p3.ch0 _cw_2).ch0 _cw_96).ch0 _cw_308)
      have _f_313 := (_tr61.ch0 _cw_308)
      refine Step.call (r_call (xs := [.tmp 56, .tmp 62]) fk31 rfl) (ih _f_310 _f_311 _nb_p0 (Lo.down _ll_p0 (by omega)) _f_312 _nb_p3 (Lo.down _ll_p3 (by omega)) _dj_p0_p3 _f_313 (by omega) (by omega) oa ⟨by omega, by omega⟩ (by omega)) fun _v63 _w_314 _q63 => ?_
      obtain ⟨_z63_0, _z63_3, rfl, _m63, _qz63_0, _inz63_0, _nbz63_0, _qz63_3, _inz63_3, _nbz63_3, _djz63_0z63_3, _cw_314⟩ := _q63
      have _cw_314z := _cw_314.size
      have E := E.step _cw_314 (fun i hm => by rcases List.mem_cons.1 hm with _h0 | hm; (right; exact _h0 ▸ List.mem_cons_self ..); (rcases List.mem_append.1 hm with hm | hm; (exact (.inr (mCo _ (mAL _ hm)))); (exact (.inr (mCo _ (mAR _ hm))))))
      obtain ⟨Az63_0, Cz63_0, ez63_0⟩ := _qz63_0.val
      subst ez63_0
      have lz63_0 := _qz63_0.len
      have hiz63_0 := _qz63_0.lt
      have _loz63_0 : Lo L_p (.slice Az63_0 ((bpT ta _p0 _p3).L).length Cz63_0) := loOld _inz63_0 _nbz63_0 (by omega) (all2 _ll_p0 _ll_p3)
      obtain ⟨Az63_3, Cz63_3, ez63_3⟩ := _qz63_3.val
      subst ez63_3
      have lz63_3 := _qz63_3.len
      have hiz63_3 := _qz63_3.lt
      have _loz63_3 : Lo L_p (.slice Az63_3 ((bpT ta _p0 _p3).F).length Cz63_3) := loOld _inz63_3 _nbz63_3 (by omega) (all2 _ll_p0 _ll_p3)
      have nQ63_0_4 := nbOld _inz63_0 _nbz63_0 (show _b4 < _ by omega) (nin2 (no_in _ll_p0 _lt_p0 (by omega)) (no_in _ll_p3 _lt_p3 (by omega)))
      have nQ63_0_7 := nbOld _inz63_0 _nbz63_0 (show _b7 < _ by omega) (nin2 (no_in _ll_p0 _lt_p0 (by omega)) (no_in _ll_p3 _lt_p3 (by omega)))
      have iQ63_0 := inOldE E _inz63_0 _nbz63_0 (by omega) (all2 (fun g hm => (.inr (mCo _ (mAL _ hm)))) (fun g hm => (.inr (mCo _ (mAR _ hm)))))
      have nQ63_3_4 := nbOld _inz63_3 _nbz63_3 (show _b4 < _ by omega) (nin2 (no_in _ll_p0 _lt_p0 (by omega)) (no_in _ll_p3 _lt_p3 (by omega)))
      have nQ63_3_7 := nbOld _inz63_3 _nbz63_3 (show _b7 < _ by omega) (nin2 (no_in _ll_p0 _lt_p0 (by omega)) (no_in _ll_p3 _lt_p3 (by omega)))
      have iQ63_3 := inOldE E _inz63_3 _nbz63_3 (by omega) (all2 (fun g hm => (.inr (mCo _ (mAL _ hm)))) (fun g hm => (.inr (mCo _ (mAR _ hm)))))
      replace _m63 : Blk _w_314 b_p t_p [(.slice Az63_0 ((bpT ta _p0 _p3).L).length Cz63_0), (.int .i64 _p1), (.int .i64 _p2), (.slice Az63_3 ((bpT ta _p0 _p3).F).length Cz63_3), (.bool _p4)] := _m63
      have _S_315 := (_S_309.step _cw_314 (all3 (.inr (mAL _ (mAL _ (mSg.2 rfl)))) (fun i hm => .inr (mAL _ (mAR _ hm))) (fun i hm => .inr (mAR _ hm))))
      refine ⟨_S_315, ?_⟩
      refine DR_two 15 16 (by kernel_rfl) ?_ ?_
      ·refine DO_s rfl rfl rfl ?_
       have _f_316 := ((_tr69.ch0 _cw_308).ch _cw_314 (lwr3 (by omega) _ll_p0 (by omega) _ll_p3 (by omega)))
       refine Step.call (r_call (xs := [.tmp 64, .tmp 70]) fk31 rfl) (ih _m63 _qz63_0 _nbz63_0 (Lo.down _loz63_0 (by omega)) _qz63_3 _nbz63_3 (Lo.down _loz63_3 (by omega)) _djz63_0z63_3 _f_316 (by omega) (by omega) ob ⟨by omega, by omega⟩ (by omega)) fun _v71 _w_317 _q71 => ?_
       obtain ⟨_z71_0, _z71_3, rfl, _m71, _qz71_0, _inz71_0, _nbz71_0, _qz71_3, _inz71_3, _nbz71_3, _djz71_0z71_3, _cw_317⟩ := _q71
       have _cw_317z := _cw_317.size
       have E := E.step _cw_317 (fun i hm => by rcases List.mem_cons.1 hm with _h0 | hm; (right; exact _h0 ▸ List.mem_cons_self ..); (rcases List.mem_append.1 hm with hm | hm; (exact (iQ63_0 _ hm)); (exact (iQ63_3 _ hm))))
       obtain ⟨Az71_0, Cz71_0, ez71_0⟩ := _qz71_0.val
       subst ez71_0
       have lz71_0 := _qz71_0.len
       have hiz71_0 := _qz71_0.lt
       have _loz71_0 : Lo L_p (.slice Az71_0 ((bpT tb ((bpT ta _p0 _p3).L) ((bpT ta _p0 _p3).F)).L).length Cz71_0) := loOld _inz71_0 _nbz71_0 (by omega) (all2 _loz63_0 _loz63_3)
       obtain ⟨Az71_3, Cz71_3, ez71_3⟩ := _qz71_3.val
       subst ez71_3
       have lz71_3 := _qz71_3.len
       have hiz71_3 := _qz71_3.lt
       have _loz71_3 : Lo L_p (.slice Az71_3 ((bpT tb ((bpT ta _p0 _p3).L) ((bpT ta _p0 _p3).F)).F).length Cz71_3) := loOld _inz71_3 _nbz71_3 (by omega) (all2 _loz63_0 _loz63_3)
       have nQ71_0_4 := nbOld _inz71_0 _nbz71_0 (show _b4 < _ by omega) (nin2 nQ63_0_4 nQ63_3_4)
       have nQ71_0_7 := nbOld _inz71_0 _nbz71_0 (show _b7 < _ by omega) (nin2 nQ63_0_7 nQ63_3_7)
       have iQ71_0 := inOldE E _inz71_0 _nbz71_0 (by omega) (all2 (fun g hm => (iQ63_0 _ hm)) (fun g hm => (iQ63_3 _ hm)))
       have nQ71_3_4 := nbOld _inz71_3 _nbz71_3 (show _b4 < _ by omega) (nin2 nQ63_0_4 nQ63_3_4)
       have nQ71_3_7 := nbOld _inz71_3 _nbz71_3 (show _b7 < _ by omega) (nin2 nQ63_0_7 nQ63_3_7)
       have iQ71_3 := inOldE E _inz71_3 _nbz71_3 (by omega) (all2 (fun g hm => (iQ63_0 _ hm)) (fun g hm => (iQ63_3 _ hm)))
       replace _m71 : Blk _w_317 b_p t_p [(.slice Az71_0 ((bpT tb ((bpT ta _p0 _p3).L) ((bpT ta _p0 _p3).F)).L).length Cz71_0), (.int .i64 _p1), (.int .i64 _p2), (.slice Az71_3 ((bpT tb ((bpT ta _p0 _p3).L) ((bpT ta _p0 _p3).F)).F).length Cz71_3), (.bool _p4)] := _m71
       have _S_318 := (_S_315.step _cw_317 (all3 (.inr (mAL _ (mAL _ (mSg.2 rfl)))) (inCall _inz63_0 (by omega) (.inr (mAL _ (mAL _ (mSg.2 rfl)))) (fun i hm => .inr (mAL _ (mAR _ hm))) (fun i hm => .inr (mAR _ hm))) (inCall _inz63_3 (by omega) (.inr (mAL _ (mAL _ (mSg.2 rfl)))) (fun i hm => .inr (mAL _ (mAR _ hm))) (fun i hm => .inr (mAR _ hm)))))
       refine ⟨_S_318, ?_⟩
       refine DR_one 16 (by kernel_rfl) ?_
       refine DO_s rfl rfl rfl ?_
       refine s_alloc zr61 fun _b6 _w_319 _m6 _cw_319 _e6 => ?_
       have _cw_319z := _cw_319.size
       have E := E.trans _cw_319.of_nil
       have _z6 := _m6.lt
       replace _m6 : Blk _w_319 _b6 61 [(.int .i64 0), (.int .i64 0), (.bool false)] := _m6
       have _S_320 := (_S_318.trans _cw_319.of_nil)
       refine ⟨_S_320, ?_⟩
       refine DR_one 18 (by kernel_rfl) ?_
       refine DO_s rfl rfl rfl ?_
       refine s_storeA (off := 0) 3 _m6 sz61 rfl (us := [(.int .i64 ((bpT ta _p0 _p3).f)), (.int .i64 ((bpT ta _p0 _p3).l)), (.bool ((bpT ta _p0 _p3).n))]) rfl rfl rfl rfl fun _w_321 _m_322 _cw_321 => ?_
       have _cw_321z := _cw_321.size
       have E := E.step _cw_321 (oneL (by omega))
       replace _m_322 : Blk _w_321 _b6 61 [(.int .i64 ((bpT ta _p0 _p3).f)), (.int .i64 ((bpT ta _p0 _p3).l)), (.bool ((bpT ta _p0 _p3).n))] := _m_322
       have _S_323 := (_S_320.step _cw_321 (oneL (by omega)))
       refine ⟨_S_323, ?_⟩
       refine DR_one 19 (by kernel_rfl) ?_
       refine DO_s rfl rfl rfl ?_
       have _f_324 := ((((_m7.ch _cw_314 (nin3 (by omega) (no_hi _lt_p0 (by omega)) (no_hi _lt_p3 (by omega)))).ch _cw_317 (nin3 (by omega) nQ63_0_7 nQ63_3_7)).ch0 _cw_319).ch _cw_321 (ne1 (by omega)))
       refine s_storeA (off := 0) 3 _f_324 sz61 rfl (us := [(.int .i64 ((bpT tb ((bpT ta _p0 _p3).L) ((bpT ta _p0 _p3).F)).f)), (.int .i64 ((bpT tb ((bpT ta _p0 _p3).L) ((bpT ta _p0 _p3).F)).l)), (.bool ((bpT tb ((bpT ta _p0 _p3).L) ((bpT ta _p0 _p3).F)).n))]) rfl rfl rfl rfl fun _w_325 _m_326 _cw_325 => ?_
       have _cw_325z := _cw_325.size
       have E := E.step _cw_325 (oneL (by omega))
       replace _m_326 : Blk _w_325 _b7 61 [(.int .i64 ((bpT tb ((bpT ta _p0 _p3).L) ((bpT ta _p0 _p3).F)).f)), (.int .i64 ((bpT tb ((bpT ta _p0 _p3).L) ((bpT ta _p0 _p3).F)).l)), (.bool ((bpT tb ((bpT ta _p0 _p3).L) ((bpT ta _p0 _p3).F)).n))] := _m_326
       have _S_327 := (_S_323.step _cw_325 (oneL (by omega)))
       refine ⟨_S_327, ?_⟩
       refine DR_done (by kernel_rfl) ?_
       refine thn_nrm ?_
       have _f_328 := (((_qz71_0.ch0 _cw_319).ch _cw_321 (fun g hg hm => by have _h0 := mSg.1 hm; have _h2 := _loz71_0 _ hg; have _h3 := hiz71_0 _ hg; omega)).ch _cw_325 (fun g hg hm => by have _h0 := mSg.1 hm; exact nQ71_0_7 (by first | exact hg | exact _h0 ▸ hg)))
       have _f_329 := (((_qz71_3.ch0 _cw_319).ch _cw_321 (fun g hg hm => by have _h0 := mSg.1 hm; have _h2 := _loz71_3 _ hg; have _h3 := hiz71_3 _ hg; omega)).ch _cw_325 (fun g hg hm => by have _h0 := mSg.1 hm; exact nQ71_3_7 (by first | exact hg | exact _h0 ▸ hg)))
       have _f_330 := (((_m71.ch0 _cw_319).ch _cw_321 (ne1 (by omega))).ch _cw_325 (ne1 (by omega)))
       have _f_331 := (_m_322.ch _cw_325 (ne1 (by omega)))
       have _f_332 := ((((((_f_97.ch0 _cw_308).ch _cw_314 (lwr3 (by omega) _ll_p0 (by omega) _ll_p3 (by omega))).ch _cw_317 (lwr3 (by omega) _loz63_0 (by omega) _loz63_3 (by omega))).ch0 _cw_319).ch _cw_321 (tfr1 (by omega))).ch _cw_325 (tfr1 (by omega)))
       have _f_333 := (((((((_m4.ch0 _cw_96).ch0 _cw_308).ch _cw_314 (nin3 (by omega) (no_hi _lt_p0 (by omega)) (no_hi _lt_p3 (by omega)))).ch _cw_317 (nin3 (by omega) nQ63_0_4 nQ63_3_4)).ch0 _cw_319).ch _cw_321 (ne1 (by omega))).ch _cw_325 (ne1 (by omega)))
       exact _J_76 _ _ _ _ _b6 _b7 (Sub.cons rfl (Sub.cons rfl (Sub.cons rfl (Sub.cons rfl (Sub.cons rfl (Sub.cons rfl (Sub.nil _))))))) E (by omega) _f_328 iQ71_0 _nbz71_0 _f_329 iQ71_3 _nbz71_3 _djz71_0z71_3 _f_330 _f_331 (by omega) (by omega) (no_in _loz71_0 hiz71_0 (by omega)) (no_in _loz71_3 hiz71_3 (by omega)) _m_326 (by omega) (by omega) nQ71_0_7 nQ71_3_7 (by omega) _f_332 _f_333 nQ71_0_4 nQ71_3_4
      ·refine DO_s rfl rfl rfl ?_
       refine s_alloc zr61 fun _b6 _w_334 _m6 _cw_334 _e6 => ?_
       have _cw_334z := _cw_334.size
       have E := E.trans _cw_334.of_nil
       have _z6 := _m6.lt
       replace _m6 : Blk _w_334 _b6 61 [(.int .i64 0), (.int .i64 0), (.bool false)] := _m6
       have _S_335 := (_S_315.trans _cw_334.of_nil)
       refine ⟨_S_335, ?_⟩
       refine DR_one 15 (by kernel_rfl) ?_
       refine DO_s rfl rfl rfl ?_
       have _f_336 := (_m63.ch0 _cw_334)
       have _f_337 := (_qz63_0.ch0 _cw_334)
       have _f_338 := (_qz63_3.ch0 _cw_334)
       have _f_339 := (((_tr69.ch0 _cw_308).ch _cw_314 (lwr3 (by omega) _ll_p0 (by omega) _ll_p3 (by omega))).ch0 _cw_334)
       refine Step.call (r_call (xs := [.tmp 64, .tmp 70]) fk31 rfl) (ih _f_336 _f_337 _nbz63_0 (Lo.down _loz63_0 (by omega)) _f_338 _nbz63_3 (Lo.down _loz63_3 (by omega)) _djz63_0z63_3 _f_339 (by omega) (by omega) ob ⟨by omega, by omega⟩ (by omega)) fun _v71 _w_340 _q71 => ?_
       obtain ⟨_z71_0, _z71_3, rfl, _m71, _qz71_0, _inz71_0, _nbz71_0, _qz71_3, _inz71_3, _nbz71_3, _djz71_0z71_3, _cw_340⟩ := _q71
       have _cw_340z := _cw_340.size
       have E := E.step _cw_340 (fun i hm => by rcases List.mem_cons.1 hm with _h0 | hm; (right; exact _h0 ▸ List.mem_cons_self ..); (rcases List.mem_append.1 hm with hm | hm; (exact (iQ63_0 _ hm)); (exact (iQ63_3 _ hm))))
       obtain ⟨Az71_0, Cz71_0, ez71_0⟩ := _qz71_0.val
       subst ez71_0
       have lz71_0 := _qz71_0.len
       have hiz71_0 := _qz71_0.lt
       have _loz71_0 : Lo L_p (.slice Az71_0 ((bpT tb ((bpT ta _p0 _p3).L) ((bpT ta _p0 _p3).F)).L).length Cz71_0) := loOld _inz71_0 _nbz71_0 (by omega) (all2 _loz63_0 _loz63_3)
       obtain ⟨Az71_3, Cz71_3, ez71_3⟩ := _qz71_3.val
       subst ez71_3
       have lz71_3 := _qz71_3.len
       have hiz71_3 := _qz71_3.lt
       have _loz71_3 : Lo L_p (.slice Az71_3 ((bpT tb ((bpT ta _p0 _p3).L) ((bpT ta _p0 _p3).F)).F).length Cz71_3) := loOld _inz71_3 _nbz71_3 (by omega) (all2 _loz63_0 _loz63_3)
       have nQ71_0_4 := nbOld _inz71_0 _nbz71_0 (show _b4 < _ by omega) (nin2 nQ63_0_4 nQ63_3_4)
       have nQ71_0_7 := nbOld _inz71_0 _nbz71_0 (show _b7 < _ by omega) (nin2 nQ63_0_7 nQ63_3_7)
       have nQ71_0_6 := nbOld _inz71_0 _nbz71_0 (show _b6 < _ by omega) (nin2 (no_in _loz63_0 hiz63_0 (by omega)) (no_in _loz63_3 hiz63_3 (by omega)))
       have iQ71_0 := inOldE E _inz71_0 _nbz71_0 (by omega) (all2 (fun g hm => (iQ63_0 _ hm)) (fun g hm => (iQ63_3 _ hm)))
       have nQ71_3_4 := nbOld _inz71_3 _nbz71_3 (show _b4 < _ by omega) (nin2 nQ63_0_4 nQ63_3_4)
       have nQ71_3_7 := nbOld _inz71_3 _nbz71_3 (show _b7 < _ by omega) (nin2 nQ63_0_7 nQ63_3_7)
       have nQ71_3_6 := nbOld _inz71_3 _nbz71_3 (show _b6 < _ by omega) (nin2 (no_in _loz63_0 hiz63_0 (by omega)) (no_in _loz63_3 hiz63_3 (by omega)))
       have iQ71_3 := inOldE E _inz71_3 _nbz71_3 (by omega) (all2 (fun g hm => (iQ63_0 _ hm)) (fun g hm => (iQ63_3 _ hm)))
       replace _m71 : Blk _w_340 b_p t_p [(.slice Az71_0 ((bpT tb ((bpT ta _p0 _p3).L) ((bpT ta _p0 _p3).F)).L).length Cz71_0), (.int .i64 _p1), (.int .i64 _p2), (.slice Az71_3 ((bpT tb ((bpT ta _p0 _p3).L) ((bpT ta _p0 _p3).F)).F).length Cz71_3), (.bool _p4)] := _m71
       have _S_341 := (_S_335.step _cw_340 (all3 (.inr (mAL _ (mAL _ (mSg.2 rfl)))) (inCall _inz63_0 (by omega) (.inr (mAL _ (mAL _ (mSg.2 rfl)))) (fun i hm => .inr (mAL _ (mAR _ hm))) (fun i hm => .inr (mAR _ hm))) (inCall _inz63_3 (by omega) (.inr (mAL _ (mAL _ (mSg.2 rfl)))) (fun i hm => .inr (mAL _ (mAR _ hm))) (fun i hm => .inr (mAR _ hm)))))
       refine ⟨_S_341, ?_⟩
       refine DR_one 18 (by kernel_rfl) ?_
       refine DO_s rfl rfl rfl ?_
       have _f_342 := (_m6.ch _cw_340 (nin3 (by omega) (no_hi hiz63_0 (by omega)) (no_hi hiz63_3 (by omega))))
       refine s_storeA (off := 0) 3 _f_342 sz61 rfl (us := [(.int .i64 ((bpT ta _p0 _p3).f)), (.int .i64 ((bpT ta _p0 _p3).l)), (.bool ((bpT ta _p0 _p3).n))]) rfl rfl rfl rfl fun _w_343 _m_344 _cw_343 => ?_
       have _cw_343z := _cw_343.size
       have E := E.step _cw_343 (oneL (by omega))
       replace _m_344 : Blk _w_343 _b6 61 [(.int .i64 ((bpT ta _p0 _p3).f)), (.int .i64 ((bpT ta _p0 _p3).l)), (.bool ((bpT ta _p0 _p3).n))] := _m_344
       have _S_345 := (_S_341.step _cw_343 (oneL (by omega)))
       refine ⟨_S_345, ?_⟩
       refine DR_one 19 (by kernel_rfl) ?_
       refine DO_s rfl rfl rfl ?_
       have _f_346 := ((((_m7.ch _cw_314 (nin3 (by omega) (no_hi _lt_p0 (by omega)) (no_hi _lt_p3 (by omega)))).ch0 _cw_334).ch _cw_340 (nin3 (by omega) nQ63_0_7 nQ63_3_7)).ch _cw_343 (ne1 (by omega)))
       refine s_storeA (off := 0) 3 _f_346 sz61 rfl (us := [(.int .i64 ((bpT tb ((bpT ta _p0 _p3).L) ((bpT ta _p0 _p3).F)).f)), (.int .i64 ((bpT tb ((bpT ta _p0 _p3).L) ((bpT ta _p0 _p3).F)).l)), (.bool ((bpT tb ((bpT ta _p0 _p3).L) ((bpT ta _p0 _p3).F)).n))]) rfl rfl rfl rfl fun _w_347 _m_348 _cw_347 => ?_
       have _cw_347z := _cw_347.size
       have E := E.step _cw_347 (oneL (by omega))
       replace _m_348 : Blk _w_347 _b7 61 [(.int .i64 ((bpT tb ((bpT ta _p0 _p3).L) ((bpT ta _p0 _p3).F)).f)), (.int .i64 ((bpT tb ((bpT ta _p0 _p3).L) ((bpT ta _p0 _p3).F)).l)), (.bool ((bpT tb ((bpT ta _p0 _p3).L) ((bpT ta _p0 _p3).F)).n))] := _m_348
       have _S_349 := (_S_345.step _cw_347 (oneL (by omega)))
       refine ⟨_S_349, ?_⟩
       refine DR_done (by kernel_rfl) ?_
       refine thn_nrm ?_
       have _f_350 := ((_qz71_0.ch _cw_343 (fun g hg hm => by have _h0 := mSg.1 hm; exact nQ71_0_6 (by first | exact hg | exact _h0 ▸ hg))).ch _cw_347 (fun g hg hm => by have _h0 := mSg.1 hm; exact nQ71_0_7 (by first | exact hg | exact _h0 ▸ hg)))
       have _f_351 := ((_qz71_3.ch _cw_343 (fun g hg hm => by have _h0 := mSg.1 hm; exact nQ71_3_6 (by first | exact hg | exact _h0 ▸ hg))).ch _cw_347 (fun g hg hm => by have _h0 := mSg.1 hm; exact nQ71_3_7 (by first | exact hg | exact _h0 ▸ hg)))
       have _f_352 := ((_m71.ch _cw_343 (ne1 (by omega))).ch _cw_347 (ne1 (by omega)))
       have _f_353 := (_m_344.ch _cw_347 (ne1 (by omega)))
       have _f_354 := ((((((_f_97.ch0 _cw_308).ch _cw_314 (lwr3 (by omega) _ll_p0 (by omega) _ll_p3 (by omega))).ch0 _cw_334).ch _cw_340 (lwr3 (by omega) _loz63_0 (by omega) _loz63_3 (by omega))).ch _cw_343 (tfr1 (by omega))).ch _cw_347 (tfr1 (by omega)))
       have _f_355 := (((((((_m4.ch0 _cw_96).ch0 _cw_308).ch _cw_314 (nin3 (by omega) (no_hi _lt_p0 (by omega)) (no_hi _lt_p3 (by omega)))).ch0 _cw_334).ch _cw_340 (nin3 (by omega) nQ63_0_4 nQ63_3_4)).ch _cw_343 (ne1 (by omega))).ch _cw_347 (ne1 (by omega)))
       exact _J_76 _ _ _ _ _b6 _b7 (Sub.cons rfl (Sub.cons rfl (Sub.cons rfl (Sub.cons rfl (Sub.cons rfl (Sub.cons rfl (Sub.nil _))))))) E (by omega) _f_350 iQ71_0 _nbz71_0 _f_351 iQ71_3 _nbz71_3 _djz71_0z71_3 _f_352 _f_353 (by omega) (by omega) nQ71_0_6 nQ71_3_6 _m_348 (by omega) (by omega) nQ71_0_7 nQ71_3_7 (by omega) _f_354 _f_355 nQ71_0_4 nQ71_3_4
     ·refine DO_s rfl rfl rfl ?_
      refine s_alloc zr61 fun _b6 _w_356 _m6 _cw_356 _e6 => ?_
      have _cw_356z := _cw_356.size
      have E := E.trans _cw_356.of_nil
      have _z6 := _m6.lt
      replace _m6 : Blk _w_356 _b6 61 [(.int .i64 0), (.int .i64 0), (.bool false)] := _m6
      have _S_357 := (_S_309.trans _cw_356.of_nil)
      refine ⟨_S_357, ?_⟩
      refine DR_one 7 (by kernel_rfl) ?_
      refine DO_s rfl rfl rfl ?_
      have _f_358 := ((((m_p.ch0 _cw_2).ch0 _cw_96).ch0 _cw_308).ch0 _cw_356)
      have _f_359 := ((((_h_p0.ch0 _cw_2).ch0 _cw_96).ch0 _cw_308).ch0 _cw_356)
      have _f_360 := ((((_h_p3.ch0 _cw_2).ch0 _cw_96).ch0 _cw_308).ch0 _cw_356)
      have _f_361 := ((_tr61.ch0 _cw_308).ch0 _cw_356)
      refine Step.call (r_call (xs := [.tmp 56, .tmp 62]) fk31 rfl) (ih _f_358 _f_359 _nb_p0 (Lo.down _ll_p0 (by omega)) _f_360 _nb_p3 (Lo.down _ll_p3 (by omega)) _dj_p0_p3 _f_361 (by omega) (by omega) oa ⟨by omega, by omega⟩ (by omega)) fun _v63 _w_362 _q63 => ?_
      obtain ⟨_z63_0, _z63_3, rfl, _m63, _qz63_0, _inz63_0, _nbz63_0, _qz63_3, _inz63_3, _nbz63_3, _djz63_0z63_3, _cw_362⟩ := _q63
      have _cw_362z := _cw_362.size
      have E := E.step _cw_362 (fun i hm => by rcases List.mem_cons.1 hm with _h0 | hm; (right; exact _h0 ▸ List.mem_cons_self ..); (rcases List.mem_append.1 hm with hm | hm; (exact (.inr (mCo _ (mAL _ hm)))); (exact (.inr (mCo _ (mAR _ hm))))))
      obtain ⟨Az63_0, Cz63_0, ez63_0⟩ := _qz63_0.val
      subst ez63_0
      have lz63_0 := _qz63_0.len
      have hiz63_0 := _qz63_0.lt
      have _loz63_0 : Lo L_p (.slice Az63_0 ((bpT ta _p0 _p3).L).length Cz63_0) := loOld _inz63_0 _nbz63_0 (by omega) (all2 _ll_p0 _ll_p3)
      obtain ⟨Az63_3, Cz63_3, ez63_3⟩ := _qz63_3.val
      subst ez63_3
      have lz63_3 := _qz63_3.len
      have hiz63_3 := _qz63_3.lt
      have _loz63_3 : Lo L_p (.slice Az63_3 ((bpT ta _p0 _p3).F).length Cz63_3) := loOld _inz63_3 _nbz63_3 (by omega) (all2 _ll_p0 _ll_p3)
      have nQ63_0_4 := nbOld _inz63_0 _nbz63_0 (show _b4 < _ by omega) (nin2 (no_in _ll_p0 _lt_p0 (by omega)) (no_in _ll_p3 _lt_p3 (by omega)))
      have nQ63_0_7 := nbOld _inz63_0 _nbz63_0 (show _b7 < _ by omega) (nin2 (no_in _ll_p0 _lt_p0 (by omega)) (no_in _ll_p3 _lt_p3 (by omega)))
      have nQ63_0_6 := nbOld _inz63_0 _nbz63_0 (show _b6 < _ by omega) (nin2 (no_in _ll_p0 _lt_p0 (by omega)) (no_in _ll_p3 _lt_p3 (by omega)))
      have iQ63_0 := inOldE E _inz63_0 _nbz63_0 (by omega) (all2 (fun g hm => (.inr (mCo _ (mAL _ hm)))) (fun g hm => (.inr (mCo _ (mAR _ hm)))))
      have nQ63_3_4 := nbOld _inz63_3 _nbz63_3 (show _b4 < _ by omega) (nin2 (no_in _ll_p0 _lt_p0 (by omega)) (no_in _ll_p3 _lt_p3 (by omega)))
      have nQ63_3_7 := nbOld _inz63_3 _nbz63_3 (show _b7 < _ by omega) (nin2 (no_in _ll_p0 _lt_p0 (by omega)) (no_in _ll_p3 _lt_p3 (by omega)))
      have nQ63_3_6 := nbOld _inz63_3 _nbz63_3 (show _b6 < _ by omega) (nin2 (no_in _ll_p0 _lt_p0 (by omega)) (no_in _ll_p3 _lt_p3 (by omega)))
      have iQ63_3 := inOldE E _inz63_3 _nbz63_3 (by omega) (all2 (fun g hm => (.inr (mCo _ (mAL _ hm)))) (fun g hm => (.inr (mCo _ (mAR _ hm)))))
      replace _m63 : Blk _w_362 b_p t_p [(.slice Az63_0 ((bpT ta _p0 _p3).L).length Cz63_0), (.int .i64 _p1), (.int .i64 _p2), (.slice Az63_3 ((bpT ta _p0 _p3).F).length Cz63_3), (.bool _p4)] := _m63
      have _S_363 := (_S_357.step _cw_362 (all3 (.inr (mAL _ (mAL _ (mSg.2 rfl)))) (fun i hm => .inr (mAL _ (mAR _ hm))) (fun i hm => .inr (mAR _ hm))))
      refine ⟨_S_363, ?_⟩
      refine DR_one 15 (by kernel_rfl) ?_
      refine DO_s rfl rfl rfl ?_
      have _f_364 := (((_tr69.ch0 _cw_308).ch0 _cw_356).ch _cw_362 (lwr3 (by omega) _ll_p0 (by omega) _ll_p3 (by omega)))
      refine Step.call (r_call (xs := [.tmp 64, .tmp 70]) fk31 rfl) (ih _m63 _qz63_0 _nbz63_0 (Lo.down _loz63_0 (by omega)) _qz63_3 _nbz63_3 (Lo.down _loz63_3 (by omega)) _djz63_0z63_3 _f_364 (by omega) (by omega) ob ⟨by omega, by omega⟩ (by omega)) fun _v71 _w_365 _q71 => ?_
      obtain ⟨_z71_0, _z71_3, rfl, _m71, _qz71_0, _inz71_0, _nbz71_0, _qz71_3, _inz71_3, _nbz71_3, _djz71_0z71_3, _cw_365⟩ := _q71
      have _cw_365z := _cw_365.size
      have E := E.step _cw_365 (fun i hm => by rcases List.mem_cons.1 hm with _h0 | hm; (right; exact _h0 ▸ List.mem_cons_self ..); (rcases List.mem_append.1 hm with hm | hm; (exact (iQ63_0 _ hm)); (exact (iQ63_3 _ hm))))
      obtain ⟨Az71_0, Cz71_0, ez71_0⟩ := _qz71_0.val
      subst ez71_0
      have lz71_0 := _qz71_0.len
      have hiz71_0 := _qz71_0.lt
      have _loz71_0 : Lo L_p (.slice Az71_0 ((bpT tb ((bpT ta _p0 _p3).L) ((bpT ta _p0 _p3).F)).L).length Cz71_0) := loOld _inz71_0 _nbz71_0 (by omega) (all2 _loz63_0 _loz63_3)
      obtain ⟨Az71_3, Cz71_3, ez71_3⟩ := _qz71_3.val
      subst ez71_3
      have lz71_3 := _qz71_3.len
      have hiz71_3 := _qz71_3.lt
      have _loz71_3 : Lo L_p (.slice Az71_3 ((bpT tb ((bpT ta _p0 _p3).L) ((bpT ta _p0 _p3).F)).F).length Cz71_3) := loOld _inz71_3 _nbz71_3 (by omega) (all2 _loz63_0 _loz63_3)
      have nQ71_0_4 := nbOld _inz71_0 _nbz71_0 (show _b4 < _ by omega) (nin2 nQ63_0_4 nQ63_3_4)
      have nQ71_0_7 := nbOld _inz71_0 _nbz71_0 (show _b7 < _ by omega) (nin2 nQ63_0_7 nQ63_3_7)
      have nQ71_0_6 := nbOld _inz71_0 _nbz71_0 (show _b6 < _ by omega) (nin2 nQ63_0_6 nQ63_3_6)
      have iQ71_0 := inOldE E _inz71_0 _nbz71_0 (by omega) (all2 (fun g hm => (iQ63_0 _ hm)) (fun g hm => (iQ63_3 _ hm)))
      have nQ71_3_4 := nbOld _inz71_3 _nbz71_3 (show _b4 < _ by omega) (nin2 nQ63_0_4 nQ63_3_4)
      have nQ71_3_7 := nbOld _inz71_3 _nbz71_3 (show _b7 < _ by omega) (nin2 nQ63_0_7 nQ63_3_7)
      have nQ71_3_6 := nbOld _inz71_3 _nbz71_3 (show _b6 < _ by omega) (nin2 nQ63_0_6 nQ63_3_6)
      have iQ71_3 := inOldE E _inz71_3 _nbz71_3 (by omega) (all2 (fun g hm => (iQ63_0 _ hm)) (fun g hm => (iQ63_3 _ hm)))
      replace _m71 : Blk _w_365 b_p t_p [(.slice Az71_0 ((bpT tb ((bpT ta _p0 _p3).L) ((bpT ta _p0 _p3).F)).L).length Cz71_0), (.int .i64 _p1), (.int .i64 _p2), (.slice Az71_3 ((bpT tb ((bpT ta _p0 _p3).L) ((bpT ta _p0 _p3).F)).F).length Cz71_3), (.bool _p4)] := _m71
      have _S_366 := (_S_363.step _cw_365 (all3 (.inr (mAL _ (mAL _ (mSg.2 rfl)))) (inCall _inz63_0 (by omega) (.inr (mAL _ (mAL _ (mSg.2 rfl)))) (fun i hm => .inr (mAL _ (mAR _ hm))) (fun i hm => .inr (mAR _ hm))) (inCall _inz63_3 (by omega) (.inr (mAL _ (mAL _ (mSg.2 rfl)))) (fun i hm => .inr (mAL _ (mAR _ hm))) (fun i hm => .inr (mAR _ hm)))))
      refine ⟨_S_366, ?_⟩
      refine DR_one 18 (by kernel_rfl) ?_
      refine DO_s rfl rfl rfl ?_
      have _f_367 := ((_m6.ch _cw_362 (nin3 (by omega) (no_hi _lt_p0 (by omega)) (no_hi _lt_p3 (by omega)))).ch _cw_365 (nin3 (by omega) nQ63_0_6 nQ63_3_6))
      refine s_storeA (off := 0) 3 _f_367 sz61 rfl (us := [(.int .i64 ((bpT ta _p0 _p3).f)), (.int .i64 ((bpT ta _p0 _p3).l)), (.bool ((bpT ta _p0 _p3).n))]) rfl rfl rfl rfl fun _w_368 _m_369 _cw_368 => ?_
      have _cw_368z := _cw_368.size
      have E := E.step _cw_368 (oneL (by omega))
      replace _m_369 : Blk _w_368 _b6 61 [(.int .i64 ((bpT ta _p0 _p3).f)), (.int .i64 ((bpT ta _p0 _p3).l)), (.bool ((bpT ta _p0 _p3).n))] := _m_369
      have _S_370 := (_S_366.step _cw_368 (oneL (by omega)))
      refine ⟨_S_370, ?_⟩
      refine DR_one 19 (by kernel_rfl) ?_
      refine DO_s rfl rfl rfl ?_
      have _f_371 := ((((_m7.ch0 _cw_356).ch _cw_362 (nin3 (by omega) (no_hi _lt_p0 (by omega)) (no_hi _lt_p3 (by omega)))).ch _cw_365 (nin3 (by omega) nQ63_0_7 nQ63_3_7)).ch _cw_368 (ne1 (by omega)))
      refine s_storeA (off := 0) 3 _f_371 sz61 rfl (us := [(.int .i64 ((bpT tb ((bpT ta _p0 _p3).L) ((bpT ta _p0 _p3).F)).f)), (.int .i64 ((bpT tb ((bpT ta _p0 _p3).L) ((bpT ta _p0 _p3).F)).l)), (.bool ((bpT tb ((bpT ta _p0 _p3).L) ((bpT ta _p0 _p3).F)).n))]) rfl rfl rfl rfl fun _w_372 _m_373 _cw_372 => ?_
      have _cw_372z := _cw_372.size
      have E := E.step _cw_372 (oneL (by omega))
      replace _m_373 : Blk _w_372 _b7 61 [(.int .i64 ((bpT tb ((bpT ta _p0 _p3).L) ((bpT ta _p0 _p3).F)).f)), (.int .i64 ((bpT tb ((bpT ta _p0 _p3).L) ((bpT ta _p0 _p3).F)).l)), (.bool ((bpT tb ((bpT ta _p0 _p3).L) ((bpT ta _p0 _p3).F)).n))] := _m_373
      have _S_374 := (_S_370.step _cw_372 (oneL (by omega)))
      refine ⟨_S_374, ?_⟩
      refine DR_done (by kernel_rfl) ?_
      refine thn_nrm ?_
      have _f_375 := ((_qz71_0.ch _cw_368 (fun g hg hm => by have _h0 := mSg.1 hm; exact nQ71_0_6 (by first | exact hg | exact _h0 ▸ hg))).ch _cw_372 (fun g hg hm => by have _h0 := mSg.1 hm; exact nQ71_0_7 (by first | exact hg | exact _h0 ▸ hg)))
      have _f_376 := ((_qz71_3.ch _cw_368 (fun g hg hm => by have _h0 := mSg.1 hm; exact nQ71_3_6 (by first | exact hg | exact _h0 ▸ hg))).ch _cw_372 (fun g hg hm => by have _h0 := mSg.1 hm; exact nQ71_3_7 (by first | exact hg | exact _h0 ▸ hg)))
      have _f_377 := ((_m71.ch _cw_368 (ne1 (by omega))).ch _cw_372 (ne1 (by omega)))
      have _f_378 := (_m_369.ch _cw_372 (ne1 (by omega)))
      have _f_379 := ((((((_f_97.ch0 _cw_308).ch0 _cw_356).ch _cw_362 (lwr3 (by omega) _ll_p0 (by omega) _ll_p3 (by omega))).ch _cw_365 (lwr3 (by omega) _loz63_0 (by omega) _loz63_3 (by omega))).ch _cw_368 (tfr1 (by omega))).ch _cw_372 (tfr1 (by omega)))
      have _f_380 := (((((((_m4.ch0 _cw_96).ch0 _cw_308).ch0 _cw_356).ch _cw_362 (nin3 (by omega) (no_hi _lt_p0 (by omega)) (no_hi _lt_p3 (by omega)))).ch _cw_365 (nin3 (by omega) nQ63_0_4 nQ63_3_4)).ch _cw_368 (ne1 (by omega))).ch _cw_372 (ne1 (by omega)))
      exact _J_76 _ _ _ _ _b6 _b7 (Sub.cons rfl (Sub.cons rfl (Sub.cons rfl (Sub.cons rfl (Sub.cons rfl (Sub.cons rfl (Sub.nil _))))))) E (by omega) _f_375 iQ71_0 _nbz71_0 _f_376 iQ71_3 _nbz71_3 _djz71_0z71_3 _f_377 _f_378 (by omega) (by omega) nQ71_0_6 nQ71_3_6 _m_373 (by omega) (by omega) nQ71_0_7 nQ71_3_7 (by omega) _f_379 _f_380 nQ71_0_4 nQ71_3_4
   ·have _kb_73 := _h54
    have _h54 := bf_d _h54
    refine W_seq fun _K_381 _hK_381 => ?_
    refine W_region ?_
    refine WL_step rfl rfl (r_eql rfl rfl) ?_
    refine WL_step rfl rfl (r_assign rfl) ?_
    refine WL_nil ?_
    refine thn_nrm (_hK_381 _ _ ?_)
    clear _hK_381
    refine W_cond rfl (fun _h89 => ?_) (fun _h89 => ?_)
    ·have _kb_382 := _h89
     have _h89 := bt_d _h89
     obtain ⟨ta, tb, _hk0, _hk1, oa, ob, sab, ga, gb⟩ := hok.kk2 (by omega)
     have za := bpT_len ta _p0 _p3
     have zb := bpT_len tb (bpT ta _p0 _p3).L (bpT ta _p0 _p3).F
     have eb := bp4 (L := _p0) (F := _p3) hok (by omega) _hk0 _hk1
     refine W_seq fun _K_383 _hK_383 => ?_
     have _J_385 : ∀ (lj : KL) (_wj_384 : World) (ju0_0 : Value) (ju0_3 : Value) (jb8 : Nat) (jb9 : Nat), Go.KLib.Sub [(0, (.pointer (some ⟨b_p, 0, none⟩))), (1, (.pointer (some p_x))), (4, (.pointer (some ⟨_b4, 0, none⟩))), (8, (.pointer (some ⟨jb8, 0, none⟩))), (9, (.pointer (some ⟨jb9, 0, none⟩))), (16, (.int .i64 x.tok.kind))] lj → Ch (b_p :: (bl (.slice _A_p0 _p0.length _C_p0) ++ bl (.slice _A_p3 _p3.length _C_p3))) w _wj_384 → _w_2.heap.size ≤ _wj_384.heap.size → Ol ics 3 1 _wj_384 ju0_0 ((bpT tb ((bpT ta _p0 _p3).L) ((bpT ta _p0 _p3).F)).L) → (∀ g ∈ bl ju0_0, w.heap.size ≤ g ∨ g ∈ (b_p :: (bl (.slice _A_p0 _p0.length _C_p0) ++ bl (.slice _A_p3 _p3.length _C_p3)))) → b_p ∉ bl ju0_0 → Ol ics 3 1 _wj_384 ju0_3 ((bpT tb ((bpT ta _p0 _p3).L) ((bpT ta _p0 _p3).F)).F) → (∀ g ∈ bl ju0_3, w.heap.size ≤ g ∨ g ∈ (b_p :: (bl (.slice _A_p0 _p0.length _C_p0) ++ bl (.slice _A_p3 _p3.length _C_p3)))) → b_p ∉ bl ju0_3 → (∀ g ∈ bl ju0_0, g ∉ bl ju0_3) → Blk _wj_384 b_p t_p [ju0_0, (.int .i64 _p1), (.int .i64 _p2), ju0_3, (.bool _p4)] → Blk _wj_384 jb8 61 [(.int .i64 ((bpT ta _p0 _p3).f)), (.int .i64 ((bpT ta _p0 _p3).l)), (.bool ((bpT ta _p0 _p3).n))] → _w_2.heap.size ≤ jb8 → jb8 < _wj_384.heap.size → jb8 ∉ bl ju0_0 → jb8 ∉ bl ju0_3 → Blk _wj_384 jb9 61 [(.int .i64 ((bpT tb ((bpT ta _p0 _p3).L) ((bpT ta _p0 _p3).F)).f)), (.int .i64 ((bpT tb ((bpT ta _p0 _p3).L) ((bpT ta _p0 _p3).F)).l)), (.bool ((bpT tb ((bpT ta _p0 _p3).L) ((bpT ta _p0 _p3).F)).n))] → _w_2.heap.size ≤ jb9 → jb9 < _wj_384.heap.size → jb9 ∉ bl ju0_0 → jb9 ∉ bl ju0_3 → jb9 ≠ jb8 → At _wj_384 LT_x L_p p_x ([.int .i64 x.tok.kind, .int .i64 x.tok.letter, .int .i64 x.tok.low, .int .i64 x.tok.high, (.slice _A_x _ps_x.length _C_x)]) → Blk _wj_384 _b4 61 [(.int .i64 0), (.int .i64 0), (.bool false)] → _b4 ∉ bl ju0_0 → _b4 ∉ bl ju0_3 → _K_383 lj _wj_384 := by
      intro lj _wj_384 ju0_0 ju0_3 jb8 jb9 _jsub E szjK_383 _qju0_0 inju0_0 nbju0_0 _qju0_3 inju0_3 nbju0_3 _djju0_0ju0_3 mj0 _mjb8 _ejb8 _zjb8 _nbjb8ju0_0 _nbjb8ju0_3 _mjb9 _ejb9 _zjb9 _nbjb9ju0_0 _nbjb9ju0_3 njb9jb8 _F9_0 _F9_1 _nbz9_ju0_0_b4 _nbz9_ju0_3_b4
      refine _hK_383 _ _ (W_sub _jsub ?_)
      clear _hK_383
      have EJ_386 := E
      have EJ_386z := EJ_386.size
      obtain ⟨_Aju0_0, _Cju0_0, _eju0_0⟩ := _qju0_0.val
      subst _eju0_0
      have _lju0_0 := _qju0_0.len
      have _hiju0_0 := _qju0_0.lt
      have _loju0_0 : Lo L_p (.slice _Aju0_0 ((bpT tb ((bpT ta _p0 _p3).L) ((bpT ta _p0 _p3).F)).L).length _Cju0_0) := fun g hm => by have z2hm := _hiju0_0 _ hm; rcases inju0_0 _ hm with _z1 | _z1; (omega); (rcases List.mem_cons.1 _z1 with _z1 | _z1; (exact absurd (_z1 ▸ hm) nbju0_0); (replace hm := _z1; rcases List.mem_append.1 hm with hm | hm; (have _h1 := _ll_p0 _ hm; have _h2 := _lt_p0 _ hm; omega); (have _h1 := _ll_p3 _ hm; have _h2 := _lt_p3 _ hm; omega)))
      obtain ⟨_Aju0_3, _Cju0_3, _eju0_3⟩ := _qju0_3.val
      subst _eju0_3
      have _lju0_3 := _qju0_3.len
      have _hiju0_3 := _qju0_3.lt
      have _loju0_3 : Lo L_p (.slice _Aju0_3 ((bpT tb ((bpT ta _p0 _p3).L) ((bpT ta _p0 _p3).F)).F).length _Cju0_3) := fun g hm => by have z2hm := _hiju0_3 _ hm; rcases inju0_3 _ hm with _z1 | _z1; (omega); (rcases List.mem_cons.1 _z1 with _z1 | _z1; (exact absurd (_z1 ▸ hm) nbju0_3); (replace hm := _z1; rcases List.mem_append.1 hm with hm | hm; (have _h1 := _ll_p0 _ hm; have _h2 := _lt_p0 _ hm; omega); (have _h1 := _ll_p3 _ hm; have _h2 := _lt_p3 _ hm; omega)))
      refine W_seq fun _K_387 _hK_387 => ?_
      refine W_region ?_
      refine WL_step rfl rfl (r_move rfl) ?_
      refine WL_step rfl rfl (r_fieldAddr fa61_1 rfl) ?_
      refine WL_step rfl rfl (r_loadAt _mjb8.at_ agg3 rfl rfl) ?_
      refine WL_step rfl rfl (r_fieldAddr fa61_0 rfl) ?_
      refine WL_step rfl rfl (r_loadAt _mjb9.at_ agg3 rfl rfl) ?_
      refine WL_s rfl rfl ?_
      refine Step.call (r_call (xs := [.tmp 107, .tmp 109, .tmp 111]) fk55 rfl) (c_impl_Positions_follow mj0 (by omega) _qju0_0 nbju0_0 (Lo.down _loju0_0 (by omega)) _qju0_3 nbju0_3 (Lo.down _loju0_3 (by omega)) _djju0_0ju0_3 _ _ (by omega) (L_p := 0)) fun _v112 _w_388 _q112 => ?_
      obtain ⟨_z112_0, _z112_3, rfl, _m112, _qz112_0, _inz112_0, _nbz112_0, _qz112_3, _inz112_3, _nbz112_3, _djz112_0z112_3, _cw_388⟩ := _q112
      have _cw_388z := _cw_388.size
      have E := E.step _cw_388 (fun i hm => by rcases List.mem_cons.1 hm with _h0 | hm; (right; exact _h0 ▸ List.mem_cons_self ..); (rcases List.mem_append.1 hm with hm | hm; (exact inju0_0 _ hm); (exact inju0_3 _ hm)))
      obtain ⟨Az112_0, Cz112_0, ez112_0⟩ := _qz112_0.val
      subst ez112_0
      have lz112_0 := _qz112_0.len
      have hiz112_0 := _qz112_0.lt
      have _loz112_0 : Lo L_p (.slice Az112_0 (((bpT tb ((bpT ta _p0 _p3).L) ((bpT ta _p0 _p3).F)).L)).length Cz112_0) := loOld _inz112_0 _nbz112_0 (by omega) (all2 _loju0_0 _loju0_3)
      obtain ⟨Az112_3, Cz112_3, ez112_3⟩ := _qz112_3.val
      subst ez112_3
      have lz112_3 := _qz112_3.len
      have hiz112_3 := _qz112_3.lt
      have _loz112_3 : Lo L_p (.slice Az112_3 (lkL ((bpT ta _p0 _p3).l) ((bpT tb ((bpT ta _p0 _p3).L) ((bpT ta _p0 _p3).F)).f) ((bpT tb ((bpT ta _p0 _p3).L) ((bpT ta _p0 _p3).F)).F)).length Cz112_3) := loOld _inz112_3 _nbz112_3 (by omega) (all2 _loju0_0 _loju0_3)
      have nQ112_0_4 := nbOld _inz112_0 _nbz112_0 (show _b4 < _ by omega) (nin2 _nbz9_ju0_0_b4 _nbz9_ju0_3_b4)
      have _nbz112q_z112_0_jb8 := nbOld _inz112_0 _nbz112_0 (show jb8 < _ by omega) (nin2 _nbjb8ju0_0 _nbjb8ju0_3)
      have _nbz112q_z112_0_jb9 := nbOld _inz112_0 _nbz112_0 (show jb9 < _ by omega) (nin2 _nbjb9ju0_0 _nbjb9ju0_3)
      have iQ112_0 := inOldE E _inz112_0 _nbz112_0 (by omega) (all2 (fun g hm => inju0_0 _ hm) (fun g hm => inju0_3 _ hm))
      have nQ112_3_4 := nbOld _inz112_3 _nbz112_3 (show _b4 < _ by omega) (nin2 _nbz9_ju0_0_b4 _nbz9_ju0_3_b4)
      have _nbz112q_z112_3_jb8 := nbOld _inz112_3 _nbz112_3 (show jb8 < _ by omega) (nin2 _nbjb8ju0_0 _nbjb8ju0_3)
      have _nbz112q_z112_3_jb9 := nbOld _inz112_3 _nbz112_3 (show jb9 < _ by omega) (nin2 _nbjb9ju0_0 _nbjb9ju0_3)
      have iQ112_3 := inOldE E _inz112_3 _nbz112_3 (by omega) (all2 (fun g hm => inju0_0 _ hm) (fun g hm => inju0_3 _ hm))
      replace _m112 : Blk _w_388 b_p t_p [(.slice Az112_0 (((bpT tb ((bpT ta _p0 _p3).L) ((bpT ta _p0 _p3).F)).L)).length Cz112_0), (.int .i64 _p1), (.int .i64 _p2), (.slice Az112_3 (lkL ((bpT ta _p0 _p3).l) ((bpT tb ((bpT ta _p0 _p3).L) ((bpT ta _p0 _p3).F)).f) ((bpT tb ((bpT ta _p0 _p3).L) ((bpT ta _p0 _p3).F)).F)).length Cz112_3), (.bool _p4)] := _m112
      refine WL_nil ?_
      refine thn_nrm (_hK_387 _ _ ?_)
      clear _hK_387
      refine W_seq fun _K_389 _hK_389 => ?_
      refine W_region ?_
      refine WL_step rfl rfl (r_fieldAddr fa61_0 rfl) ?_
      have _f_390 := (_mjb8.ch _cw_388 (nin3 (by omega) _nbjb8ju0_0 _nbjb8ju0_3))
      refine WL_step rfl rfl (r_loadAt _f_390.at_ agg3 rfl rfl) ?_
      refine WL_step rfl rfl (r_fieldAddr fa61_1 rfl) ?_
      have _f_391 := (_mjb9.ch _cw_388 (nin3 (by omega) _nbjb9ju0_0 _nbjb9ju0_3))
      refine WL_step rfl rfl (r_loadAt _f_391.at_ agg3 rfl rfl) ?_
      refine WL_step rfl rfl (r_fieldAddr fa61_2 rfl) ?_
      refine WL_step rfl rfl (r_loadAt _f_390.at_ agg4 rfl rfl) ?_
      refine WL_step rfl rfl (r_move rfl) ?_
      refine WL_split (d := 119) rfl (fun _h119 => ?_) (fun _h119 => ?_)
      ·have _kb_392 := _h119
       refine WL_step rfl rfl (r_fieldAddr fa61_2 rfl) ?_
       refine WL_step rfl rfl (r_loadAt _f_391.at_ agg4 rfl rfl) ?_
       refine WL_step rfl rfl (r_pickT rfl rfl) ?_
       refine WL_step rfl rfl (r_build (parts := [(0, .tmp 114), (1, .tmp 116), (2, .tmp 122)]) (cells := [(.int .i64 ((bpT ta _p0 _p3).f)), (.int .i64 ((bpT tb ((bpT ta _p0 _p3).L) ((bpT ta _p0 _p3).F)).l)), (.bool ((bpT tb ((bpT ta _p0 _p3).L) ((bpT ta _p0 _p3).F)).n))]) zr61 pl61 rfl rfl) ?_
       refine WL_s rfl rfl ?_
       refine s_alloc zr61 fun _b10 _w_393 _m10 _cw_393 _e10 => ?_
       have _cw_393z := _cw_393.size
       have E := E.trans _cw_393.of_nil
       have _z10 := _m10.lt
       replace _m10 : Blk _w_393 _b10 61 [(.int .i64 0), (.int .i64 0), (.bool false)] := _m10
       refine WL_s rfl rfl ?_
       refine s_storeA (off := 0) 3 _m10 sz61 rfl (us := [(.int .i64 ((bpT ta _p0 _p3).f)), (.int .i64 ((bpT tb ((bpT ta _p0 _p3).L) ((bpT ta _p0 _p3).F)).l)), (.bool ((bpT tb ((bpT ta _p0 _p3).L) ((bpT ta _p0 _p3).F)).n))]) rfl rfl rfl rfl fun _w_394 _m_395 _cw_394 => ?_
       have _cw_394z := _cw_394.size
       have E := E.step _cw_394 (oneL (by omega))
       replace _m_395 : Blk _w_394 _b10 61 [(.int .i64 ((bpT ta _p0 _p3).f)), (.int .i64 ((bpT tb ((bpT ta _p0 _p3).L) ((bpT ta _p0 _p3).F)).l)), (.bool ((bpT tb ((bpT ta _p0 _p3).L) ((bpT ta _p0 _p3).F)).n))] := _m_395
       refine WL_nil ?_
       refine thn_nrm (_hK_389 _ _ ?_)
       clear _hK_389
       refine W_seq fun _K_396 _hK_396 => ?_
       refine W_seq fun _K_397 _hK_397 => ?_
       refine W_region ?_
       refine WL_step rfl rfl (r_fieldAddr fa61_2 rfl) ?_
       have _f_398 := ((_f_390.ch0 _cw_393).ch _cw_394 (ne1 (by omega)))
       refine WL_step rfl rfl (r_loadAt _f_398.at_ agg4 rfl rfl) ?_
       refine WL_nil ?_
       refine thn_nrm (_hK_397 _ _ ?_)
       clear _hK_397
       refine W_condTk rfl _kb_392 ?_
       refine W_region ?_
       refine WL_step rfl rfl (r_fieldAddr fa61_0 rfl) ?_
       refine WL_step rfl rfl (r_loadAt _m_395.at_ agg3 rfl rfl) ?_
       refine WL_step rfl rfl (r_fieldAddr fa61_0 rfl) ?_
       have _f_399 := ((_f_391.ch0 _cw_393).ch _cw_394 (ne1 (by omega)))
       refine WL_step rfl rfl (r_loadAt _f_399.at_ agg3 rfl rfl) ?_
       refine WL_step rfl rfl (r_or rfl rfl) ?_
       refine WL_step rfl rfl (r_fieldAddr fa61_0 rfl) ?_
       refine WL_s rfl rfl ?_
       refine s_store1 (off := 0) _m_395 sz3 rfl rfl rfl rfl fun _w_400 _m_401 _cw_400 => ?_
       have _cw_400z := _cw_400.size
       have E := E.step _cw_400 (oneL (by omega))
       replace _m_401 : Blk _w_400 _b10 61 [(.int .i64 (ior ((bpT ta _p0 _p3).f) ((bpT tb ((bpT ta _p0 _p3).L) ((bpT ta _p0 _p3).F)).f))), (.int .i64 ((bpT tb ((bpT ta _p0 _p3).L) ((bpT ta _p0 _p3).F)).l)), (.bool ((bpT tb ((bpT ta _p0 _p3).L) ((bpT ta _p0 _p3).F)).n))] := _m_401
       refine WL_nil ?_
       refine thn_nrm (_hK_396 _ _ ?_)
       clear _hK_396
       refine W_seq fun _K_402 _hK_402 => ?_
       refine W_seq fun _K_403 _hK_403 => ?_
       refine W_region ?_
       refine WL_step rfl rfl (r_fieldAddr fa61_2 rfl) ?_
       have _f_404 := (_f_399.ch _cw_400 (ne1 (by omega)))
       refine WL_step rfl rfl (r_loadAt _f_404.at_ agg4 rfl rfl) ?_
       refine WL_nil ?_
       refine thn_nrm (_hK_403 _ _ ?_)
       clear _hK_403
       refine W_cond rfl (fun _h133 => ?_) (fun _h133 => ?_)
       ·have _kb_405 := _h133
        refine W_region ?_
        refine WL_step rfl rfl (r_fieldAddr fa61_1 rfl) ?_
        refine WL_step rfl rfl (r_loadAt _m_401.at_ agg3 rfl rfl) ?_
        refine WL_step rfl rfl (r_fieldAddr fa61_1 rfl) ?_
        have _f_406 := (_f_398.ch _cw_400 (ne1 (by omega)))
        refine WL_step rfl rfl (r_loadAt _f_406.at_ agg3 rfl rfl) ?_
        refine WL_step rfl rfl (r_or rfl rfl) ?_
        refine WL_step rfl rfl (r_fieldAddr fa61_1 rfl) ?_
        refine WL_s rfl rfl ?_
        refine s_store1 (off := 1) _m_401 sz3 rfl rfl rfl rfl fun _w_407 _m_408 _cw_407 => ?_
        have _cw_407z := _cw_407.size
        have E := E.step _cw_407 (oneL (by omega))
        replace _m_408 : Blk _w_407 _b10 61 [(.int .i64 (ior ((bpT ta _p0 _p3).f) ((bpT tb ((bpT ta _p0 _p3).L) ((bpT ta _p0 _p3).F)).f))), (.int .i64 (ior ((bpT tb ((bpT ta _p0 _p3).L) ((bpT ta _p0 _p3).F)).l) ((bpT ta _p0 _p3).l))), (.bool ((bpT tb ((bpT ta _p0 _p3).L) ((bpT ta _p0 _p3).F)).n))] := _m_408
        refine WL_nil ?_
        refine thn_nrm (_hK_402 _ _ ?_)
        clear _hK_402
        refine W_seq fun _K_409 _hK_409 => ?_
        refine W_region ?_
        refine WL_step rfl rfl (r_loadAtA0 _m_408.at_ agg61 sz61 rfl) ?_
        refine WL_s rfl rfl ?_
        have _f_410 := (((((_F9_1.ch _cw_388 (nin3 (by omega) _nbz9_ju0_0_b4 _nbz9_ju0_3_b4)).ch0 _cw_393).ch _cw_394 (ne1 (by omega))).ch _cw_400 (ne1 (by omega))).ch _cw_407 (ne1 (by omega)))
        refine s_storeA (off := 0) 3 _f_410 sz61 rfl (us := [(.int .i64 (ior ((bpT ta _p0 _p3).f) ((bpT tb ((bpT ta _p0 _p3).L) ((bpT ta _p0 _p3).F)).f))), (.int .i64 (ior ((bpT tb ((bpT ta _p0 _p3).L) ((bpT ta _p0 _p3).F)).l) ((bpT ta _p0 _p3).l))), (.bool ((bpT tb ((bpT ta _p0 _p3).L) ((bpT ta _p0 _p3).F)).n))]) rfl rfl rfl rfl fun _w_411 _m_412 _cw_411 => ?_
        have _cw_411z := _cw_411.size
        have E := E.step _cw_411 (oneL (by omega))
        replace _m_412 : Blk _w_411 _b4 61 [(.int .i64 (ior ((bpT ta _p0 _p3).f) ((bpT tb ((bpT ta _p0 _p3).L) ((bpT ta _p0 _p3).F)).f))), (.int .i64 (ior ((bpT tb ((bpT ta _p0 _p3).L) ((bpT ta _p0 _p3).F)).l) ((bpT ta _p0 _p3).l))), (.bool ((bpT tb ((bpT ta _p0 _p3).L) ((bpT ta _p0 _p3).F)).n))] := _m_412
        refine WL_nil ?_
        refine thn_nrm (_hK_409 _ _ ?_)
        clear _hK_409
        refine W_ret (inB_ret (thn_ret ?_))
        clear _hK_3
        have _f_413 := (((((_m112.ch0 _cw_393).ch _cw_394 (ne1 (by omega))).ch _cw_400 (ne1 (by omega))).ch _cw_407 (ne1 (by omega))).ch _cw_411 (ne1 (by omega)))
        have _f_414 := (((((_qz112_0.ch0 _cw_393).ch _cw_394 (fun g hg hm => by have _h0 := mSg.1 hm; have _h2 := _loz112_0 _ hg; have _h3 := hiz112_0 _ hg; omega)).ch _cw_400 (fun g hg hm => by have _h0 := mSg.1 hm; have _h2 := _loz112_0 _ hg; have _h3 := hiz112_0 _ hg; omega)).ch _cw_407 (fun g hg hm => by have _h0 := mSg.1 hm; have _h2 := _loz112_0 _ hg; have _h3 := hiz112_0 _ hg; omega)).ch _cw_411 (fun g hg hm => by have _h0 := mSg.1 hm; exact nQ112_0_4 (by first | exact hg | exact _h0 ▸ hg)))
        have _o_415 : Ol ics 3 1 _w_411 (.slice Az112_0 (((bpT tb ((bpT ta _p0 _p3).L) ((bpT ta _p0 _p3).F)).L)).length Cz112_0) ((bpT x _p0 _p3).L) := by
          have hx := _f_414
          exact hx.eq (by rw [eb] <;> first | rfl | exact rbA _h119 | exact rbB _h119 | exact rbC _h119 | exact rbD _h119 | exact rbE _h119 | (rw [_h119]; simp; done) | exact rbA _h133 | exact rbB _h133 | exact rbC _h133 | exact rbD _h133 | exact rbE _h133 | (rw [_h133]; simp; done) | (rw [hte]; done))
        have _f_416 := (((((_qz112_3.ch0 _cw_393).ch _cw_394 (fun g hg hm => by have _h0 := mSg.1 hm; have _h2 := _loz112_3 _ hg; have _h3 := hiz112_3 _ hg; omega)).ch _cw_400 (fun g hg hm => by have _h0 := mSg.1 hm; have _h2 := _loz112_3 _ hg; have _h3 := hiz112_3 _ hg; omega)).ch _cw_407 (fun g hg hm => by have _h0 := mSg.1 hm; have _h2 := _loz112_3 _ hg; have _h3 := hiz112_3 _ hg; omega)).ch _cw_411 (fun g hg hm => by have _h0 := mSg.1 hm; exact nQ112_3_4 (by first | exact hg | exact _h0 ▸ hg)))
        have _o_417 : Ol ics 3 1 _w_411 (.slice Az112_3 (lkL ((bpT ta _p0 _p3).l) ((bpT tb ((bpT ta _p0 _p3).L) ((bpT ta _p0 _p3).F)).f) ((bpT tb ((bpT ta _p0 _p3).L) ((bpT ta _p0 _p3).F)).F)).length Cz112_3) ((bpT x _p0 _p3).F) := by
          have hx := _f_416
          exact hx.eq (by rw [eb] <;> first | rfl | exact rbA _h119 | exact rbB _h119 | exact rbC _h119 | exact rbD _h119 | exact rbE _h119 | (rw [_h119]; simp; done) | exact rbA _h133 | exact rbB _h133 | exact rbC _h133 | exact rbD _h133 | exact rbE _h133 | (rw [_h133]; simp; done) | (rw [hte]; done))
        have _m_418 : Blk _w_411 b_p t_p [(.slice Az112_0 (((bpT tb ((bpT ta _p0 _p3).L) ((bpT ta _p0 _p3).F)).L)).length Cz112_0), .int .i64 _p1, .int .i64 _p2, (.slice Az112_3 (lkL ((bpT ta _p0 _p3).l) ((bpT tb ((bpT ta _p0 _p3).L) ((bpT ta _p0 _p3).F)).f) ((bpT tb ((bpT ta _p0 _p3).L) ((bpT ta _p0 _p3).F)).F)).length Cz112_3), .bool _p4] := by
          have hx := _f_413
          exact hx
        exact ret_intro [_] (resOf_loadA _m_412 rfl agg61 sz61 trivial) ⟨(.slice Az112_0 (((bpT tb ((bpT ta _p0 _p3).L) ((bpT ta _p0 _p3).F)).L)).length Cz112_0), (.slice Az112_3 (lkL ((bpT ta _p0 _p3).l) ((bpT tb ((bpT ta _p0 _p3).L) ((bpT ta _p0 _p3).F)).f) ((bpT tb ((bpT ta _p0 _p3).L) ((bpT ta _p0 _p3).F)).F)).length Cz112_3), (((congrArg (fun zq => (Value.agg #[.int .i64 zq, .int .i64 (ior ((bpT tb ((bpT ta _p0 _p3).L) ((bpT ta _p0 _p3).F)).l) ((bpT ta _p0 _p3).l)), .bool ((bpT tb ((bpT ta _p0 _p3).L) ((bpT ta _p0 _p3).F)).n)])) (by rw [eb] <;> first | rfl | exact rbA _h119 | exact rbB _h119 | exact rbC _h119 | exact rbD _h119 | exact rbE _h119 | (rw [_h119]; simp; done) | exact rbA _h133 | exact rbB _h133 | exact rbC _h133 | exact rbD _h133 | exact rbE _h133 | (rw [_h133]; simp; done) | (rw [hte]; done))).trans (congrArg (fun zq => (Value.agg #[.int .i64 ((bpT x _p0 _p3).f), .int .i64 zq, .bool ((bpT tb ((bpT ta _p0 _p3).L) ((bpT ta _p0 _p3).F)).n)])) (by rw [eb] <;> first | rfl | exact rbA _h119 | exact rbB _h119 | exact rbC _h119 | exact rbD _h119 | exact rbE _h119 | (rw [_h119]; simp; done) | exact rbA _h133 | exact rbB _h133 | exact rbC _h133 | exact rbD _h133 | exact rbE _h133 | (rw [_h133]; simp; done) | (rw [hte]; done)))).trans (congrArg (fun zq => (Value.agg #[.int .i64 ((bpT x _p0 _p3).f), .int .i64 ((bpT x _p0 _p3).l), .bool zq])) (by rw [eb] <;> first | rfl | exact rbA _h119 | exact rbB _h119 | exact rbC _h119 | exact rbD _h119 | exact rbE _h119 | (rw [_h119]; simp; done) | exact rbA _h133 | exact rbB _h133 | exact rbC _h133 | exact rbD _h133 | exact rbE _h133 | (rw [_h133]; simp; done) | (rw [hte]; done)))), _m_418, _o_415, iQ112_0, _nbz112_0, _o_417, iQ112_3, _nbz112_3, _djz112_0z112_3, E⟩
       ·have _kb_405 := _h133
        refine W_skip ?_
        refine thn_nrm (_hK_402 _ _ ?_)
        clear _hK_402
        refine W_seq fun _K_419 _hK_419 => ?_
        refine W_region ?_
        refine WL_step rfl rfl (r_loadAtA0 _m_401.at_ agg61 sz61 rfl) ?_
        refine WL_s rfl rfl ?_
        have _f_420 := ((((_F9_1.ch _cw_388 (nin3 (by omega) _nbz9_ju0_0_b4 _nbz9_ju0_3_b4)).ch0 _cw_393).ch _cw_394 (ne1 (by omega))).ch _cw_400 (ne1 (by omega)))
        refine s_storeA (off := 0) 3 _f_420 sz61 rfl (us := [(.int .i64 (ior ((bpT ta _p0 _p3).f) ((bpT tb ((bpT ta _p0 _p3).L) ((bpT ta _p0 _p3).F)).f))), (.int .i64 ((bpT tb ((bpT ta _p0 _p3).L) ((bpT ta _p0 _p3).F)).l)), (.bool ((bpT tb ((bpT ta _p0 _p3).L) ((bpT ta _p0 _p3).F)).n))]) rfl rfl rfl rfl fun _w_421 _m_422 _cw_421 => ?_
        have _cw_421z := _cw_421.size
        have E := E.step _cw_421 (oneL (by omega))
        replace _m_422 : Blk _w_421 _b4 61 [(.int .i64 (ior ((bpT ta _p0 _p3).f) ((bpT tb ((bpT ta _p0 _p3).L) ((bpT ta _p0 _p3).F)).f))), (.int .i64 ((bpT tb ((bpT ta _p0 _p3).L) ((bpT ta _p0 _p3).F)).l)), (.bool ((bpT tb ((bpT ta _p0 _p3).L) ((bpT ta _p0 _p3).F)).n))] := _m_422
        refine WL_nil ?_
        refine thn_nrm (_hK_419 _ _ ?_)
        clear _hK_419
        refine W_ret (inB_ret (thn_ret ?_))
        clear _hK_3
        have _f_423 := ((((_m112.ch0 _cw_393).ch _cw_394 (ne1 (by omega))).ch _cw_400 (ne1 (by omega))).ch _cw_421 (ne1 (by omega)))
        have _f_424 := ((((_qz112_0.ch0 _cw_393).ch _cw_394 (fun g hg hm => by have _h0 := mSg.1 hm; have _h2 := _loz112_0 _ hg; have _h3 := hiz112_0 _ hg; omega)).ch _cw_400 (fun g hg hm => by have _h0 := mSg.1 hm; have _h2 := _loz112_0 _ hg; have _h3 := hiz112_0 _ hg; omega)).ch _cw_421 (fun g hg hm => by have _h0 := mSg.1 hm; exact nQ112_0_4 (by first | exact hg | exact _h0 ▸ hg)))
        have _o_425 : Ol ics 3 1 _w_421 (.slice Az112_0 (((bpT tb ((bpT ta _p0 _p3).L) ((bpT ta _p0 _p3).F)).L)).length Cz112_0) ((bpT x _p0 _p3).L) := by
          have hx := _f_424
          exact hx.eq (by rw [eb] <;> first | rfl | exact rbA _h119 | exact rbB _h119 | exact rbC _h119 | exact rbD _h119 | exact rbE _h119 | (rw [_h119]; simp; done) | exact rbA _h133 | exact rbB _h133 | exact rbC _h133 | exact rbD _h133 | exact rbE _h133 | (rw [_h133]; simp; done) | (rw [hte]; done))
        have _f_426 := ((((_qz112_3.ch0 _cw_393).ch _cw_394 (fun g hg hm => by have _h0 := mSg.1 hm; have _h2 := _loz112_3 _ hg; have _h3 := hiz112_3 _ hg; omega)).ch _cw_400 (fun g hg hm => by have _h0 := mSg.1 hm; have _h2 := _loz112_3 _ hg; have _h3 := hiz112_3 _ hg; omega)).ch _cw_421 (fun g hg hm => by have _h0 := mSg.1 hm; exact nQ112_3_4 (by first | exact hg | exact _h0 ▸ hg)))
        have _o_427 : Ol ics 3 1 _w_421 (.slice Az112_3 (lkL ((bpT ta _p0 _p3).l) ((bpT tb ((bpT ta _p0 _p3).L) ((bpT ta _p0 _p3).F)).f) ((bpT tb ((bpT ta _p0 _p3).L) ((bpT ta _p0 _p3).F)).F)).length Cz112_3) ((bpT x _p0 _p3).F) := by
          have hx := _f_426
          exact hx.eq (by rw [eb] <;> first | rfl | exact rbA _h119 | exact rbB _h119 | exact rbC _h119 | exact rbD _h119 | exact rbE _h119 | (rw [_h119]; simp; done) | exact rbA _h133 | exact rbB _h133 | exact rbC _h133 | exact rbD _h133 | exact rbE _h133 | (rw [_h133]; simp; done) | (rw [hte]; done))
        have _m_428 : Blk _w_421 b_p t_p [(.slice Az112_0 (((bpT tb ((bpT ta _p0 _p3).L) ((bpT ta _p0 _p3).F)).L)).length Cz112_0), .int .i64 _p1, .int .i64 _p2, (.slice Az112_3 (lkL ((bpT ta _p0 _p3).l) ((bpT tb ((bpT ta _p0 _p3).L) ((bpT ta _p0 _p3).F)).f) ((bpT tb ((bpT ta _p0 _p3).L) ((bpT ta _p0 _p3).F)).F)).length Cz112_3), .bool _p4] := by
          have hx := _f_423
          exact hx
        exact ret_intro [_] (resOf_loadA _m_422 rfl agg61 sz61 trivial) ⟨(.slice Az112_0 (((bpT tb ((bpT ta _p0 _p3).L) ((bpT ta _p0 _p3).F)).L)).length Cz112_0), (.slice Az112_3 (lkL ((bpT ta _p0 _p3).l) ((bpT tb ((bpT ta _p0 _p3).L) ((bpT ta _p0 _p3).F)).f) ((bpT tb ((bpT ta _p0 _p3).L) ((bpT ta _p0 _p3).F)).F)).length Cz112_3), (((congrArg (fun zq => (Value.agg #[.int .i64 zq, .int .i64 ((bpT tb ((bpT ta _p0 _p3).L) ((bpT ta _p0 _p3).F)).l), .bool ((bpT tb ((bpT ta _p0 _p3).L) ((bpT ta _p0 _p3).F)).n)])) (by rw [eb] <;> first | rfl | exact rbA _h119 | exact rbB _h119 | exact rbC _h119 | exact rbD _h119 | exact rbE _h119 | (rw [_h119]; simp; done) | exact rbA _h133 | exact rbB _h133 | exact rbC _h133 | exact rbD _h133 | exact rbE _h133 | (rw [_h133]; simp; done) | (rw [hte]; done))).trans (congrArg (fun zq => (Value.agg #[.int .i64 ((bpT x _p0 _p3).f), .int .i64 zq, .bool ((bpT tb ((bpT ta _p0 _p3).L) ((bpT ta _p0 _p3).F)).n)])) (by rw [eb] <;> first | rfl | exact rbA _h119 | exact rbB _h119 | exact rbC _h119 | exact rbD _h119 | exact rbE _h119 | (rw [_h119]; simp; done) | exact rbA _h133 | exact rbB _h133 | exact rbC _h133 | exact rbD _h133 | exact rbE _h133 | (rw [_h133]; simp; done) | (rw [hte]; done)))).trans (congrArg (fun zq => (Value.agg #[.int .i64 ((bpT x _p0 _p3).f), .int .i64 ((bpT x _p0 _p3).l), .bool zq])) (by rw [eb] <;> first | rfl | exact rbA _h119 | exact rbB _h119 | exact rbC _h119 | exact rbD _h119 | exact rbE _h119 | (rw [_h119]; simp; done) | exact rbA _h133 | exact rbB _h133 | exact rbC _h133 | exact rbD _h133 | exact rbE _h133 | (rw [_h133]; simp; done) | (rw [hte]; done)))), _m_428, _o_425, iQ112_0, _nbz112_0, _o_427, iQ112_3, _nbz112_3, _djz112_0z112_3, E⟩
      ·have _kb_392 := _h119
       refine WL_skip rfl rfl ?_
       refine WL_skip rfl rfl ?_
       refine WL_step rfl rfl (r_pickF rfl rfl) ?_
       refine WL_step rfl rfl (r_build (parts := [(0, .tmp 114), (1, .tmp 116), (2, .tmp 122)]) (cells := [(.int .i64 ((bpT ta _p0 _p3).f)), (.int .i64 ((bpT tb ((bpT ta _p0 _p3).L) ((bpT ta _p0 _p3).F)).l)), (.bool false)]) zr61 pl61 rfl rfl) ?_
       refine WL_s rfl rfl ?_
       refine s_alloc zr61 fun _b10 _w_429 _m10 _cw_429 _e10 => ?_
       have _cw_429z := _cw_429.size
       have E := E.trans _cw_429.of_nil
       have _z10 := _m10.lt
       replace _m10 : Blk _w_429 _b10 61 [(.int .i64 0), (.int .i64 0), (.bool false)] := _m10
       refine WL_s rfl rfl ?_
       refine s_storeA (off := 0) 3 _m10 sz61 rfl (us := [(.int .i64 ((bpT ta _p0 _p3).f)), (.int .i64 ((bpT tb ((bpT ta _p0 _p3).L) ((bpT ta _p0 _p3).F)).l)), (.bool false)]) rfl rfl rfl rfl fun _w_430 _m_431 _cw_430 => ?_
       have _cw_430z := _cw_430.size
       have E := E.step _cw_430 (oneL (by omega))
       replace _m_431 : Blk _w_430 _b10 61 [(.int .i64 ((bpT ta _p0 _p3).f)), (.int .i64 ((bpT tb ((bpT ta _p0 _p3).L) ((bpT ta _p0 _p3).F)).l)), (.bool false)] := _m_431
       refine WL_nil ?_
       refine thn_nrm (_hK_389 _ _ ?_)
       clear _hK_389
       refine W_seq fun _K_432 _hK_432 => ?_
       refine W_seq fun _K_433 _hK_433 => ?_
       refine W_region ?_
       refine WL_step rfl rfl (r_fieldAddr fa61_2 rfl) ?_
       have _f_434 := ((_f_390.ch0 _cw_429).ch _cw_430 (ne1 (by omega)))
       refine WL_step rfl rfl (r_loadAt _f_434.at_ agg4 rfl rfl) ?_
       refine WL_nil ?_
       refine thn_nrm (_hK_433 _ _ ?_)
       clear _hK_433
       refine W_condFk rfl _kb_392 ?_
       refine W_skip ?_
       refine thn_nrm (_hK_432 _ _ ?_)
       clear _hK_432
       refine W_seq fun _K_435 _hK_435 => ?_
       refine W_seq fun _K_436 _hK_436 => ?_
       refine W_region ?_
       refine WL_step rfl rfl (r_fieldAddr fa61_2 rfl) ?_
       have _f_437 := ((_f_391.ch0 _cw_429).ch _cw_430 (ne1 (by omega)))
       refine WL_step rfl rfl (r_loadAt _f_437.at_ agg4 rfl rfl) ?_
       refine WL_nil ?_
       refine thn_nrm (_hK_436 _ _ ?_)
       clear _hK_436
       refine W_cond rfl (fun _h133 => ?_) (fun _h133 => ?_)
       ·have _kb_438 := _h133
        refine W_region ?_
        refine WL_step rfl rfl (r_fieldAddr fa61_1 rfl) ?_
        refine WL_step rfl rfl (r_loadAt _m_431.at_ agg3 rfl rfl) ?_
        refine WL_step rfl rfl (r_fieldAddr fa61_1 rfl) ?_
        refine WL_step rfl rfl (r_loadAt _f_434.at_ agg3 rfl rfl) ?_
        refine WL_step rfl rfl (r_or rfl rfl) ?_
        refine WL_step rfl rfl (r_fieldAddr fa61_1 rfl) ?_
        refine WL_s rfl rfl ?_
        refine s_store1 (off := 1) _m_431 sz3 rfl rfl rfl rfl fun _w_439 _m_440 _cw_439 => ?_
        have _cw_439z := _cw_439.size
        have E := E.step _cw_439 (oneL (by omega))
        replace _m_440 : Blk _w_439 _b10 61 [(.int .i64 ((bpT ta _p0 _p3).f)), (.int .i64 (ior ((bpT tb ((bpT ta _p0 _p3).L) ((bpT ta _p0 _p3).F)).l) ((bpT ta _p0 _p3).l))), (.bool false)] := _m_440
        refine WL_nil ?_
        refine thn_nrm (_hK_435 _ _ ?_)
        clear _hK_435
        refine W_seq fun _K_441 _hK_441 => ?_
        refine W_region ?_
        refine WL_step rfl rfl (r_loadAtA0 _m_440.at_ agg61 sz61 rfl) ?_
        refine WL_s rfl rfl ?_
        have _f_442 := ((((_F9_1.ch _cw_388 (nin3 (by omega) _nbz9_ju0_0_b4 _nbz9_ju0_3_b4)).ch0 _cw_429).ch _cw_430 (ne1 (by omega))).ch _cw_439 (ne1 (by omega)))
        refine s_storeA (off := 0) 3 _f_442 sz61 rfl (us := [(.int .i64 ((bpT ta _p0 _p3).f)), (.int .i64 (ior ((bpT tb ((bpT ta _p0 _p3).L) ((bpT ta _p0 _p3).F)).l) ((bpT ta _p0 _p3).l))), (.bool false)]) rfl rfl rfl rfl fun _w_443 _m_444 _cw_443 => ?_
        have _cw_443z := _cw_443.size
        have E := E.step _cw_443 (oneL (by omega))
        replace _m_444 : Blk _w_443 _b4 61 [(.int .i64 ((bpT ta _p0 _p3).f)), (.int .i64 (ior ((bpT tb ((bpT ta _p0 _p3).L) ((bpT ta _p0 _p3).F)).l) ((bpT ta _p0 _p3).l))), (.bool false)] := _m_444
        refine WL_nil ?_
        refine thn_nrm (_hK_441 _ _ ?_)
        clear _hK_441
        refine W_ret (inB_ret (thn_ret ?_))
        clear _hK_3
        have _f_445 := ((((_m112.ch0 _cw_429).ch _cw_430 (ne1 (by omega))).ch _cw_439 (ne1 (by omega))).ch _cw_443 (ne1 (by omega)))
        have _f_446 := ((((_qz112_0.ch0 _cw_429).ch _cw_430 (fun g hg hm => by have _h0 := mSg.1 hm; have _h2 := _loz112_0 _ hg; have _h3 := hiz112_0 _ hg; omega)).ch _cw_439 (fun g hg hm => by have _h0 := mSg.1 hm; have _h2 := _loz112_0 _ hg; have _h3 := hiz112_0 _ hg; omega)).ch _cw_443 (fun g hg hm => by have _h0 := mSg.1 hm; exact nQ112_0_4 (by first | exact hg | exact _h0 ▸ hg)))
        have _o_447 : Ol ics 3 1 _w_443 (.slice Az112_0 (((bpT tb ((bpT ta _p0 _p3).L) ((bpT ta _p0 _p3).F)).L)).length Cz112_0) ((bpT x _p0 _p3).L) := by
          have hx := _f_446
          exact hx.eq (by rw [eb] <;> first | rfl | exact rbA _h119 | exact rbB _h119 | exact rbC _h119 | exact rbD _h119 | exact rbE _h119 | (rw [_h119]; simp; done) | exact rbA _h133 | exact rbB _h133 | exact rbC _h133 | exact rbD _h133 | exact rbE _h133 | (rw [_h133]; simp; done) | (rw [hte]; done))
        have _f_448 := ((((_qz112_3.ch0 _cw_429).ch _cw_430 (fun g hg hm => by have _h0 := mSg.1 hm; have _h2 := _loz112_3 _ hg; have _h3 := hiz112_3 _ hg; omega)).ch _cw_439 (fun g hg hm => by have _h0 := mSg.1 hm; have _h2 := _loz112_3 _ hg; have _h3 := hiz112_3 _ hg; omega)).ch _cw_443 (fun g hg hm => by have _h0 := mSg.1 hm; exact nQ112_3_4 (by first | exact hg | exact _h0 ▸ hg)))
        have _o_449 : Ol ics 3 1 _w_443 (.slice Az112_3 (lkL ((bpT ta _p0 _p3).l) ((bpT tb ((bpT ta _p0 _p3).L) ((bpT ta _p0 _p3).F)).f) ((bpT tb ((bpT ta _p0 _p3).L) ((bpT ta _p0 _p3).F)).F)).length Cz112_3) ((bpT x _p0 _p3).F) := by
          have hx := _f_448
          exact hx.eq (by rw [eb] <;> first | rfl | exact rbA _h119 | exact rbB _h119 | exact rbC _h119 | exact rbD _h119 | exact rbE _h119 | (rw [_h119]; simp; done) | exact rbA _h133 | exact rbB _h133 | exact rbC _h133 | exact rbD _h133 | exact rbE _h133 | (rw [_h133]; simp; done) | (rw [hte]; done))
        have _m_450 : Blk _w_443 b_p t_p [(.slice Az112_0 (((bpT tb ((bpT ta _p0 _p3).L) ((bpT ta _p0 _p3).F)).L)).length Cz112_0), .int .i64 _p1, .int .i64 _p2, (.slice Az112_3 (lkL ((bpT ta _p0 _p3).l) ((bpT tb ((bpT ta _p0 _p3).L) ((bpT ta _p0 _p3).F)).f) ((bpT tb ((bpT ta _p0 _p3).L) ((bpT ta _p0 _p3).F)).F)).length Cz112_3), .bool _p4] := by
          have hx := _f_445
          exact hx
        exact ret_intro [_] (resOf_loadA _m_444 rfl agg61 sz61 trivial) ⟨(.slice Az112_0 (((bpT tb ((bpT ta _p0 _p3).L) ((bpT ta _p0 _p3).F)).L)).length Cz112_0), (.slice Az112_3 (lkL ((bpT ta _p0 _p3).l) ((bpT tb ((bpT ta _p0 _p3).L) ((bpT ta _p0 _p3).F)).f) ((bpT tb ((bpT ta _p0 _p3).L) ((bpT ta _p0 _p3).F)).F)).length Cz112_3), (((congrArg (fun zq => (Value.agg #[.int .i64 zq, .int .i64 (ior ((bpT tb ((bpT ta _p0 _p3).L) ((bpT ta _p0 _p3).F)).l) ((bpT ta _p0 _p3).l)), .bool false])) (by rw [eb] <;> first | rfl | exact rbA _h119 | exact rbB _h119 | exact rbC _h119 | exact rbD _h119 | exact rbE _h119 | (rw [_h119]; simp; done) | exact rbA _h133 | exact rbB _h133 | exact rbC _h133 | exact rbD _h133 | exact rbE _h133 | (rw [_h133]; simp; done) | (rw [hte]; done))).trans (congrArg (fun zq => (Value.agg #[.int .i64 ((bpT x _p0 _p3).f), .int .i64 zq, .bool false])) (by rw [eb] <;> first | rfl | exact rbA _h119 | exact rbB _h119 | exact rbC _h119 | exact rbD _h119 | exact rbE _h119 | (rw [_h119]; simp; done) | exact rbA _h133 | exact rbB _h133 | exact rbC _h133 | exact rbD _h133 | exact rbE _h133 | (rw [_h133]; simp; done) | (rw [hte]; done)))).trans (congrArg (fun zq => (Value.agg #[.int .i64 ((bpT x _p0 _p3).f), .int .i64 ((bpT x _p0 _p3).l), .bool zq])) (by rw [eb] <;> first | rfl | exact rbA _h119 | exact rbB _h119 | exact rbC _h119 | exact rbD _h119 | exact rbE _h119 | (rw [_h119]; simp; done) | exact rbA _h133 | exact rbB _h133 | exact rbC _h133 | exact rbD _h133 | exact rbE _h133 | (rw [_h133]; simp; done) | (rw [hte]; done)))), _m_450, _o_447, iQ112_0, _nbz112_0, _o_449, iQ112_3, _nbz112_3, _djz112_0z112_3, E⟩
       ·have _kb_438 := _h133
        refine W_skip ?_
        refine thn_nrm (_hK_435 _ _ ?_)
        clear _hK_435
        refine W_seq fun _K_451 _hK_451 => ?_
        refine W_region ?_
        refine WL_step rfl rfl (r_loadAtA0 _m_431.at_ agg61 sz61 rfl) ?_
        refine WL_s rfl rfl ?_
        have _f_452 := (((_F9_1.ch _cw_388 (nin3 (by omega) _nbz9_ju0_0_b4 _nbz9_ju0_3_b4)).ch0 _cw_429).ch _cw_430 (ne1 (by omega)))
        refine s_storeA (off := 0) 3 _f_452 sz61 rfl (us := [(.int .i64 ((bpT ta _p0 _p3).f)), (.int .i64 ((bpT tb ((bpT ta _p0 _p3).L) ((bpT ta _p0 _p3).F)).l)), (.bool false)]) rfl rfl rfl rfl fun _w_453 _m_454 _cw_453 => ?_
        have _cw_453z := _cw_453.size
        have E := E.step _cw_453 (oneL (by omega))
        replace _m_454 : Blk _w_453 _b4 61 [(.int .i64 ((bpT ta _p0 _p3).f)), (.int .i64 ((bpT tb ((bpT ta _p0 _p3).L) ((bpT ta _p0 _p3).F)).l)), (.bool false)] := _m_454
        refine WL_nil ?_
        refine thn_nrm (_hK_451 _ _ ?_)
        clear _hK_451
        refine W_ret (inB_ret (thn_ret ?_))
        clear _hK_3
        have _f_455 := (((_m112.ch0 _cw_429).ch _cw_430 (ne1 (by omega))).ch _cw_453 (ne1 (by omega)))
        have _f_456 := (((_qz112_0.ch0 _cw_429).ch _cw_430 (fun g hg hm => by have _h0 := mSg.1 hm; have _h2 := _loz112_0 _ hg; have _h3 := hiz112_0 _ hg; omega)).ch _cw_453 (fun g hg hm => by have _h0 := mSg.1 hm; exact nQ112_0_4 (by first | exact hg | exact _h0 ▸ hg)))
        have _o_457 : Ol ics 3 1 _w_453 (.slice Az112_0 (((bpT tb ((bpT ta _p0 _p3).L) ((bpT ta _p0 _p3).F)).L)).length Cz112_0) ((bpT x _p0 _p3).L) := by
          have hx := _f_456
          exact hx.eq (by rw [eb] <;> first | rfl | exact rbA _h119 | exact rbB _h119 | exact rbC _h119 | exact rbD _h119 | exact rbE _h119 | (rw [_h119]; simp; done) | exact rbA _h133 | exact rbB _h133 | exact rbC _h133 | exact rbD _h133 | exact rbE _h133 | (rw [_h133]; simp; done) | (rw [hte]; done))
        have _f_458 := (((_qz112_3.ch0 _cw_429).ch _cw_430 (fun g hg hm => by have _h0 := mSg.1 hm; have _h2 := _loz112_3 _ hg; have _h3 := hiz112_3 _ hg; omega)).ch _cw_453 (fun g hg hm => by have _h0 := mSg.1 hm; exact nQ112_3_4 (by first | exact hg | exact _h0 ▸ hg)))
        have _o_459 : Ol ics 3 1 _w_453 (.slice Az112_3 (lkL ((bpT ta _p0 _p3).l) ((bpT tb ((bpT ta _p0 _p3).L) ((bpT ta _p0 _p3).F)).f) ((bpT tb ((bpT ta _p0 _p3).L) ((bpT ta _p0 _p3).F)).F)).length Cz112_3) ((bpT x _p0 _p3).F) := by
          have hx := _f_458
          exact hx.eq (by rw [eb] <;> first | rfl | exact rbA _h119 | exact rbB _h119 | exact rbC _h119 | exact rbD _h119 | exact rbE _h119 | (rw [_h119]; simp; done) | exact rbA _h133 | exact rbB _h133 | exact rbC _h133 | exact rbD _h133 | exact rbE _h133 | (rw [_h133]; simp; done) | (rw [hte]; done))
        have _m_460 : Blk _w_453 b_p t_p [(.slice Az112_0 (((bpT tb ((bpT ta _p0 _p3).L) ((bpT ta _p0 _p3).F)).L)).length Cz112_0), .int .i64 _p1, .int .i64 _p2, (.slice Az112_3 (lkL ((bpT ta _p0 _p3).l) ((bpT tb ((bpT ta _p0 _p3).L) ((bpT ta _p0 _p3).F)).f) ((bpT tb ((bpT ta _p0 _p3).L) ((bpT ta _p0 _p3).F)).F)).length Cz112_3), .bool _p4] := by
          have hx := _f_455
          exact hx
        exact ret_intro [_] (resOf_loadA _m_454 rfl agg61 sz61 trivial) ⟨(.slice Az112_0 (((bpT tb ((bpT ta _p0 _p3).L) ((bpT ta _p0 _p3).F)).L)).length Cz112_0), (.slice Az112_3 (lkL ((bpT ta _p0 _p3).l) ((bpT tb ((bpT ta _p0 _p3).L) ((bpT ta _p0 _p3).F)).f) ((bpT tb ((bpT ta _p0 _p3).L) ((bpT ta _p0 _p3).F)).F)).length Cz112_3), (((congrArg (fun zq => (Value.agg #[.int .i64 zq, .int .i64 ((bpT tb ((bpT ta _p0 _p3).L) ((bpT ta _p0 _p3).F)).l), .bool false])) (by rw [eb] <;> first | rfl | exact rbA _h119 | exact rbB _h119 | exact rbC _h119 | exact rbD _h119 | exact rbE _h119 | (rw [_h119]; simp; done) | exact rbA _h133 | exact rbB _h133 | exact rbC _h133 | exact rbD _h133 | exact rbE _h133 | (rw [_h133]; simp; done) | (rw [hte]; done))).trans (congrArg (fun zq => (Value.agg #[.int .i64 ((bpT x _p0 _p3).f), .int .i64 zq, .bool false])) (by rw [eb] <;> first | rfl | exact rbA _h119 | exact rbB _h119 | exact rbC _h119 | exact rbD _h119 | exact rbE _h119 | (rw [_h119]; simp; done) | exact rbA _h133 | exact rbB _h133 | exact rbC _h133 | exact rbD _h133 | exact rbE _h133 | (rw [_h133]; simp; done) | (rw [hte]; done)))).trans (congrArg (fun zq => (Value.agg #[.int .i64 ((bpT x _p0 _p3).f), .int .i64 ((bpT x _p0 _p3).l), .bool zq])) (by rw [eb] <;> first | rfl | exact rbA _h119 | exact rbB _h119 | exact rbC _h119 | exact rbD _h119 | exact rbE _h119 | (rw [_h119]; simp; done) | exact rbA _h133 | exact rbB _h133 | exact rbC _h133 | exact rbD _h133 | exact rbE _h133 | (rw [_h133]; simp; done) | (rw [hte]; done)))), _m_460, _o_457, iQ112_0, _nbz112_0, _o_459, iQ112_3, _nbz112_3, _djz112_0z112_3, E⟩
     clear _hK_383
     refine W_drawC ([b_p] ++ (bl (.slice _A_p0 _p0.length _C_p0)) ++ (bl (.slice _A_p3 _p3.length _C_p3))) 20 mixed rfl fun _w_461 _cw_461 => ?_
     have _cw_461z := _cw_461.size
     have E := E.trans _cw_461.of_nil
     refine DR_s 0 rfl (by kernel_rfl) rfl rfl (t_v (fun _ => (r_move rfl)) ?_)
     refine DR_s 1 rfl (by kernel_rfl) rfl rfl (t_v (fun _ => (r_move rfl)) ?_)
     refine DR_s 2 rfl (by kernel_rfl) rfl rfl (t_v (fun _ => (r_nilCheck rfl)) ?_)
     refine DR_s 3 rfl (by kernel_rfl) rfl rfl (t_v (fun _ => (r_fieldAddr fa78_1 rfl)) ?_)
     have _f_462 := (_f_5.ch0 _cw_461)
     refine DR_s 4 rfl (by kernel_rfl) rfl rfl (t_loadAt _f_462 (fun i hm => by rcases List.mem_append.1 hm with hm | hm; (rcases List.mem_append.1 hm with hm | hm; (have _h1 := mSg.1 hm; omega); (have _h1 := _ll_p0 _ hm; have _h2 := _lt_p0 _ hm; omega)); (have _h1 := _ll_p3 _ hm; have _h2 := _lt_p3 _ hm; omega)) agg74 rfl rfl ?_)
     have _f_463 := ((_hk_x.ch0 _cw_2).ch0 _cw_461)
     have _f_464 := ((_kd_x.ch0 _cw_2).ch0 _cw_461)
     refine DR_s 5 rfl (by kernel_rfl) rfl rfl (t_index (j := 0) _f_463 acs_len el74 sz49 rfl rfl rfl (by omega) fun _p96 _y96 _hy96 _a96 => ?_)
     have ht96 := _hk0
     have _tr96 := _f_464.2 _ _ _ _hy96 _hk0
     obtain ⟨_A_96, _C_96, _ps_96, _hc_96, _hk_96, _kd_96⟩ := _tr96.open
     have _kl_96 := _kd_96.1
     replace _a96 : At _w_461 LT_x L_p _p96 ([(.pointer (some _y96))]) := _a96
     refine DR_s 6 rfl (by kernel_rfl) rfl rfl (t_loadAt0 _a96 (fun i hm => by rcases List.mem_append.1 hm with hm | hm; (rcases List.mem_append.1 hm with hm | hm; (have _h1 := mSg.1 hm; omega); (have _h1 := _ll_p0 _ hm; have _h2 := _lt_p0 _ hm; omega)); (have _h1 := _ll_p3 _ hm; have _h2 := _lt_p3 _ hm; omega)) agg49 rfl rfl ?_)
     refine DR_s 8 rfl (by kernel_rfl) rfl rfl (t_v (fun _ => (r_move rfl)) ?_)
     refine DR_s 9 rfl (by kernel_rfl) rfl rfl (t_v (fun _ => (r_move rfl)) ?_)
     refine DR_s 10 rfl (by kernel_rfl) rfl rfl (t_v (fun _ => (r_nilCheck rfl)) ?_)
     refine DR_s 11 rfl (by kernel_rfl) rfl rfl (t_v (fun _ => (r_fieldAddr fa78_1 rfl)) ?_)
     refine DR_s 12 rfl (by kernel_rfl) rfl rfl (t_loadAt _f_462 (fun i hm => by rcases List.mem_append.1 hm with hm | hm; (rcases List.mem_append.1 hm with hm | hm; (have _h1 := mSg.1 hm; omega); (have _h1 := _ll_p0 _ hm; have _h2 := _lt_p0 _ hm; omega)); (have _h1 := _ll_p3 _ hm; have _h2 := _lt_p3 _ hm; omega)) agg74 rfl rfl ?_)
     refine DR_s 13 rfl (by kernel_rfl) rfl rfl (t_index (j := 1) _f_463 acs_len el74 sz49 rfl rfl rfl (by omega) fun _p104 _y104 _hy104 _a104 => ?_)
     have ht104 := _hk1
     have _tr104 := _f_464.2 _ _ _ _hy104 _hk1
     obtain ⟨_A_104, _C_104, _ps_104, _hc_104, _hk_104, _kd_104⟩ := _tr104.open
     have _kl_104 := _kd_104.1
     replace _a104 : At _w_461 LT_x L_p _p104 ([(.pointer (some _y104))]) := _a104
     refine DR_s 14 rfl (by kernel_rfl) rfl rfl (t_loadAt0 _a104 (fun i hm => by rcases List.mem_append.1 hm with hm | hm; (rcases List.mem_append.1 hm with hm | hm; (have _h1 := mSg.1 hm; omega); (have _h1 := _ll_p0 _ hm; have _h2 := _lt_p0 _ hm; omega)); (have _h1 := _ll_p3 _ hm; have _h2 := _lt_p3 _ hm; omega)) agg49 rfl rfl ?_)
     refine DR_three 7 16 17 (by kernel_rfl) ?_ ?_ ?_
     ·refine DO_s rfl rfl rfl ?_
      have _f_465 := ((m_p.ch0 _cw_2).ch0 _cw_461)
      have _f_466 := ((_h_p0.ch0 _cw_2).ch0 _cw_461)
      have _f_467 := ((_h_p3.ch0 _cw_2).ch0 _cw_461)
      refine Step.call (r_call (xs := [.tmp 91, .tmp 97]) fk31 rfl) (ih _f_465 _f_466 _nb_p0 (Lo.down _ll_p0 (by omega)) _f_467 _nb_p3 (Lo.down _ll_p3 (by omega)) _dj_p0_p3 _tr96 (by omega) (by omega) oa ⟨by omega, by omega⟩ (by omega)) fun _v98 _w_468 _q98 => ?_
      obtain ⟨_z98_0, _z98_3, rfl, _m98, _qz98_0, _inz98_0, _nbz98_0, _qz98_3, _inz98_3, _nbz98_3, _djz98_0z98_3, _cw_468⟩ := _q98
      have _cw_468z := _cw_468.size
      have E := E.step _cw_468 (fun i hm => by rcases List.mem_cons.1 hm with _h0 | hm; (right; exact _h0 ▸ List.mem_cons_self ..); (rcases List.mem_append.1 hm with hm | hm; (exact (.inr (mCo _ (mAL _ hm)))); (exact (.inr (mCo _ (mAR _ hm))))))
      obtain ⟨Az98_0, Cz98_0, ez98_0⟩ := _qz98_0.val
      subst ez98_0
      have lz98_0 := _qz98_0.len
      have hiz98_0 := _qz98_0.lt
      have _loz98_0 : Lo L_p (.slice Az98_0 ((bpT ta _p0 _p3).L).length Cz98_0) := loOld _inz98_0 _nbz98_0 (by omega) (all2 _ll_p0 _ll_p3)
      obtain ⟨Az98_3, Cz98_3, ez98_3⟩ := _qz98_3.val
      subst ez98_3
      have lz98_3 := _qz98_3.len
      have hiz98_3 := _qz98_3.lt
      have _loz98_3 : Lo L_p (.slice Az98_3 ((bpT ta _p0 _p3).F).length Cz98_3) := loOld _inz98_3 _nbz98_3 (by omega) (all2 _ll_p0 _ll_p3)
      have nQ98_0_4 := nbOld _inz98_0 _nbz98_0 (show _b4 < _ by omega) (nin2 (no_in _ll_p0 _lt_p0 (by omega)) (no_in _ll_p3 _lt_p3 (by omega)))
      have iQ98_0 := inOldE E _inz98_0 _nbz98_0 (by omega) (all2 (fun g hm => (.inr (mCo _ (mAL _ hm)))) (fun g hm => (.inr (mCo _ (mAR _ hm)))))
      have nQ98_3_4 := nbOld _inz98_3 _nbz98_3 (show _b4 < _ by omega) (nin2 (no_in _ll_p0 _lt_p0 (by omega)) (no_in _ll_p3 _lt_p3 (by omega)))
      have iQ98_3 := inOldE E _inz98_3 _nbz98_3 (by omega) (all2 (fun g hm => (.inr (mCo _ (mAL _ hm)))) (fun g hm => (.inr (mCo _ (mAR _ hm)))))
      replace _m98 : Blk _w_468 b_p t_p [(.slice Az98_0 ((bpT ta _p0 _p3).L).length Cz98_0), (.int .i64 _p1), (.int .i64 _p2), (.slice Az98_3 ((bpT ta _p0 _p3).F).length Cz98_3), (.bool _p4)] := _m98
      have _S_469 : Ch ([b_p] ++ (bl (.slice _A_p0 _p0.length _C_p0)) ++ (bl (.slice _A_p3 _p3.length _C_p3))) _w_461 _w_468 := ((Ch.refl _ _).step _cw_468 (all3 (.inr (mAL _ (mAL _ (mSg.2 rfl)))) (fun i hm => .inr (mAL _ (mAR _ hm))) (fun i hm => .inr (mAR _ hm))))
      refine ⟨_S_469, ?_⟩
      refine DR_three 15 16 17 (by kernel_rfl) ?_ ?_ ?_
      ·refine DO_s rfl rfl rfl ?_
       have _f_470 := (_tr104.ch _cw_468 (lwr3 (by omega) _ll_p0 (by omega) _ll_p3 (by omega)))
       refine Step.call (r_call (xs := [.tmp 99, .tmp 105]) fk31 rfl) (ih _m98 _qz98_0 _nbz98_0 (Lo.down _loz98_0 (by omega)) _qz98_3 _nbz98_3 (Lo.down _loz98_3 (by omega)) _djz98_0z98_3 _f_470 (by omega) (by omega) ob ⟨by omega, by omega⟩ (by omega)) fun _v106 _w_471 _q106 => ?_
       obtain ⟨_z106_0, _z106_3, rfl, _m106, _qz106_0, _inz106_0, _nbz106_0, _qz106_3, _inz106_3, _nbz106_3, _djz106_0z106_3, _cw_471⟩ := _q106
       have _cw_471z := _cw_471.size
       have E := E.step _cw_471 (fun i hm => by rcases List.mem_cons.1 hm with _h0 | hm; (right; exact _h0 ▸ List.mem_cons_self ..); (rcases List.mem_append.1 hm with hm | hm; (exact (iQ98_0 _ hm)); (exact (iQ98_3 _ hm))))
       obtain ⟨Az106_0, Cz106_0, ez106_0⟩ := _qz106_0.val
       subst ez106_0
       have lz106_0 := _qz106_0.len
       have hiz106_0 := _qz106_0.lt
       have _loz106_0 : Lo L_p (.slice Az106_0 ((bpT tb ((bpT ta _p0 _p3).L) ((bpT ta _p0 _p3).F)).L).length Cz106_0) := loOld _inz106_0 _nbz106_0 (by omega) (all2 _loz98_0 _loz98_3)
       obtain ⟨Az106_3, Cz106_3, ez106_3⟩ := _qz106_3.val
       subst ez106_3
       have lz106_3 := _qz106_3.len
       have hiz106_3 := _qz106_3.lt
       have _loz106_3 : Lo L_p (.slice Az106_3 ((bpT tb ((bpT ta _p0 _p3).L) ((bpT ta _p0 _p3).F)).F).length Cz106_3) := loOld _inz106_3 _nbz106_3 (by omega) (all2 _loz98_0 _loz98_3)
       have nQ106_0_4 := nbOld _inz106_0 _nbz106_0 (show _b4 < _ by omega) (nin2 nQ98_0_4 nQ98_3_4)
       have iQ106_0 := inOldE E _inz106_0 _nbz106_0 (by omega) (all2 (fun g hm => (iQ98_0 _ hm)) (fun g hm => (iQ98_3 _ hm)))
       have nQ106_3_4 := nbOld _inz106_3 _nbz106_3 (show _b4 < _ by omega) (nin2 nQ98_0_4 nQ98_3_4)
       have iQ106_3 := inOldE E _inz106_3 _nbz106_3 (by omega) (all2 (fun g hm => (iQ98_0 _ hm)) (fun g hm => (iQ98_3 _ hm)))
       replace _m106 : Blk _w_471 b_p t_p [(.slice Az106_0 ((bpT tb ((bpT ta _p0 _p3).L) ((bpT ta _p0 _p3).F)).L).length Cz106_0), (.int .i64 _p1), (.int .i64 _p2), (.slice Az106_3 ((bpT tb ((bpT ta _p0 _p3).L) ((bpT ta _p0 _p3).F)).F).length Cz106_3), (.bool _p4)] := _m106
       have _S_472 := (_S_469.step _cw_471 (all3 (.inr (mAL _ (mAL _ (mSg.2 rfl)))) (inCall _inz98_0 (by omega) (.inr (mAL _ (mAL _ (mSg.2 rfl)))) (fun i hm => .inr (mAL _ (mAR _ hm))) (fun i hm => .inr (mAR _ hm))) (inCall _inz98_3 (by omega) (.inr (mAL _ (mAL _ (mSg.2 rfl)))) (fun i hm => .inr (mAL _ (mAR _ hm))) (fun i hm => .inr (mAR _ hm)))))
       refine ⟨_S_472, ?_⟩
       refine DR_two 16 17 (by kernel_rfl) ?_ ?_
       ·refine DO_s rfl rfl rfl ?_
        refine s_alloc zr61 fun _b8 _w_473 _m8 _cw_473 _e8 => ?_
        have _cw_473z := _cw_473.size
        have E := E.trans _cw_473.of_nil
        have _z8 := _m8.lt
        replace _m8 : Blk _w_473 _b8 61 [(.int .i64 0), (.int .i64 0), (.bool false)] := _m8
        have _S_474 := (_S_472.trans _cw_473.of_nil)
        refine ⟨_S_474, ?_⟩
        refine DR_one 17 (by kernel_rfl) ?_
        refine DO_s rfl rfl rfl ?_
        refine s_alloc zr61 fun _b9 _w_475 _m9 _cw_475 _e9 => ?_
        have _cw_475z := _cw_475.size
        have E := E.trans _cw_475.of_nil
        have _z9 := _m9.lt
        replace _m9 : Blk _w_475 _b9 61 [(.int .i64 0), (.int .i64 0), (.bool false)] := _m9
        have _S_476 := (_S_474.trans _cw_475.of_nil)
        refine ⟨_S_476, ?_⟩
        refine DR_one 18 (by kernel_rfl) ?_
        refine DO_s rfl rfl rfl ?_
        have _f_477 := (_m8.ch0 _cw_475)
        refine s_storeA (off := 0) 3 _f_477 sz61 rfl (us := [(.int .i64 ((bpT ta _p0 _p3).f)), (.int .i64 ((bpT ta _p0 _p3).l)), (.bool ((bpT ta _p0 _p3).n))]) rfl rfl rfl rfl fun _w_478 _m_479 _cw_478 => ?_
        have _cw_478z := _cw_478.size
        have E := E.step _cw_478 (oneL (by omega))
        replace _m_479 : Blk _w_478 _b8 61 [(.int .i64 ((bpT ta _p0 _p3).f)), (.int .i64 ((bpT ta _p0 _p3).l)), (.bool ((bpT ta _p0 _p3).n))] := _m_479
        have _S_480 := (_S_476.step _cw_478 (oneL (by omega)))
        refine ⟨_S_480, ?_⟩
        refine DR_one 19 (by kernel_rfl) ?_
        refine DO_s rfl rfl rfl ?_
        have _f_481 := (_m9.ch _cw_478 (ne1 (by omega)))
        refine s_storeA (off := 0) 3 _f_481 sz61 rfl (us := [(.int .i64 ((bpT tb ((bpT ta _p0 _p3).L) ((bpT ta _p0 _p3).F)).f)), (.int .i64 ((bpT tb ((bpT ta _p0 _p3).L) ((bpT ta _p0 _p3).F)).l)), (.bool ((bpT tb ((bpT ta _p0 _p3).L) ((bpT ta _p0 _p3).F)).n))]) rfl rfl rfl rfl fun _w_482 _m_483 _cw_482 => ?_
        have _cw_482z := _cw_482.size
        have E := E.step _cw_482 (oneL (by omega))
        replace _m_483 : Blk _w_482 _b9 61 [(.int .i64 ((bpT tb ((bpT ta _p0 _p3).L) ((bpT ta _p0 _p3).F)).f)), (.int .i64 ((bpT tb ((bpT ta _p0 _p3).L) ((bpT ta _p0 _p3).F)).l)), (.bool ((bpT tb ((bpT ta _p0 _p3).L) ((bpT ta _p0 _p3).F)).n))] := _m_483
        have _S_484 := (_S_480.step _cw_482 (oneL (by omega)))
        refine ⟨_S_484, ?_⟩
        refine DR_done (by kernel_rfl) ?_
        refine thn_nrm ?_
        have _f_485 := ((((_qz106_0.ch0 _cw_473).ch0 _cw_475).ch _cw_478 (fun g hg hm => by have _h0 := mSg.1 hm; have _h2 := _loz106_0 _ hg; have _h3 := hiz106_0 _ hg; omega)).ch _cw_482 (fun g hg hm => by have _h0 := mSg.1 hm; have _h2 := _loz106_0 _ hg; have _h3 := hiz106_0 _ hg; omega))
        have _f_486 := ((((_qz106_3.ch0 _cw_473).ch0 _cw_475).ch _cw_478 (fun g hg hm => by have _h0 := mSg.1 hm; have _h2 := _loz106_3 _ hg; have _h3 := hiz106_3 _ hg; omega)).ch _cw_482 (fun g hg hm => by have _h0 := mSg.1 hm; have _h2 := _loz106_3 _ hg; have _h3 := hiz106_3 _ hg; omega))
        have _f_487 := ((((_m106.ch0 _cw_473).ch0 _cw_475).ch _cw_478 (ne1 (by omega))).ch _cw_482 (ne1 (by omega)))
        have _f_488 := (_m_479.ch _cw_482 (ne1 (by omega)))
        have _f_489 := ((((((_f_462.ch _cw_468 (lwr3 (by omega) _ll_p0 (by omega) _ll_p3 (by omega))).ch _cw_471 (lwr3 (by omega) _loz98_0 (by omega) _loz98_3 (by omega))).ch0 _cw_473).ch0 _cw_475).ch _cw_478 (tfr1 (by omega))).ch _cw_482 (tfr1 (by omega)))
        have _f_490 := (((((((_m4.ch0 _cw_461).ch _cw_468 (nin3 (by omega) (no_hi _lt_p0 (by omega)) (no_hi _lt_p3 (by omega)))).ch _cw_471 (nin3 (by omega) nQ98_0_4 nQ98_3_4)).ch0 _cw_473).ch0 _cw_475).ch _cw_478 (ne1 (by omega))).ch _cw_482 (ne1 (by omega)))
        exact _J_385 _ _ _ _ _b8 _b9 (Sub.cons rfl (Sub.cons rfl (Sub.cons rfl (Sub.cons rfl (Sub.cons rfl (Sub.cons rfl (Sub.nil _))))))) E (by omega) _f_485 iQ106_0 _nbz106_0 _f_486 iQ106_3 _nbz106_3 _djz106_0z106_3 _f_487 _f_488 (by omega) (by omega) (no_in _loz106_0 hiz106_0 (by omega)) (no_in _loz106_3 hiz106_3 (by omega)) _m_483 (by omega) (by omega) (no_in _loz106_0 hiz106_0 (by omega)) (no_in _loz106_3 hiz106_3 (by omega)) (by omega) _f_489 _f_490 nQ106_0_4 nQ106_3_4
       ·refine DO_s rfl rfl rfl ?_
        refine s_alloc zr61 fun _b9 _w_491 _m9 _cw_491 _e9 => ?_
        have _cw_491z := _cw_491.size
        have E := E.trans _cw_491.of_nil
        have _z9 := _m9.lt
        replace _m9 : Blk _w_491 _b9 61 [(.int .i64 0), (.int .i64 0), (.bool false)] := _m9
        have _S_492 := (_S_472.trans _cw_491.of_nil)
        refine ⟨_S_492, ?_⟩
        refine DR_one 16 (by kernel_rfl) ?_
        refine DO_s rfl rfl rfl ?_
        refine s_alloc zr61 fun _b8 _w_493 _m8 _cw_493 _e8 => ?_
        have _cw_493z := _cw_493.size
        have E := E.trans _cw_493.of_nil
        have _z8 := _m8.lt
        replace _m8 : Blk _w_493 _b8 61 [(.int .i64 0), (.int .i64 0), (.bool false)] := _m8
        have _S_494 := (_S_492.trans _cw_493.of_nil)
        refine ⟨_S_494, ?_⟩
        refine DR_one 18 (by kernel_rfl) ?_
        refine DO_s rfl rfl rfl ?_
        refine s_storeA (off := 0) 3 _m8 sz61 rfl (us := [(.int .i64 ((bpT ta _p0 _p3).f)), (.int .i64 ((bpT ta _p0 _p3).l)), (.bool ((bpT ta _p0 _p3).n))]) rfl rfl rfl rfl fun _w_495 _m_496 _cw_495 => ?_
        have _cw_495z := _cw_495.size
        have E := E.step _cw_495 (oneL (by omega))
        replace _m_496 : Blk _w_495 _b8 61 [(.int .i64 ((bpT ta _p0 _p3).f)), (.int .i64 ((bpT ta _p0 _p3).l)), (.bool ((bpT ta _p0 _p3).n))] := _m_496
        have _S_497 := (_S_494.step _cw_495 (oneL (by omega)))
        refine ⟨_S_497, ?_⟩
        refine DR_one 19 (by kernel_rfl) ?_
        refine DO_s rfl rfl rfl ?_
        have _f_498 := ((_m9.ch0 _cw_493).ch _cw_495 (ne1 (by omega)))
        refine s_storeA (off := 0) 3 _f_498 sz61 rfl (us := [(.int .i64 ((bpT tb ((bpT ta _p0 _p3).L) ((bpT ta _p0 _p3).F)).f)), (.int .i64 ((bpT tb ((bpT ta _p0 _p3).L) ((bpT ta _p0 _p3).F)).l)), (.bool ((bpT tb ((bpT ta _p0 _p3).L) ((bpT ta _p0 _p3).F)).n))]) rfl rfl rfl rfl fun _w_499 _m_500 _cw_499 => ?_
        have _cw_499z := _cw_499.size
        have E := E.step _cw_499 (oneL (by omega))
        replace _m_500 : Blk _w_499 _b9 61 [(.int .i64 ((bpT tb ((bpT ta _p0 _p3).L) ((bpT ta _p0 _p3).F)).f)), (.int .i64 ((bpT tb ((bpT ta _p0 _p3).L) ((bpT ta _p0 _p3).F)).l)), (.bool ((bpT tb ((bpT ta _p0 _p3).L) ((bpT ta _p0 _p3).F)).n))] := _m_500
        have _S_501 := (_S_497.step _cw_499 (oneL (by omega)))
        refine ⟨_S_501, ?_⟩
        refine DR_done (by kernel_rfl) ?_
        refine thn_nrm ?_
        have _f_502 := ((((_qz106_0.ch0 _cw_491).ch0 _cw_493).ch _cw_495 (fun g hg hm => by have _h0 := mSg.1 hm; have _h2 := _loz106_0 _ hg; have _h3 := hiz106_0 _ hg; omega)).ch _cw_499 (fun g hg hm => by have _h0 := mSg.1 hm; have _h2 := _loz106_0 _ hg; have _h3 := hiz106_0 _ hg; omega))
        have _f_503 := ((((_qz106_3.ch0 _cw_491).ch0 _cw_493).ch _cw_495 (fun g hg hm => by have _h0 := mSg.1 hm; have _h2 := _loz106_3 _ hg; have _h3 := hiz106_3 _ hg; omega)).ch _cw_499 (fun g hg hm => by have _h0 := mSg.1 hm; have _h2 := _loz106_3 _ hg; have _h3 := hiz106_3 _ hg; omega))
        have _f_504 := ((((_m106.ch0 _cw_491).ch0 _cw_493).ch _cw_495 (ne1 (by omega))).ch _cw_499 (ne1 (by omega)))
        have _f_505 := (_m_496.ch _cw_499 (ne1 (by omega)))
        have _f_506 := ((((((_f_462.ch _cw_468 (lwr3 (by omega) _ll_p0 (by omega) _ll_p3 (by omega))).ch _cw_471 (lwr3 (by omega) _loz98_0 (by omega) _loz98_3 (by omega))).ch0 _cw_491).ch0 _cw_493).ch _cw_495 (tfr1 (by omega))).ch _cw_499 (tfr1 (by omega)))
        have _f_507 := (((((((_m4.ch0 _cw_461).ch _cw_468 (nin3 (by omega) (no_hi _lt_p0 (by omega)) (no_hi _lt_p3 (by omega)))).ch _cw_471 (nin3 (by omega) nQ98_0_4 nQ98_3_4)).ch0 _cw_491).ch0 _cw_493).ch _cw_495 (ne1 (by omega))).ch _cw_499 (ne1 (by omega)))
        exact _J_385 _ _ _ _ _b8 _b9 (Sub.cons rfl (Sub.cons rfl (Sub.cons rfl (Sub.cons rfl (Sub.cons rfl (Sub.cons rfl (Sub.nil _))))))) E (by omega) _f_502 iQ106_0 _nbz106_0 _f_503 iQ106_3 _nbz106_3 _djz106_0z106_3 _f_504 _f_505 (by omega) (by omega) (no_in _loz106_0 hiz106_0 (by omega)) (no_in _loz106_3 hiz106_3 (by omega)) _m_500 (by omega) (by omega) (no_in _loz106_0 hiz106_0 (by omega)) (no_in _loz106_3 hiz106_3 (by omega)) (by omega) _f_506 _f_507 nQ106_0_4 nQ106_3_4
      ·refine DO_s rfl rfl rfl ?_
       refine s_alloc zr61 fun _b8 _w_508 _m8 _cw_508 _e8 => ?_
       have _cw_508z := _cw_508.size
       have E := E.trans _cw_508.of_nil
       have _z8 := _m8.lt
       replace _m8 : Blk _w_508 _b8 61 [(.int .i64 0), (.int .i64 0), (.bool false)] := _m8
       have _S_509 := (_S_469.trans _cw_508.of_nil)
       refine ⟨_S_509, ?_⟩
       refine DR_two 15 17 (by kernel_rfl) ?_ ?_
       ·refine DO_s rfl rfl rfl ?_
        have _f_510 := (_m98.ch0 _cw_508)
        have _f_511 := (_qz98_0.ch0 _cw_508)
        have _f_512 := (_qz98_3.ch0 _cw_508)
        have _f_513 := ((_tr104.ch _cw_468 (lwr3 (by omega) _ll_p0 (by omega) _ll_p3 (by omega))).ch0 _cw_508)
        refine Step.call (r_call (xs := [.tmp 99, .tmp 105]) fk31 rfl) (ih _f_510 _f_511 _nbz98_0 (Lo.down _loz98_0 (by omega)) _f_512 _nbz98_3 (Lo.down _loz98_3 (by omega)) _djz98_0z98_3 _f_513 (by omega) (by omega) ob ⟨by omega, by omega⟩ (by omega)) fun _v106 _w_514 _q106 => ?_
        obtain ⟨_z106_0, _z106_3, rfl, _m106, _qz106_0, _inz106_0, _nbz106_0, _qz106_3, _inz106_3, _nbz106_3, _djz106_0z106_3, _cw_514⟩ := _q106
        have _cw_514z := _cw_514.size
        have E := E.step _cw_514 (fun i hm => by rcases List.mem_cons.1 hm with _h0 | hm; (right; exact _h0 ▸ List.mem_cons_self ..); (rcases List.mem_append.1 hm with hm | hm; (exact (iQ98_0 _ hm)); (exact (iQ98_3 _ hm))))
        obtain ⟨Az106_0, Cz106_0, ez106_0⟩ := _qz106_0.val
        subst ez106_0
        have lz106_0 := _qz106_0.len
        have hiz106_0 := _qz106_0.lt
        have _loz106_0 : Lo L_p (.slice Az106_0 ((bpT tb ((bpT ta _p0 _p3).L) ((bpT ta _p0 _p3).F)).L).length Cz106_0) := loOld _inz106_0 _nbz106_0 (by omega) (all2 _loz98_0 _loz98_3)
        obtain ⟨Az106_3, Cz106_3, ez106_3⟩ := _qz106_3.val
        subst ez106_3
        have lz106_3 := _qz106_3.len
        have hiz106_3 := _qz106_3.lt
        have _loz106_3 : Lo L_p (.slice Az106_3 ((bpT tb ((bpT ta _p0 _p3).L) ((bpT ta _p0 _p3).F)).F).length Cz106_3) := loOld _inz106_3 _nbz106_3 (by omega) (all2 _loz98_0 _loz98_3)
        have nQ106_0_4 := nbOld _inz106_0 _nbz106_0 (show _b4 < _ by omega) (nin2 nQ98_0_4 nQ98_3_4)
        have nQ106_0_8 := nbOld _inz106_0 _nbz106_0 (show _b8 < _ by omega) (nin2 (no_in _loz98_0 hiz98_0 (by omega)) (no_in _loz98_3 hiz98_3 (by omega)))
        have iQ106_0 := inOldE E _inz106_0 _nbz106_0 (by omega) (all2 (fun g hm => (iQ98_0 _ hm)) (fun g hm => (iQ98_3 _ hm)))
        have nQ106_3_4 := nbOld _inz106_3 _nbz106_3 (show _b4 < _ by omega) (nin2 nQ98_0_4 nQ98_3_4)
        have nQ106_3_8 := nbOld _inz106_3 _nbz106_3 (show _b8 < _ by omega) (nin2 (no_in _loz98_0 hiz98_0 (by omega)) (no_in _loz98_3 hiz98_3 (by omega)))
        have iQ106_3 := inOldE E _inz106_3 _nbz106_3 (by omega) (all2 (fun g hm => (iQ98_0 _ hm)) (fun g hm => (iQ98_3 _ hm)))
        replace _m106 : Blk _w_514 b_p t_p [(.slice Az106_0 ((bpT tb ((bpT ta _p0 _p3).L) ((bpT ta _p0 _p3).F)).L).length Cz106_0), (.int .i64 _p1), (.int .i64 _p2), (.slice Az106_3 ((bpT tb ((bpT ta _p0 _p3).L) ((bpT ta _p0 _p3).F)).F).length Cz106_3), (.bool _p4)] := _m106
        have _S_515 := (_S_509.step _cw_514 (all3 (.inr (mAL _ (mAL _ (mSg.2 rfl)))) (inCall _inz98_0 (by omega) (.inr (mAL _ (mAL _ (mSg.2 rfl)))) (fun i hm => .inr (mAL _ (mAR _ hm))) (fun i hm => .inr (mAR _ hm))) (inCall _inz98_3 (by omega) (.inr (mAL _ (mAL _ (mSg.2 rfl)))) (fun i hm => .inr (mAL _ (mAR _ hm))) (fun i hm => .inr (mAR _ hm)))))
        refine ⟨_S_515, ?_⟩
        refine DR_one 17 (by kernel_rfl) ?_
        refine DO_s rfl rfl rfl ?_
        refine s_alloc zr61 fun _b9 _w_516 _m9 _cw_516 _e9 => ?_
        have _cw_516z := _cw_516.size
        have E := E.trans _cw_516.of_nil
        have _z9 := _m9.lt
        replace _m9 : Blk _w_516 _b9 61 [(.int .i64 0), (.int .i64 0), (.bool false)] := _m9
        have _S_517 := (_S_515.trans _cw_516.of_nil)
        refine ⟨_S_517, ?_⟩
        refine DR_one 18 (by kernel_rfl) ?_
        refine DO_s rfl rfl rfl ?_
        have _f_518 := ((_m8.ch _cw_514 (nin3 (by omega) (no_hi hiz98_0 (by omega)) (no_hi hiz98_3 (by omega)))).ch0 _cw_516)
        refine s_storeA (off := 0) 3 _f_518 sz61 rfl (us := [(.int .i64 ((bpT ta _p0 _p3).f)), (.int .i64 ((bpT ta _p0 _p3).l)), (.bool ((bpT ta _p0 _p3).n))]) rfl rfl rfl rfl fun _w_519 _m_520 _cw_519 => ?_
        have _cw_519z := _cw_519.size
        have E := E.step _cw_519 (oneL (by omega))
        replace _m_520 : Blk _w_519 _b8 61 [(.int .i64 ((bpT ta _p0 _p3).f)), (.int .i64 ((bpT ta _p0 _p3).l)), (.bool ((bpT ta _p0 _p3).n))] := _m_520
        have _S_521 := (_S_517.step _cw_519 (oneL (by omega)))
        refine ⟨_S_521, ?_⟩
        refine DR_one 19 (by kernel_rfl) ?_
        refine DO_s rfl rfl rfl ?_
        have _f_522 := (_m9.ch _cw_519 (ne1 (by omega)))
        refine s_storeA (off := 0) 3 _f_522 sz61 rfl (us := [(.int .i64 ((bpT tb ((bpT ta _p0 _p3).L) ((bpT ta _p0 _p3).F)).f)), (.int .i64 ((bpT tb ((bpT ta _p0 _p3).L) ((bpT ta _p0 _p3).F)).l)), (.bool ((bpT tb ((bpT ta _p0 _p3).L) ((bpT ta _p0 _p3).F)).n))]) rfl rfl rfl rfl fun _w_523 _m_524 _cw_523 => ?_
        have _cw_523z := _cw_523.size
        have E := E.step _cw_523 (oneL (by omega))
        replace _m_524 : Blk _w_523 _b9 61 [(.int .i64 ((bpT tb ((bpT ta _p0 _p3).L) ((bpT ta _p0 _p3).F)).f)), (.int .i64 ((bpT tb ((bpT ta _p0 _p3).L) ((bpT ta _p0 _p3).F)).l)), (.bool ((bpT tb ((bpT ta _p0 _p3).L) ((bpT ta _p0 _p3).F)).n))] := _m_524
        have _S_525 := (_S_521.step _cw_523 (oneL (by omega)))
        refine ⟨_S_525, ?_⟩
        refine DR_done (by kernel_rfl) ?_
        refine thn_nrm ?_
        have _f_526 := (((_qz106_0.ch0 _cw_516).ch _cw_519 (fun g hg hm => by have _h0 := mSg.1 hm; exact nQ106_0_8 (by first | exact hg | exact _h0 ▸ hg))).ch _cw_523 (fun g hg hm => by have _h0 := mSg.1 hm; have _h2 := _loz106_0 _ hg; have _h3 := hiz106_0 _ hg; omega))
        have _f_527 := (((_qz106_3.ch0 _cw_516).ch _cw_519 (fun g hg hm => by have _h0 := mSg.1 hm; exact nQ106_3_8 (by first | exact hg | exact _h0 ▸ hg))).ch _cw_523 (fun g hg hm => by have _h0 := mSg.1 hm; have _h2 := _loz106_3 _ hg; have _h3 := hiz106_3 _ hg; omega))
        have _f_528 := (((_m106.ch0 _cw_516).ch _cw_519 (ne1 (by omega))).ch _cw_523 (ne1 (by omega)))
        have _f_529 := (_m_520.ch _cw_523 (ne1 (by omega)))
        have _f_530 := ((((((_f_462.ch _cw_468 (lwr3 (by omega) _ll_p0 (by omega) _ll_p3 (by omega))).ch0 _cw_508).ch _cw_514 (lwr3 (by omega) _loz98_0 (by omega) _loz98_3 (by omega))).ch0 _cw_516).ch _cw_519 (tfr1 (by omega))).ch _cw_523 (tfr1 (by omega)))
        have _f_531 := (((((((_m4.ch0 _cw_461).ch _cw_468 (nin3 (by omega) (no_hi _lt_p0 (by omega)) (no_hi _lt_p3 (by omega)))).ch0 _cw_508).ch _cw_514 (nin3 (by omega) nQ98_0_4 nQ98_3_4)).ch0 _cw_516).ch _cw_519 (ne1 (by omega))).ch _cw_523 (ne1 (by omega)))
        exact _J_385 _ _ _ _ _b8 _b9 (Sub.cons rfl (Sub.cons rfl (Sub.cons rfl (Sub.cons rfl (Sub.cons rfl (Sub.cons rfl (Sub.nil _))))))) E (by omega) _f_526 iQ106_0 _nbz106_0 _f_527 iQ106_3 _nbz106_3 _djz106_0z106_3 _f_528 _f_529 (by omega) (by omega) nQ106_0_8 nQ106_3_8 _m_524 (by omega) (by omega) (no_in _loz106_0 hiz106_0 (by omega)) (no_in _loz106_3 hiz106_3 (by omega)) (by omega) _f_530 _f_531 nQ106_0_4 nQ106_3_4
       ·refine DO_s rfl rfl rfl ?_
        refine s_alloc zr61 fun _b9 _w_532 _m9 _cw_532 _e9 => ?_
        have _cw_532z := _cw_532.size
        have E := E.trans _cw_532.of_nil
        have _z9 := _m9.lt
        replace _m9 : Blk _w_532 _b9 61 [(.int .i64 0), (.int .i64 0), (.bool false)] := _m9
        have _S_533 := (_S_509.trans _cw_532.of_nil)
        refine ⟨_S_533, ?_⟩
        refine DR_one 15 (by kernel_rfl) ?_
        refine DO_s rfl rfl rfl ?_
        have _f_534 := ((_m98.ch0 _cw_508).ch0 _cw_532)
        have _f_535 := ((_qz98_0.ch0 _cw_508).ch0 _cw_532)
        have _f_536 := ((_qz98_3.ch0 _cw_508).ch0 _cw_532)
        have _f_537 := (((_tr104.ch _cw_468 (lwr3 (by omega) _ll_p0 (by omega) _ll_p3 (by omega))).ch0 _cw_508).ch0 _cw_532)
        refine Step.call (r_call (xs := [.tmp 99, .tmp 105]) fk31 rfl) (ih _f_534 _f_535 _nbz98_0 (Lo.down _loz98_0 (by omega)) _f_536 _nbz98_3 (Lo.down _loz98_3 (by omega)) _djz98_0z98_3 _f_537 (by omega) (by omega) ob ⟨by omega, by omega⟩ (by omega)) fun _v106 _w_538 _q106 => ?_
        obtain ⟨_z106_0, _z106_3, rfl, _m106, _qz106_0, _inz106_0, _nbz106_0, _qz106_3, _inz106_3, _nbz106_3, _djz106_0z106_3, _cw_538⟩ := _q106
        have _cw_538z := _cw_538.size
        have E := E.step _cw_538 (fun i hm => by rcases List.mem_cons.1 hm with _h0 | hm; (right; exact _h0 ▸ List.mem_cons_self ..); (rcases List.mem_append.1 hm with hm | hm; (exact (iQ98_0 _ hm)); (exact (iQ98_3 _ hm))))
        obtain ⟨Az106_0, Cz106_0, ez106_0⟩ := _qz106_0.val
        subst ez106_0
        have lz106_0 := _qz106_0.len
        have hiz106_0 := _qz106_0.lt
        have _loz106_0 : Lo L_p (.slice Az106_0 ((bpT tb ((bpT ta _p0 _p3).L) ((bpT ta _p0 _p3).F)).L).length Cz106_0) := loOld _inz106_0 _nbz106_0 (by omega) (all2 _loz98_0 _loz98_3)
        obtain ⟨Az106_3, Cz106_3, ez106_3⟩ := _qz106_3.val
        subst ez106_3
        have lz106_3 := _qz106_3.len
        have hiz106_3 := _qz106_3.lt
        have _loz106_3 : Lo L_p (.slice Az106_3 ((bpT tb ((bpT ta _p0 _p3).L) ((bpT ta _p0 _p3).F)).F).length Cz106_3) := loOld _inz106_3 _nbz106_3 (by omega) (all2 _loz98_0 _loz98_3)
        have nQ106_0_4 := nbOld _inz106_0 _nbz106_0 (show _b4 < _ by omega) (nin2 nQ98_0_4 nQ98_3_4)
        have nQ106_0_8 := nbOld _inz106_0 _nbz106_0 (show _b8 < _ by omega) (nin2 (no_in _loz98_0 hiz98_0 (by omega)) (no_in _loz98_3 hiz98_3 (by omega)))
        have nQ106_0_9 := nbOld _inz106_0 _nbz106_0 (show _b9 < _ by omega) (nin2 (no_in _loz98_0 hiz98_0 (by omega)) (no_in _loz98_3 hiz98_3 (by omega)))
        have iQ106_0 := inOldE E _inz106_0 _nbz106_0 (by omega) (all2 (fun g hm => (iQ98_0 _ hm)) (fun g hm => (iQ98_3 _ hm)))
        have nQ106_3_4 := nbOld _inz106_3 _nbz106_3 (show _b4 < _ by omega) (nin2 nQ98_0_4 nQ98_3_4)
        have nQ106_3_8 := nbOld _inz106_3 _nbz106_3 (show _b8 < _ by omega) (nin2 (no_in _loz98_0 hiz98_0 (by omega)) (no_in _loz98_3 hiz98_3 (by omega)))
        have nQ106_3_9 := nbOld _inz106_3 _nbz106_3 (show _b9 < _ by omega) (nin2 (no_in _loz98_0 hiz98_0 (by omega)) (no_in _loz98_3 hiz98_3 (by omega)))
        have iQ106_3 := inOldE E _inz106_3 _nbz106_3 (by omega) (all2 (fun g hm => (iQ98_0 _ hm)) (fun g hm => (iQ98_3 _ hm)))
        replace _m106 : Blk _w_538 b_p t_p [(.slice Az106_0 ((bpT tb ((bpT ta _p0 _p3).L) ((bpT ta _p0 _p3).F)).L).length Cz106_0), (.int .i64 _p1), (.int .i64 _p2), (.slice Az106_3 ((bpT tb ((bpT ta _p0 _p3).L) ((bpT ta _p0 _p3).F)).F).length Cz106_3), (.bool _p4)] := _m106
        have _S_539 := (_S_533.step _cw_538 (all3 (.inr (mAL _ (mAL _ (mSg.2 rfl)))) (inCall _inz98_0 (by omega) (.inr (mAL _ (mAL _ (mSg.2 rfl)))) (fun i hm => .inr (mAL _ (mAR _ hm))) (fun i hm => .inr (mAR _ hm))) (inCall _inz98_3 (by omega) (.inr (mAL _ (mAL _ (mSg.2 rfl)))) (fun i hm => .inr (mAL _ (mAR _ hm))) (fun i hm => .inr (mAR _ hm)))))
        refine ⟨_S_539, ?_⟩
        refine DR_one 18 (by kernel_rfl) ?_
        refine DO_s rfl rfl rfl ?_
        have _f_540 := ((_m8.ch0 _cw_532).ch _cw_538 (nin3 (by omega) (no_hi hiz98_0 (by omega)) (no_hi hiz98_3 (by omega))))
        refine s_storeA (off := 0) 3 _f_540 sz61 rfl (us := [(.int .i64 ((bpT ta _p0 _p3).f)), (.int .i64 ((bpT ta _p0 _p3).l)), (.bool ((bpT ta _p0 _p3).n))]) rfl rfl rfl rfl fun _w_541 _m_542 _cw_541 => ?_
        have _cw_541z := _cw_541.size
        have E := E.step _cw_541 (oneL (by omega))
        replace _m_542 : Blk _w_541 _b8 61 [(.int .i64 ((bpT ta _p0 _p3).f)), (.int .i64 ((bpT ta _p0 _p3).l)), (.bool ((bpT ta _p0 _p3).n))] := _m_542
        have _S_543 := (_S_539.step _cw_541 (oneL (by omega)))
        refine ⟨_S_543, ?_⟩
        refine DR_one 19 (by kernel_rfl) ?_
        refine DO_s rfl rfl rfl ?_
        have _f_544 := ((_m9.ch _cw_538 (nin3 (by omega) (no_hi hiz98_0 (by omega)) (no_hi hiz98_3 (by omega)))).ch _cw_541 (ne1 (by omega)))
        refine s_storeA (off := 0) 3 _f_544 sz61 rfl (us := [(.int .i64 ((bpT tb ((bpT ta _p0 _p3).L) ((bpT ta _p0 _p3).F)).f)), (.int .i64 ((bpT tb ((bpT ta _p0 _p3).L) ((bpT ta _p0 _p3).F)).l)), (.bool ((bpT tb ((bpT ta _p0 _p3).L) ((bpT ta _p0 _p3).F)).n))]) rfl rfl rfl rfl fun _w_545 _m_546 _cw_545 => ?_
        have _cw_545z := _cw_545.size
        have E := E.step _cw_545 (oneL (by omega))
        replace _m_546 : Blk _w_545 _b9 61 [(.int .i64 ((bpT tb ((bpT ta _p0 _p3).L) ((bpT ta _p0 _p3).F)).f)), (.int .i64 ((bpT tb ((bpT ta _p0 _p3).L) ((bpT ta _p0 _p3).F)).l)), (.bool ((bpT tb ((bpT ta _p0 _p3).L) ((bpT ta _p0 _p3).F)).n))] := _m_546
        have _S_547 := (_S_543.step _cw_545 (oneL (by omega)))
        refine ⟨_S_547, ?_⟩
        refine DR_done (by kernel_rfl) ?_
        refine thn_nrm ?_
        have _f_548 := ((_qz106_0.ch _cw_541 (fun g hg hm => by have _h0 := mSg.1 hm; exact nQ106_0_8 (by first | exact hg | exact _h0 ▸ hg))).ch _cw_545 (fun g hg hm => by have _h0 := mSg.1 hm; exact nQ106_0_9 (by first | exact hg | exact _h0 ▸ hg)))
        have _f_549 := ((_qz106_3.ch _cw_541 (fun g hg hm => by have _h0 := mSg.1 hm; exact nQ106_3_8 (by first | exact hg | exact _h0 ▸ hg))).ch _cw_545 (fun g hg hm => by have _h0 := mSg.1 hm; exact nQ106_3_9 (by first | exact hg | exact _h0 ▸ hg)))
        have _f_550 := ((_m106.ch _cw_541 (ne1 (by omega))).ch _cw_545 (ne1 (by omega)))
        have _f_551 := (_m_542.ch _cw_545 (ne1 (by omega)))
        have _f_552 := ((((((_f_462.ch _cw_468 (lwr3 (by omega) _ll_p0 (by omega) _ll_p3 (by omega))).ch0 _cw_508).ch0 _cw_532).ch _cw_538 (lwr3 (by omega) _loz98_0 (by omega) _loz98_3 (by omega))).ch _cw_541 (tfr1 (by omega))).ch _cw_545 (tfr1 (by omega)))
        have _f_553 := (((((((_m4.ch0 _cw_461).ch _cw_468 (nin3 (by omega) (no_hi _lt_p0 (by omega)) (no_hi _lt_p3 (by omega)))).ch0 _cw_508).ch0 _cw_532).ch _cw_538 (nin3 (by omega) nQ98_0_4 nQ98_3_4)).ch _cw_541 (ne1 (by omega))).ch _cw_545 (ne1 (by omega)))
        exact _J_385 _ _ _ _ _b8 _b9 (Sub.cons rfl (Sub.cons rfl (Sub.cons rfl (Sub.cons rfl (Sub.cons rfl (Sub.cons rfl (Sub.nil _))))))) E (by omega) _f_548 iQ106_0 _nbz106_0 _f_549 iQ106_3 _nbz106_3 _djz106_0z106_3 _f_550 _f_551 (by omega) (by omega) nQ106_0_8 nQ106_3_8 _m_546 (by omega) (by omega) nQ106_0_9 nQ106_3_9 (by omega) _f_552 _f_553 nQ106_0_4 nQ106_3_4
      ·refine DO_s rfl rfl rfl ?_
       refine s_alloc zr61 fun _b9 _w_554 _m9 _cw_554 _e9 => ?_
       have _cw_554z := _cw_554.size
       have E := E.trans _cw_554.of_nil
       have _z9 := _m9.lt
       replace _m9 : Blk _w_554 _b9 61 [(.int .i64 0), (.int .i64 0), (.bool false)] := _m9
       have _S_555 := (_S_469.trans _cw_554.of_nil)
       refine ⟨_S_555, ?_⟩
       refine DR_two 15 16 (by kernel_rfl) ?_ ?_
       ·refine DO_s rfl rfl rfl ?_
        have _f_556 := (_m98.ch0 _cw_554)
        have _f_557 := (_qz98_0.ch0 _cw_554)
        have _f_558 := (_qz98_3.ch0 _cw_554)
        have _f_559 := ((_tr104.ch _cw_468 (lwr3 (by omega) _ll_p0 (by omega) _ll_p3 (by omega))).ch0 _cw_554)
        refine Step.call (r_call (xs := [.tmp 99, .tmp 105]) fk31 rfl) (ih _f_556 _f_557 _nbz98_0 (Lo.down _loz98_0 (by omega)) _f_558 _nbz98_3 (Lo.down _loz98_3 (by omega)) _djz98_0z98_3 _f_559 (by omega) (by omega) ob ⟨by omega, by omega⟩ (by omega)) fun _v106 _w_560 _q106 => ?_
        obtain ⟨_z106_0, _z106_3, rfl, _m106, _qz106_0, _inz106_0, _nbz106_0, _qz106_3, _inz106_3, _nbz106_3, _djz106_0z106_3, _cw_560⟩ := _q106
        have _cw_560z := _cw_560.size
        have E := E.step _cw_560 (fun i hm => by rcases List.mem_cons.1 hm with _h0 | hm; (right; exact _h0 ▸ List.mem_cons_self ..); (rcases List.mem_append.1 hm with hm | hm; (exact (iQ98_0 _ hm)); (exact (iQ98_3 _ hm))))
        obtain ⟨Az106_0, Cz106_0, ez106_0⟩ := _qz106_0.val
        subst ez106_0
        have lz106_0 := _qz106_0.len
        have hiz106_0 := _qz106_0.lt
        have _loz106_0 : Lo L_p (.slice Az106_0 ((bpT tb ((bpT ta _p0 _p3).L) ((bpT ta _p0 _p3).F)).L).length Cz106_0) := loOld _inz106_0 _nbz106_0 (by omega) (all2 _loz98_0 _loz98_3)
        obtain ⟨Az106_3, Cz106_3, ez106_3⟩ := _qz106_3.val
        subst ez106_3
        have lz106_3 := _qz106_3.len
        have hiz106_3 := _qz106_3.lt
        have _loz106_3 : Lo L_p (.slice Az106_3 ((bpT tb ((bpT ta _p0 _p3).L) ((bpT ta _p0 _p3).F)).F).length Cz106_3) := loOld _inz106_3 _nbz106_3 (by omega) (all2 _loz98_0 _loz98_3)
        have nQ106_0_4 := nbOld _inz106_0 _nbz106_0 (show _b4 < _ by omega) (nin2 nQ98_0_4 nQ98_3_4)
        have nQ106_0_9 := nbOld _inz106_0 _nbz106_0 (show _b9 < _ by omega) (nin2 (no_in _loz98_0 hiz98_0 (by omega)) (no_in _loz98_3 hiz98_3 (by omega)))
        have iQ106_0 := inOldE E _inz106_0 _nbz106_0 (by omega) (all2 (fun g hm => (iQ98_0 _ hm)) (fun g hm => (iQ98_3 _ hm)))
        have nQ106_3_4 := nbOld _inz106_3 _nbz106_3 (show _b4 < _ by omega) (nin2 nQ98_0_4 nQ98_3_4)
        have nQ106_3_9 := nbOld _inz106_3 _nbz106_3 (show _b9 < _ by omega) (nin2 (no_in _loz98_0 hiz98_0 (by omega)) (no_in _loz98_3 hiz98_3 (by omega)))
        have iQ106_3 := inOldE E _inz106_3 _nbz106_3 (by omega) (all2 (fun g hm => (iQ98_0 _ hm)) (fun g hm => (iQ98_3 _ hm)))
        replace _m106 : Blk _w_560 b_p t_p [(.slice Az106_0 ((bpT tb ((bpT ta _p0 _p3).L) ((bpT ta _p0 _p3).F)).L).length Cz106_0), (.int .i64 _p1), (.int .i64 _p2), (.slice Az106_3 ((bpT tb ((bpT ta _p0 _p3).L) ((bpT ta _p0 _p3).F)).F).length Cz106_3), (.bool _p4)] := _m106
        have _S_561 := (_S_555.step _cw_560 (all3 (.inr (mAL _ (mAL _ (mSg.2 rfl)))) (inCall _inz98_0 (by omega) (.inr (mAL _ (mAL _ (mSg.2 rfl)))) (fun i hm => .inr (mAL _ (mAR _ hm))) (fun i hm => .inr (mAR _ hm))) (inCall _inz98_3 (by omega) (.inr (mAL _ (mAL _ (mSg.2 rfl)))) (fun i hm => .inr (mAL _ (mAR _ hm))) (fun i hm => .inr (mAR _ hm)))))
        refine ⟨_S_561, ?_⟩
        refine DR_one 16 (by kernel_rfl) ?_
        refine DO_s rfl rfl rfl ?_
        refine s_alloc zr61 fun _b8 _w_562 _m8 _cw_562 _e8 => ?_
        have _cw_562z := _cw_562.size
        have E := E.trans _cw_562.of_nil
        have _z8 := _m8.lt
        replace _m8 : Blk _w_562 _b8 61 [(.int .i64 0), (.int .i64 0), (.bool false)] := _m8
        have _S_563 := (_S_561.trans _cw_562.of_nil)
        refine ⟨_S_563, ?_⟩
        refine DR_one 18 (by kernel_rfl) ?_
        refine DO_s rfl rfl rfl ?_
        refine s_storeA (off := 0) 3 _m8 sz61 rfl (us := [(.int .i64 ((bpT ta _p0 _p3).f)), (.int .i64 ((bpT ta _p0 _p3).l)), (.bool ((bpT ta _p0 _p3).n))]) rfl rfl rfl rfl fun _w_564 _m_565 _cw_564 => ?_
        have _cw_564z := _cw_564.size
        have E := E.step _cw_564 (oneL (by omega))
        replace _m_565 : Blk _w_564 _b8 61 [(.int .i64 ((bpT ta _p0 _p3).f)), (.int .i64 ((bpT ta _p0 _p3).l)), (.bool ((bpT ta _p0 _p3).n))] := _m_565
        have _S_566 := (_S_563.step _cw_564 (oneL (by omega)))
        refine ⟨_S_566, ?_⟩
        refine DR_one 19 (by kernel_rfl) ?_
        refine DO_s rfl rfl rfl ?_
        have _f_567 := (((_m9.ch _cw_560 (nin3 (by omega) (no_hi hiz98_0 (by omega)) (no_hi hiz98_3 (by omega)))).ch0 _cw_562).ch _cw_564 (ne1 (by omega)))
        refine s_storeA (off := 0) 3 _f_567 sz61 rfl (us := [(.int .i64 ((bpT tb ((bpT ta _p0 _p3).L) ((bpT ta _p0 _p3).F)).f)), (.int .i64 ((bpT tb ((bpT ta _p0 _p3).L) ((bpT ta _p0 _p3).F)).l)), (.bool ((bpT tb ((bpT ta _p0 _p3).L) ((bpT ta _p0 _p3).F)).n))]) rfl rfl rfl rfl fun _w_568 _m_569 _cw_568 => ?_
        have _cw_568z := _cw_568.size
        have E := E.step _cw_568 (oneL (by omega))
        replace _m_569 : Blk _w_568 _b9 61 [(.int .i64 ((bpT tb ((bpT ta _p0 _p3).L) ((bpT ta _p0 _p3).F)).f)), (.int .i64 ((bpT tb ((bpT ta _p0 _p3).L) ((bpT ta _p0 _p3).F)).l)), (.bool ((bpT tb ((bpT ta _p0 _p3).L) ((bpT ta _p0 _p3).F)).n))] := _m_569
        have _S_570 := (_S_566.step _cw_568 (oneL (by omega)))
        refine ⟨_S_570, ?_⟩
        refine DR_done (by kernel_rfl) ?_
        refine thn_nrm ?_
        have _f_571 := (((_qz106_0.ch0 _cw_562).ch _cw_564 (fun g hg hm => by have _h0 := mSg.1 hm; have _h2 := _loz106_0 _ hg; have _h3 := hiz106_0 _ hg; omega)).ch _cw_568 (fun g hg hm => by have _h0 := mSg.1 hm; exact nQ106_0_9 (by first | exact hg | exact _h0 ▸ hg)))
        have _f_572 := (((_qz106_3.ch0 _cw_562).ch _cw_564 (fun g hg hm => by have _h0 := mSg.1 hm; have _h2 := _loz106_3 _ hg; have _h3 := hiz106_3 _ hg; omega)).ch _cw_568 (fun g hg hm => by have _h0 := mSg.1 hm; exact nQ106_3_9 (by first | exact hg | exact _h0 ▸ hg)))
        have _f_573 := (((_m106.ch0 _cw_562).ch _cw_564 (ne1 (by omega))).ch _cw_568 (ne1 (by omega)))
        have _f_574 := (_m_565.ch _cw_568 (ne1 (by omega)))
        have _f_575 := ((((((_f_462.ch _cw_468 (lwr3 (by omega) _ll_p0 (by omega) _ll_p3 (by omega))).ch0 _cw_554).ch _cw_560 (lwr3 (by omega) _loz98_0 (by omega) _loz98_3 (by omega))).ch0 _cw_562).ch _cw_564 (tfr1 (by omega))).ch _cw_568 (tfr1 (by omega)))
        have _f_576 := (((((((_m4.ch0 _cw_461).ch _cw_468 (nin3 (by omega) (no_hi _lt_p0 (by omega)) (no_hi _lt_p3 (by omega)))).ch0 _cw_554).ch _cw_560 (nin3 (by omega) nQ98_0_4 nQ98_3_4)).ch0 _cw_562).ch _cw_564 (ne1 (by omega))).ch _cw_568 (ne1 (by omega)))
        exact _J_385 _ _ _ _ _b8 _b9 (Sub.cons rfl (Sub.cons rfl (Sub.cons rfl (Sub.cons rfl (Sub.cons rfl (Sub.cons rfl (Sub.nil _))))))) E (by omega) _f_571 iQ106_0 _nbz106_0 _f_572 iQ106_3 _nbz106_3 _djz106_0z106_3 _f_573 _f_574 (by omega) (by omega) (no_in _loz106_0 hiz106_0 (by omega)) (no_in _loz106_3 hiz106_3 (by omega)) _m_569 (by omega) (by omega) nQ106_0_9 nQ106_3_9 (by omega) _f_575 _f_576 nQ106_0_4 nQ106_3_4
       ·refine DO_s rfl rfl rfl ?_
        refine s_alloc zr61 fun _b8 _w_577 _m8 _cw_577 _e8 => ?_
        have _cw_577z := _cw_577.size
        have E := E.trans _cw_577.of_nil
        have _z8 := _m8.lt
        replace _m8 : Blk _w_577 _b8 61 [(.int .i64 0), (.int .i64 0), (.bool false)] := _m8
        have _S_578 := (_S_555.trans _cw_577.of_nil)
        refine ⟨_S_578, ?_⟩
        refine DR_one 15 (by kernel_rfl) ?_
        refine DO_s rfl rfl rfl ?_
        have _f_579 := ((_m98.ch0 _cw_554).ch0 _cw_577)
        have _f_580 := ((_qz98_0.ch0 _cw_554).ch0 _cw_577)
        have _f_581 := ((_qz98_3.ch0 _cw_554).ch0 _cw_577)
        have _f_582 := (((_tr104.ch _cw_468 (lwr3 (by omega) _ll_p0 (by omega) _ll_p3 (by omega))).ch0 _cw_554).ch0 _cw_577)
        refine Step.call (r_call (xs := [.tmp 99, .tmp 105]) fk31 rfl) (ih _f_579 _f_580 _nbz98_0 (Lo.down _loz98_0 (by omega)) _f_581 _nbz98_3 (Lo.down _loz98_3 (by omega)) _djz98_0z98_3 _f_582 (by omega) (by omega) ob ⟨by omega, by omega⟩ (by omega)) fun _v106 _w_583 _q106 => ?_
        obtain ⟨_z106_0, _z106_3, rfl, _m106, _qz106_0, _inz106_0, _nbz106_0, _qz106_3, _inz106_3, _nbz106_3, _djz106_0z106_3, _cw_583⟩ := _q106
        have _cw_583z := _cw_583.size
        have E := E.step _cw_583 (fun i hm => by rcases List.mem_cons.1 hm with _h0 | hm; (right; exact _h0 ▸ List.mem_cons_self ..); (rcases List.mem_append.1 hm with hm | hm; (exact (iQ98_0 _ hm)); (exact (iQ98_3 _ hm))))
        obtain ⟨Az106_0, Cz106_0, ez106_0⟩ := _qz106_0.val
        subst ez106_0
        have lz106_0 := _qz106_0.len
        have hiz106_0 := _qz106_0.lt
        have _loz106_0 : Lo L_p (.slice Az106_0 ((bpT tb ((bpT ta _p0 _p3).L) ((bpT ta _p0 _p3).F)).L).length Cz106_0) := loOld _inz106_0 _nbz106_0 (by omega) (all2 _loz98_0 _loz98_3)
        obtain ⟨Az106_3, Cz106_3, ez106_3⟩ := _qz106_3.val
        subst ez106_3
        have lz106_3 := _qz106_3.len
        have hiz106_3 := _qz106_3.lt
        have _loz106_3 : Lo L_p (.slice Az106_3 ((bpT tb ((bpT ta _p0 _p3).L) ((bpT ta _p0 _p3).F)).F).length Cz106_3) := loOld _inz106_3 _nbz106_3 (by omega) (all2 _loz98_0 _loz98_3)
        have nQ106_0_4 := nbOld _inz106_0 _nbz106_0 (show _b4 < _ by omega) (nin2 nQ98_0_4 nQ98_3_4)
        have nQ106_0_9 := nbOld _inz106_0 _nbz106_0 (show _b9 < _ by omega) (nin2 (no_in _loz98_0 hiz98_0 (by omega)) (no_in _loz98_3 hiz98_3 (by omega)))
        have nQ106_0_8 := nbOld _inz106_0 _nbz106_0 (show _b8 < _ by omega) (nin2 (no_in _loz98_0 hiz98_0 (by omega)) (no_in _loz98_3 hiz98_3 (by omega)))
        have iQ106_0 := inOldE E _inz106_0 _nbz106_0 (by omega) (all2 (fun g hm => (iQ98_0 _ hm)) (fun g hm => (iQ98_3 _ hm)))
        have nQ106_3_4 := nbOld _inz106_3 _nbz106_3 (show _b4 < _ by omega) (nin2 nQ98_0_4 nQ98_3_4)
        have nQ106_3_9 := nbOld _inz106_3 _nbz106_3 (show _b9 < _ by omega) (nin2 (no_in _loz98_0 hiz98_0 (by omega)) (no_in _loz98_3 hiz98_3 (by omega)))
        have nQ106_3_8 := nbOld _inz106_3 _nbz106_3 (show _b8 < _ by omega) (nin2 (no_in _loz98_0 hiz98_0 (by omega)) (no_in _loz98_3 hiz98_3 (by omega)))
        have iQ106_3 := inOldE E _inz106_3 _nbz106_3 (by omega) (all2 (fun g hm => (iQ98_0 _ hm)) (fun g hm => (iQ98_3 _ hm)))
        replace _m106 : Blk _w_583 b_p t_p [(.slice Az106_0 ((bpT tb ((bpT ta _p0 _p3).L) ((bpT ta _p0 _p3).F)).L).length Cz106_0), (.int .i64 _p1), (.int .i64 _p2), (.slice Az106_3 ((bpT tb ((bpT ta _p0 _p3).L) ((bpT ta _p0 _p3).F)).F).length Cz106_3), (.bool _p4)] := _m106
        have _S_584 := (_S_578.step _cw_583 (all3 (.inr (mAL _ (mAL _ (mSg.2 rfl)))) (inCall _inz98_0 (by omega) (.inr (mAL _ (mAL _ (mSg.2 rfl)))) (fun i hm => .inr (mAL _ (mAR _ hm))) (fun i hm => .inr (mAR _ hm))) (inCall _inz98_3 (by omega) (.inr (mAL _ (mAL _ (mSg.2 rfl)))) (fun i hm => .inr (mAL _ (mAR _ hm))) (fun i hm => .inr (mAR _ hm)))))
        refine ⟨_S_584, ?_⟩
        refine DR_one 18 (by kernel_rfl) ?_
        refine DO_s rfl rfl rfl ?_
        have _f_585 := (_m8.ch _cw_583 (nin3 (by omega) (no_hi hiz98_0 (by omega)) (no_hi hiz98_3 (by omega))))
        refine s_storeA (off := 0) 3 _f_585 sz61 rfl (us := [(.int .i64 ((bpT ta _p0 _p3).f)), (.int .i64 ((bpT ta _p0 _p3).l)), (.bool ((bpT ta _p0 _p3).n))]) rfl rfl rfl rfl fun _w_586 _m_587 _cw_586 => ?_
        have _cw_586z := _cw_586.size
        have E := E.step _cw_586 (oneL (by omega))
        replace _m_587 : Blk _w_586 _b8 61 [(.int .i64 ((bpT ta _p0 _p3).f)), (.int .i64 ((bpT ta _p0 _p3).l)), (.bool ((bpT ta _p0 _p3).n))] := _m_587
        have _S_588 := (_S_584.step _cw_586 (oneL (by omega)))
        refine ⟨_S_588, ?_⟩
        refine DR_one 19 (by kernel_rfl) ?_
        refine DO_s rfl rfl rfl ?_
        have _f_589 := (((_m9.ch0 _cw_577).ch _cw_583 (nin3 (by omega) (no_hi hiz98_0 (by omega)) (no_hi hiz98_3 (by omega)))).ch _cw_586 (ne1 (by omega)))
        refine s_storeA (off := 0) 3 _f_589 sz61 rfl (us := [(.int .i64 ((bpT tb ((bpT ta _p0 _p3).L) ((bpT ta _p0 _p3).F)).f)), (.int .i64 ((bpT tb ((bpT ta _p0 _p3).L) ((bpT ta _p0 _p3).F)).l)), (.bool ((bpT tb ((bpT ta _p0 _p3).L) ((bpT ta _p0 _p3).F)).n))]) rfl rfl rfl rfl fun _w_590 _m_591 _cw_590 => ?_
        have _cw_590z := _cw_590.size
        have E := E.step _cw_590 (oneL (by omega))
        replace _m_591 : Blk _w_590 _b9 61 [(.int .i64 ((bpT tb ((bpT ta _p0 _p3).L) ((bpT ta _p0 _p3).F)).f)), (.int .i64 ((bpT tb ((bpT ta _p0 _p3).L) ((bpT ta _p0 _p3).F)).l)), (.bool ((bpT tb ((bpT ta _p0 _p3).L) ((bpT ta _p0 _p3).F)).n))] := _m_591
        have _S_592 := (_S_588.step _cw_590 (oneL (by omega)))
        refine ⟨_S_592, ?_⟩
        refine DR_done (by kernel_rfl) ?_
        refine thn_nrm ?_
        have _f_593 := ((_qz106_0.ch _cw_586 (fun g hg hm => by have _h0 := mSg.1 hm; exact nQ106_0_8 (by first | exact hg | exact _h0 ▸ hg))).ch _cw_590 (fun g hg hm => by have _h0 := mSg.1 hm; exact nQ106_0_9 (by first | exact hg | exact _h0 ▸ hg)))
        have _f_594 := ((_qz106_3.ch _cw_586 (fun g hg hm => by have _h0 := mSg.1 hm; exact nQ106_3_8 (by first | exact hg | exact _h0 ▸ hg))).ch _cw_590 (fun g hg hm => by have _h0 := mSg.1 hm; exact nQ106_3_9 (by first | exact hg | exact _h0 ▸ hg)))
        have _f_595 := ((_m106.ch _cw_586 (ne1 (by omega))).ch _cw_590 (ne1 (by omega)))
        have _f_596 := (_m_587.ch _cw_590 (ne1 (by omega)))
        have _f_597 := ((((((_f_462.ch _cw_468 (lwr3 (by omega) _ll_p0 (by omega) _ll_p3 (by omega))).ch0 _cw_554).ch0 _cw_577).ch _cw_583 (lwr3 (by omega) _loz98_0 (by omega) _loz98_3 (by omega))).ch _cw_586 (tfr1 (by omega))).ch _cw_590 (tfr1 (by omega)))
        have _f_598 := (((((((_m4.ch0 _cw_461).ch _cw_468 (nin3 (by omega) (no_hi _lt_p0 (by omega)) (no_hi _lt_p3 (by omega)))).ch0 _cw_554).ch0 _cw_577).ch _cw_583 (nin3 (by omega) nQ98_0_4 nQ98_3_4)).ch _cw_586 (ne1 (by omega))).ch _cw_590 (ne1 (by omega)))
        exact _J_385 _ _ _ _ _b8 _b9 (Sub.cons rfl (Sub.cons rfl (Sub.cons rfl (Sub.cons rfl (Sub.cons rfl (Sub.cons rfl (Sub.nil _))))))) E (by omega) _f_593 iQ106_0 _nbz106_0 _f_594 iQ106_3 _nbz106_3 _djz106_0z106_3 _f_595 _f_596 (by omega) (by omega) nQ106_0_8 nQ106_3_8 _m_591 (by omega) (by omega) nQ106_0_9 nQ106_3_9 (by omega) _f_597 _f_598 nQ106_0_4 nQ106_3_4
     ·refine DO_s rfl rfl rfl ?_
      refine s_alloc zr61 fun _b8 _w_599 _m8 _cw_599 _e8 => ?_
      have _cw_599z := _cw_599.size
      have E := E.trans _cw_599.of_nil
      have _z8 := _m8.lt
      replace _m8 : Blk _w_599 _b8 61 [(.int .i64 0), (.int .i64 0), (.bool false)] := _m8
      have _S_600 : Ch ([b_p] ++ (bl (.slice _A_p0 _p0.length _C_p0)) ++ (bl (.slice _A_p3 _p3.length _C_p3))) _w_461 _w_599 := ((Ch.refl _ _).trans _cw_599.of_nil)
      refine ⟨_S_600, ?_⟩
      refine DR_two 7 17 (by kernel_rfl) ?_ ?_
      ·refine DO_s rfl rfl rfl ?_
       have _f_601 := (((m_p.ch0 _cw_2).ch0 _cw_461).ch0 _cw_599)
       have _f_602 := (((_h_p0.ch0 _cw_2).ch0 _cw_461).ch0 _cw_599)
       have _f_603 := (((_h_p3.ch0 _cw_2).ch0 _cw_461).ch0 _cw_599)
       have _f_604 := (_tr96.ch0 _cw_599)
       refine Step.call (r_call (xs := [.tmp 91, .tmp 97]) fk31 rfl) (ih _f_601 _f_602 _nb_p0 (Lo.down _ll_p0 (by omega)) _f_603 _nb_p3 (Lo.down _ll_p3 (by omega)) _dj_p0_p3 _f_604 (by omega) (by omega) oa ⟨by omega, by omega⟩ (by omega)) fun _v98 _w_605 _q98 => ?_
       obtain ⟨_z98_0, _z98_3, rfl, _m98, _qz98_0, _inz98_0, _nbz98_0, _qz98_3, _inz98_3, _nbz98_3, _djz98_0z98_3, _cw_605⟩ := _q98
       have _cw_605z := _cw_605.size
       have E := E.step _cw_605 (fun i hm => by rcases List.mem_cons.1 hm with _h0 | hm; (right; exact _h0 ▸ List.mem_cons_self ..); (rcases List.mem_append.1 hm with hm | hm; (exact (.inr (mCo _ (mAL _ hm)))); (exact (.inr (mCo _ (mAR _ hm))))))
       obtain ⟨Az98_0, Cz98_0, ez98_0⟩ := _qz98_0.val
       subst ez98_0
       have lz98_0 := _qz98_0.len
       have hiz98_0 := _qz98_0.lt
       have _loz98_0 : Lo L_p (.slice Az98_0 ((bpT ta _p0 _p3).L).length Cz98_0) := loOld _inz98_0 _nbz98_0 (by omega) (all2 _ll_p0 _ll_p3)
       obtain ⟨Az98_3, Cz98_3, ez98_3⟩ := _qz98_3.val
       subst ez98_3
       have lz98_3 := _qz98_3.len
       have hiz98_3 := _qz98_3.lt
       have _loz98_3 : Lo L_p (.slice Az98_3 ((bpT ta _p0 _p3).F).length Cz98_3) := loOld _inz98_3 _nbz98_3 (by omega) (all2 _ll_p0 _ll_p3)
       have nQ98_0_4 := nbOld _inz98_0 _nbz98_0 (show _b4 < _ by omega) (nin2 (no_in _ll_p0 _lt_p0 (by omega)) (no_in _ll_p3 _lt_p3 (by omega)))
       have nQ98_0_8 := nbOld _inz98_0 _nbz98_0 (show _b8 < _ by omega) (nin2 (no_in _ll_p0 _lt_p0 (by omega)) (no_in _ll_p3 _lt_p3 (by omega)))
       have iQ98_0 := inOldE E _inz98_0 _nbz98_0 (by omega) (all2 (fun g hm => (.inr (mCo _ (mAL _ hm)))) (fun g hm => (.inr (mCo _ (mAR _ hm)))))
       have nQ98_3_4 := nbOld _inz98_3 _nbz98_3 (show _b4 < _ by omega) (nin2 (no_in _ll_p0 _lt_p0 (by omega)) (no_in _ll_p3 _lt_p3 (by omega)))
       have nQ98_3_8 := nbOld _inz98_3 _nbz98_3 (show _b8 < _ by omega) (nin2 (no_in _ll_p0 _lt_p0 (by omega)) (no_in _ll_p3 _lt_p3 (by omega)))
       have iQ98_3 := inOldE E _inz98_3 _nbz98_3 (by omega) (all2 (fun g hm => (.inr (mCo _ (mAL _ hm)))) (fun g hm => (.inr (mCo _ (mAR _ hm)))))
       replace _m98 : Blk _w_605 b_p t_p [(.slice Az98_0 ((bpT ta _p0 _p3).L).length Cz98_0), (.int .i64 _p1), (.int .i64 _p2), (.slice Az98_3 ((bpT ta _p0 _p3).F).length Cz98_3), (.bool _p4)] := _m98
       have _S_606 := (_S_600.step _cw_605 (all3 (.inr (mAL _ (mAL _ (mSg.2 rfl)))) (fun i hm => .inr (mAL _ (mAR _ hm))) (fun i hm => .inr (mAR _ hm))))
       refine ⟨_S_606, ?_⟩
       refine DR_two 15 17 (by kernel_rfl) ?_ ?_
       ·refine DO_s rfl rfl rfl ?_
        have _f_607 := ((_tr104.ch0 _cw_599).ch _cw_605 (lwr3 (by omega) _ll_p0 (by omega) _ll_p3 (by omega)))
        refine Step.call (r_call (xs := [.tmp 99, .tmp 105]) fk31 rfl) (ih _m98 _qz98_0 _nbz98_0 (Lo.down _loz98_0 (by omega)) _qz98_3 _nbz98_3 (Lo.down _loz98_3 (by omega)) _djz98_0z98_3 _f_607 (by omega) (by omega) ob ⟨by omega, by omega⟩ (by omega)) fun _v106 _w_608 _q106 => ?_
        obtain ⟨_z106_0, _z106_3, rfl, _m106, _qz106_0, _inz106_0, _nbz106_0, _qz106_3, _inz106_3, _nbz106_3, _djz106_0z106_3, _cw_608⟩ := _q106
        have _cw_608z := _cw_608.size
        have E := E.step _cw_608 (fun i hm => by rcases List.mem_cons.1 hm with _h0 | hm; (right; exact _h0 ▸ List.mem_cons_self ..); (rcases List.mem_append.1 hm with hm | hm; (exact (iQ98_0 _ hm)); (exact (iQ98_3 _ hm))))
        obtain ⟨Az106_0, Cz106_0, ez106_0⟩ := _qz106_0.val
        subst ez106_0
        have lz106_0 := _qz106_0.len
        have hiz106_0 := _qz106_0.lt
        have _loz106_0 : Lo L_p (.slice Az106_0 ((bpT tb ((bpT ta _p0 _p3).L) ((bpT ta _p0 _p3).F)).L).length Cz106_0) := loOld _inz106_0 _nbz106_0 (by omega) (all2 _loz98_0 _loz98_3)
        obtain ⟨Az106_3, Cz106_3, ez106_3⟩ := _qz106_3.val
        subst ez106_3
        have lz106_3 := _qz106_3.len
        have hiz106_3 := _qz106_3.lt
        have _loz106_3 : Lo L_p (.slice Az106_3 ((bpT tb ((bpT ta _p0 _p3).L) ((bpT ta _p0 _p3).F)).F).length Cz106_3) := loOld _inz106_3 _nbz106_3 (by omega) (all2 _loz98_0 _loz98_3)
        have nQ106_0_4 := nbOld _inz106_0 _nbz106_0 (show _b4 < _ by omega) (nin2 nQ98_0_4 nQ98_3_4)
        have nQ106_0_8 := nbOld _inz106_0 _nbz106_0 (show _b8 < _ by omega) (nin2 nQ98_0_8 nQ98_3_8)
        have iQ106_0 := inOldE E _inz106_0 _nbz106_0 (by omega) (all2 (fun g hm => (iQ98_0 _ hm)) (fun g hm => (iQ98_3 _ hm)))
        have nQ106_3_4 := nbOld _inz106_3 _nbz106_3 (show _b4 < _ by omega) (nin2 nQ98_0_4 nQ98_3_4)
        have nQ106_3_8 := nbOld _inz106_3 _nbz106_3 (show _b8 < _ by omega) (nin2 nQ98_0_8 nQ98_3_8)
        have iQ106_3 := inOldE E _inz106_3 _nbz106_3 (by omega) (all2 (fun g hm => (iQ98_0 _ hm)) (fun g hm => (iQ98_3 _ hm)))
        replace _m106 : Blk _w_608 b_p t_p [(.slice Az106_0 ((bpT tb ((bpT ta _p0 _p3).L) ((bpT ta _p0 _p3).F)).L).length Cz106_0), (.int .i64 _p1), (.int .i64 _p2), (.slice Az106_3 ((bpT tb ((bpT ta _p0 _p3).L) ((bpT ta _p0 _p3).F)).F).length Cz106_3), (.bool _p4)] := _m106
        have _S_609 := (_S_606.step _cw_608 (all3 (.inr (mAL _ (mAL _ (mSg.2 rfl)))) (inCall _inz98_0 (by omega) (.inr (mAL _ (mAL _ (mSg.2 rfl)))) (fun i hm => .inr (mAL _ (mAR _ hm))) (fun i hm => .inr (mAR _ hm))) (inCall _inz98_3 (by omega) (.inr (mAL _ (mAL _ (mSg.2 rfl)))) (fun i hm => .inr (mAL _ (mAR _ hm))) (fun i hm => .inr (mAR _ hm)))))
        refine ⟨_S_609, ?_⟩
        refine DR_one 17 (by kernel_rfl) ?_
        refine DO_s rfl rfl rfl ?_
        refine s_alloc zr61 fun _b9 _w_610 _m9 _cw_610 _e9 => ?_
        have _cw_610z := _cw_610.size
        have E := E.trans _cw_610.of_nil
        have _z9 := _m9.lt
        replace _m9 : Blk _w_610 _b9 61 [(.int .i64 0), (.int .i64 0), (.bool false)] := _m9
        have _S_611 := (_S_609.trans _cw_610.of_nil)
        refine ⟨_S_611, ?_⟩
        refine DR_one 18 (by kernel_rfl) ?_
        refine DO_s rfl rfl rfl ?_
        have _f_612 := (((_m8.ch _cw_605 (nin3 (by omega) (no_hi _lt_p0 (by omega)) (no_hi _lt_p3 (by omega)))).ch _cw_608 (nin3 (by omega) nQ98_0_8 nQ98_3_8)).ch0 _cw_610)
        refine s_storeA (off := 0) 3 _f_612 sz61 rfl (us := [(.int .i64 ((bpT ta _p0 _p3).f)), (.int .i64 ((bpT ta _p0 _p3).l)), (.bool ((bpT ta _p0 _p3).n))]) rfl rfl rfl rfl fun _w_613 _m_614 _cw_613 => ?_
        have _cw_613z := _cw_613.size
        have E := E.step _cw_613 (oneL (by omega))
        replace _m_614 : Blk _w_613 _b8 61 [(.int .i64 ((bpT ta _p0 _p3).f)), (.int .i64 ((bpT ta _p0 _p3).l)), (.bool ((bpT ta _p0 _p3).n))] := _m_614
        have _S_615 := (_S_611.step _cw_613 (oneL (by omega)))
        refine ⟨_S_615, ?_⟩
        refine DR_one 19 (by kernel_rfl) ?_
        refine DO_s rfl rfl rfl ?_
        have _f_616 := (_m9.ch _cw_613 (ne1 (by omega)))
        refine s_storeA (off := 0) 3 _f_616 sz61 rfl (us := [(.int .i64 ((bpT tb ((bpT ta _p0 _p3).L) ((bpT ta _p0 _p3).F)).f)), (.int .i64 ((bpT tb ((bpT ta _p0 _p3).L) ((bpT ta _p0 _p3).F)).l)), (.bool ((bpT tb ((bpT ta _p0 _p3).L) ((bpT ta _p0 _p3).F)).n))]) rfl rfl rfl rfl fun _w_617 _m_618 _cw_617 => ?_
        have _cw_617z := _cw_617.size
        have E := E.step _cw_617 (oneL (by omega))
        replace _m_618 : Blk _w_617 _b9 61 [(.int .i64 ((bpT tb ((bpT ta _p0 _p3).L) ((bpT ta _p0 _p3).F)).f)), (.int .i64 ((bpT tb ((bpT ta _p0 _p3).L) ((bpT ta _p0 _p3).F)).l)), (.bool ((bpT tb ((bpT ta _p0 _p3).L) ((bpT ta _p0 _p3).F)).n))] := _m_618
        have _S_619 := (_S_615.step _cw_617 (oneL (by omega)))
        refine ⟨_S_619, ?_⟩
        refine DR_done (by kernel_rfl) ?_
        refine thn_nrm ?_
        have _f_620 := (((_qz106_0.ch0 _cw_610).ch _cw_613 (fun g hg hm => by have _h0 := mSg.1 hm; exact nQ106_0_8 (by first | exact hg | exact _h0 ▸ hg))).ch _cw_617 (fun g hg hm => by have _h0 := mSg.1 hm; have _h2 := _loz106_0 _ hg; have _h3 := hiz106_0 _ hg; omega))
        have _f_621 := (((_qz106_3.ch0 _cw_610).ch _cw_613 (fun g hg hm => by have _h0 := mSg.1 hm; exact nQ106_3_8 (by first | exact hg | exact _h0 ▸ hg))).ch _cw_617 (fun g hg hm => by have _h0 := mSg.1 hm; have _h2 := _loz106_3 _ hg; have _h3 := hiz106_3 _ hg; omega))
        have _f_622 := (((_m106.ch0 _cw_610).ch _cw_613 (ne1 (by omega))).ch _cw_617 (ne1 (by omega)))
        have _f_623 := (_m_614.ch _cw_617 (ne1 (by omega)))
        have _f_624 := ((((((_f_462.ch0 _cw_599).ch _cw_605 (lwr3 (by omega) _ll_p0 (by omega) _ll_p3 (by omega))).ch _cw_608 (lwr3 (by omega) _loz98_0 (by omega) _loz98_3 (by omega))).ch0 _cw_610).ch _cw_613 (tfr1 (by omega))).ch _cw_617 (tfr1 (by omega)))
        have _f_625 := (((((((_m4.ch0 _cw_461).ch0 _cw_599).ch _cw_605 (nin3 (by omega) (no_hi _lt_p0 (by omega)) (no_hi _lt_p3 (by omega)))).ch _cw_608 (nin3 (by omega) nQ98_0_4 nQ98_3_4)).ch0 _cw_610).ch _cw_613 (ne1 (by omega))).ch _cw_617 (ne1 (by omega)))
        exact _J_385 _ _ _ _ _b8 _b9 (Sub.cons rfl (Sub.cons rfl (Sub.cons rfl (Sub.cons rfl (Sub.cons rfl (Sub.cons rfl (Sub.nil _))))))) E (by omega) _f_620 iQ106_0 _nbz106_0 _f_621 iQ106_3 _nbz106_3 _djz106_0z106_3 _f_622 _f_623 (by omega) (by omega) nQ106_0_8 nQ106_3_8 _m_618 (by omega) (by omega) (no_in _loz106_0 hiz106_0 (by omega)) (no_in _loz106_3 hiz106_3 (by omega)) (by omega) _f_624 _f_625 nQ106_0_4 nQ106_3_4
       ·refine DO_s rfl rfl rfl ?_
        refine s_alloc zr61 fun _b9 _w_626 _m9 _cw_626 _e9 => ?_
        have _cw_626z := _cw_626.size
        have E := E.trans _cw_626.of_nil
        have _z9 := _m9.lt
        replace _m9 : Blk _w_626 _b9 61 [(.int .i64 0), (.int .i64 0), (.bool false)] := _m9
        have _S_627 := (_S_606.trans _cw_626.of_nil)
        refine ⟨_S_627, ?_⟩
        refine DR_one 15 (by kernel_rfl) ?_
        refine DO_s rfl rfl rfl ?_
        have _f_628 := (_m98.ch0 _cw_626)
        have _f_629 := (_qz98_0.ch0 _cw_626)
        have _f_630 := (_qz98_3.ch0 _cw_626)
        have _f_631 := (((_tr104.ch0 _cw_599).ch _cw_605 (lwr3 (by omega) _ll_p0 (by omega) _ll_p3 (by omega))).ch0 _cw_626)
        refine Step.call (r_call (xs := [.tmp 99, .tmp 105]) fk31 rfl) (ih _f_628 _f_629 _nbz98_0 (Lo.down _loz98_0 (by omega)) _f_630 _nbz98_3 (Lo.down _loz98_3 (by omega)) _djz98_0z98_3 _f_631 (by omega) (by omega) ob ⟨by omega, by omega⟩ (by omega)) fun _v106 _w_632 _q106 => ?_
        obtain ⟨_z106_0, _z106_3, rfl, _m106, _qz106_0, _inz106_0, _nbz106_0, _qz106_3, _inz106_3, _nbz106_3, _djz106_0z106_3, _cw_632⟩ := _q106
        have _cw_632z := _cw_632.size
        have E := E.step _cw_632 (fun i hm => by rcases List.mem_cons.1 hm with _h0 | hm; (right; exact _h0 ▸ List.mem_cons_self ..); (rcases List.mem_append.1 hm with hm | hm; (exact (iQ98_0 _ hm)); (exact (iQ98_3 _ hm))))
        obtain ⟨Az106_0, Cz106_0, ez106_0⟩ := _qz106_0.val
        subst ez106_0
        have lz106_0 := _qz106_0.len
        have hiz106_0 := _qz106_0.lt
        have _loz106_0 : Lo L_p (.slice Az106_0 ((bpT tb ((bpT ta _p0 _p3).L) ((bpT ta _p0 _p3).F)).L).length Cz106_0) := loOld _inz106_0 _nbz106_0 (by omega) (all2 _loz98_0 _loz98_3)
        obtain ⟨Az106_3, Cz106_3, ez106_3⟩ := _qz106_3.val
        subst ez106_3
        have lz106_3 := _qz106_3.len
        have hiz106_3 := _qz106_3.lt
        have _loz106_3 : Lo L_p (.slice Az106_3 ((bpT tb ((bpT ta _p0 _p3).L) ((bpT ta _p0 _p3).F)).F).length Cz106_3) := loOld _inz106_3 _nbz106_3 (by omega) (all2 _loz98_0 _loz98_3)
        have nQ106_0_4 := nbOld _inz106_0 _nbz106_0 (show _b4 < _ by omega) (nin2 nQ98_0_4 nQ98_3_4)
        have nQ106_0_8 := nbOld _inz106_0 _nbz106_0 (show _b8 < _ by omega) (nin2 nQ98_0_8 nQ98_3_8)
        have nQ106_0_9 := nbOld _inz106_0 _nbz106_0 (show _b9 < _ by omega) (nin2 (no_in _loz98_0 hiz98_0 (by omega)) (no_in _loz98_3 hiz98_3 (by omega)))
        have iQ106_0 := inOldE E _inz106_0 _nbz106_0 (by omega) (all2 (fun g hm => (iQ98_0 _ hm)) (fun g hm => (iQ98_3 _ hm)))
        have nQ106_3_4 := nbOld _inz106_3 _nbz106_3 (show _b4 < _ by omega) (nin2 nQ98_0_4 nQ98_3_4)
        have nQ106_3_8 := nbOld _inz106_3 _nbz106_3 (show _b8 < _ by omega) (nin2 nQ98_0_8 nQ98_3_8)
        have nQ106_3_9 := nbOld _inz106_3 _nbz106_3 (show _b9 < _ by omega) (nin2 (no_in _loz98_0 hiz98_0 (by omega)) (no_in _loz98_3 hiz98_3 (by omega)))
        have iQ106_3 := inOldE E _inz106_3 _nbz106_3 (by omega) (all2 (fun g hm => (iQ98_0 _ hm)) (fun g hm => (iQ98_3 _ hm)))
        replace _m106 : Blk _w_632 b_p t_p [(.slice Az106_0 ((bpT tb ((bpT ta _p0 _p3).L) ((bpT ta _p0 _p3).F)).L).length Cz106_0), (.int .i64 _p1), (.int .i64 _p2), (.slice Az106_3 ((bpT tb ((bpT ta _p0 _p3).L) ((bpT ta _p0 _p3).F)).F).length Cz106_3), (.bool _p4)] := _m106
        have _S_633 := (_S_627.step _cw_632 (all3 (.inr (mAL _ (mAL _ (mSg.2 rfl)))) (inCall _inz98_0 (by omega) (.inr (mAL _ (mAL _ (mSg.2 rfl)))) (fun i hm => .inr (mAL _ (mAR _ hm))) (fun i hm => .inr (mAR _ hm))) (inCall _inz98_3 (by omega) (.inr (mAL _ (mAL _ (mSg.2 rfl)))) (fun i hm => .inr (mAL _ (mAR _ hm))) (fun i hm => .inr (mAR _ hm)))))
        refine ⟨_S_633, ?_⟩
        refine DR_one 18 (by kernel_rfl) ?_
        refine DO_s rfl rfl rfl ?_
        have _f_634 := (((_m8.ch _cw_605 (nin3 (by omega) (no_hi _lt_p0 (by omega)) (no_hi _lt_p3 (by omega)))).ch0 _cw_626).ch _cw_632 (nin3 (by omega) nQ98_0_8 nQ98_3_8))
        refine s_storeA (off := 0) 3 _f_634 sz61 rfl (us := [(.int .i64 ((bpT ta _p0 _p3).f)), (.int .i64 ((bpT ta _p0 _p3).l)), (.bool ((bpT ta _p0 _p3).n))]) rfl rfl rfl rfl fun _w_635 _m_636 _cw_635 => ?_
        have _cw_635z := _cw_635.size
        have E := E.step _cw_635 (oneL (by omega))
        replace _m_636 : Blk _w_635 _b8 61 [(.int .i64 ((bpT ta _p0 _p3).f)), (.int .i64 ((bpT ta _p0 _p3).l)), (.bool ((bpT ta _p0 _p3).n))] := _m_636
        have _S_637 := (_S_633.step _cw_635 (oneL (by omega)))
        refine ⟨_S_637, ?_⟩
        refine DR_one 19 (by kernel_rfl) ?_
        refine DO_s rfl rfl rfl ?_
        have _f_638 := ((_m9.ch _cw_632 (nin3 (by omega) (no_hi hiz98_0 (by omega)) (no_hi hiz98_3 (by omega)))).ch _cw_635 (ne1 (by omega)))
        refine s_storeA (off := 0) 3 _f_638 sz61 rfl (us := [(.int .i64 ((bpT tb ((bpT ta _p0 _p3).L) ((bpT ta _p0 _p3).F)).f)), (.int .i64 ((bpT tb ((bpT ta _p0 _p3).L) ((bpT ta _p0 _p3).F)).l)), (.bool ((bpT tb ((bpT ta _p0 _p3).L) ((bpT ta _p0 _p3).F)).n))]) rfl rfl rfl rfl fun _w_639 _m_640 _cw_639 => ?_
        have _cw_639z := _cw_639.size
        have E := E.step _cw_639 (oneL (by omega))
        replace _m_640 : Blk _w_639 _b9 61 [(.int .i64 ((bpT tb ((bpT ta _p0 _p3).L) ((bpT ta _p0 _p3).F)).f)), (.int .i64 ((bpT tb ((bpT ta _p0 _p3).L) ((bpT ta _p0 _p3).F)).l)), (.bool ((bpT tb ((bpT ta _p0 _p3).L) ((bpT ta _p0 _p3).F)).n))] := _m_640
        have _S_641 := (_S_637.step _cw_639 (oneL (by omega)))
        refine ⟨_S_641, ?_⟩
        refine DR_done (by kernel_rfl) ?_
        refine thn_nrm ?_
        have _f_642 := ((_qz106_0.ch _cw_635 (fun g hg hm => by have _h0 := mSg.1 hm; exact nQ106_0_8 (by first | exact hg | exact _h0 ▸ hg))).ch _cw_639 (fun g hg hm => by have _h0 := mSg.1 hm; exact nQ106_0_9 (by first | exact hg | exact _h0 ▸ hg)))
        have _f_643 := ((_qz106_3.ch _cw_635 (fun g hg hm => by have _h0 := mSg.1 hm; exact nQ106_3_8 (by first | exact hg | exact _h0 ▸ hg))).ch _cw_639 (fun g hg hm => by have _h0 := mSg.1 hm; exact nQ106_3_9 (by first | exact hg | exact _h0 ▸ hg)))
        have _f_644 := ((_m106.ch _cw_635 (ne1 (by omega))).ch _cw_639 (ne1 (by omega)))
        have _f_645 := (_m_636.ch _cw_639 (ne1 (by omega)))
        have _f_646 := ((((((_f_462.ch0 _cw_599).ch _cw_605 (lwr3 (by omega) _ll_p0 (by omega) _ll_p3 (by omega))).ch0 _cw_626).ch _cw_632 (lwr3 (by omega) _loz98_0 (by omega) _loz98_3 (by omega))).ch _cw_635 (tfr1 (by omega))).ch _cw_639 (tfr1 (by omega)))
        have _f_647 := (((((((_m4.ch0 _cw_461).ch0 _cw_599).ch _cw_605 (nin3 (by omega) (no_hi _lt_p0 (by omega)) (no_hi _lt_p3 (by omega)))).ch0 _cw_626).ch _cw_632 (nin3 (by omega) nQ98_0_4 nQ98_3_4)).ch _cw_635 (ne1 (by omega))).ch _cw_639 (ne1 (by omega)))
        exact _J_385 _ _ _ _ _b8 _b9 (Sub.cons rfl (Sub.cons rfl (Sub.cons rfl (Sub.cons rfl (Sub.cons rfl (Sub.cons rfl (Sub.nil _))))))) E (by omega) _f_642 iQ106_0 _nbz106_0 _f_643 iQ106_3 _nbz106_3 _djz106_0z106_3 _f_644 _f_645 (by omega) (by omega) nQ106_0_8 nQ106_3_8 _m_640 (by omega) (by omega) nQ106_0_9 nQ106_3_9 (by omega) _f_646 _f_647 nQ106_0_4 nQ106_3_4
      ·refine DO_s rfl rfl rfl ?_
       refine s_alloc zr61 fun _b9 _w_648 _m9 _cw_648 _e9 => ?_
       have _cw_648z := _cw_648.size
       have E := E.trans _cw_648.of_nil
       have _z9 := _m9.lt
       replace _m9 : Blk _w_648 _b9 61 [(.int .i64 0), (.int .i64 0), (.bool false)] := _m9
       have _S_649 := (_S_600.trans _cw_648.of_nil)
       refine ⟨_S_649, ?_⟩
       refine DR_one 7 (by kernel_rfl) ?_
       refine DO_s rfl rfl rfl ?_
       have _f_650 := ((((m_p.ch0 _cw_2).ch0 _cw_461).ch0 _cw_599).ch0 _cw_648)
       have _f_651 := ((((_h_p0.ch0 _cw_2).ch0 _cw_461).ch0 _cw_599).ch0 _cw_648)
       have _f_652 := ((((_h_p3.ch0 _cw_2).ch0 _cw_461).ch0 _cw_599).ch0 _cw_648)
       have _f_653 := ((_tr96.ch0 _cw_599).ch0 _cw_648)
       refine Step.call (r_call (xs := [.tmp 91, .tmp 97]) fk31 rfl) (ih _f_650 _f_651 _nb_p0 (Lo.down _ll_p0 (by omega)) _f_652 _nb_p3 (Lo.down _ll_p3 (by omega)) _dj_p0_p3 _f_653 (by omega) (by omega) oa ⟨by omega, by omega⟩ (by omega)) fun _v98 _w_654 _q98 => ?_
       obtain ⟨_z98_0, _z98_3, rfl, _m98, _qz98_0, _inz98_0, _nbz98_0, _qz98_3, _inz98_3, _nbz98_3, _djz98_0z98_3, _cw_654⟩ := _q98
       have _cw_654z := _cw_654.size
       have E := E.step _cw_654 (fun i hm => by rcases List.mem_cons.1 hm with _h0 | hm; (right; exact _h0 ▸ List.mem_cons_self ..); (rcases List.mem_append.1 hm with hm | hm; (exact (.inr (mCo _ (mAL _ hm)))); (exact (.inr (mCo _ (mAR _ hm))))))
       obtain ⟨Az98_0, Cz98_0, ez98_0⟩ := _qz98_0.val
       subst ez98_0
       have lz98_0 := _qz98_0.len
       have hiz98_0 := _qz98_0.lt
       have _loz98_0 : Lo L_p (.slice Az98_0 ((bpT ta _p0 _p3).L).length Cz98_0) := loOld _inz98_0 _nbz98_0 (by omega) (all2 _ll_p0 _ll_p3)
       obtain ⟨Az98_3, Cz98_3, ez98_3⟩ := _qz98_3.val
       subst ez98_3
       have lz98_3 := _qz98_3.len
       have hiz98_3 := _qz98_3.lt
       have _loz98_3 : Lo L_p (.slice Az98_3 ((bpT ta _p0 _p3).F).length Cz98_3) := loOld _inz98_3 _nbz98_3 (by omega) (all2 _ll_p0 _ll_p3)
       have nQ98_0_4 := nbOld _inz98_0 _nbz98_0 (show _b4 < _ by omega) (nin2 (no_in _ll_p0 _lt_p0 (by omega)) (no_in _ll_p3 _lt_p3 (by omega)))
       have nQ98_0_8 := nbOld _inz98_0 _nbz98_0 (show _b8 < _ by omega) (nin2 (no_in _ll_p0 _lt_p0 (by omega)) (no_in _ll_p3 _lt_p3 (by omega)))
       have nQ98_0_9 := nbOld _inz98_0 _nbz98_0 (show _b9 < _ by omega) (nin2 (no_in _ll_p0 _lt_p0 (by omega)) (no_in _ll_p3 _lt_p3 (by omega)))
       have iQ98_0 := inOldE E _inz98_0 _nbz98_0 (by omega) (all2 (fun g hm => (.inr (mCo _ (mAL _ hm)))) (fun g hm => (.inr (mCo _ (mAR _ hm)))))
       have nQ98_3_4 := nbOld _inz98_3 _nbz98_3 (show _b4 < _ by omega) (nin2 (no_in _ll_p0 _lt_p0 (by omega)) (no_in _ll_p3 _lt_p3 (by omega)))
       have nQ98_3_8 := nbOld _inz98_3 _nbz98_3 (show _b8 < _ by omega) (nin2 (no_in _ll_p0 _lt_p0 (by omega)) (no_in _ll_p3 _lt_p3 (by omega)))
       have nQ98_3_9 := nbOld _inz98_3 _nbz98_3 (show _b9 < _ by omega) (nin2 (no_in _ll_p0 _lt_p0 (by omega)) (no_in _ll_p3 _lt_p3 (by omega)))
       have iQ98_3 := inOldE E _inz98_3 _nbz98_3 (by omega) (all2 (fun g hm => (.inr (mCo _ (mAL _ hm)))) (fun g hm => (.inr (mCo _ (mAR _ hm)))))
       replace _m98 : Blk _w_654 b_p t_p [(.slice Az98_0 ((bpT ta _p0 _p3).L).length Cz98_0), (.int .i64 _p1), (.int .i64 _p2), (.slice Az98_3 ((bpT ta _p0 _p3).F).length Cz98_3), (.bool _p4)] := _m98
       have _S_655 := (_S_649.step _cw_654 (all3 (.inr (mAL _ (mAL _ (mSg.2 rfl)))) (fun i hm => .inr (mAL _ (mAR _ hm))) (fun i hm => .inr (mAR _ hm))))
       refine ⟨_S_655, ?_⟩
       refine DR_one 15 (by kernel_rfl) ?_
       refine DO_s rfl rfl rfl ?_
       have _f_656 := (((_tr104.ch0 _cw_599).ch0 _cw_648).ch _cw_654 (lwr3 (by omega) _ll_p0 (by omega) _ll_p3 (by omega)))
       refine Step.call (r_call (xs := [.tmp 99, .tmp 105]) fk31 rfl) (ih _m98 _qz98_0 _nbz98_0 (Lo.down _loz98_0 (by omega)) _qz98_3 _nbz98_3 (Lo.down _loz98_3 (by omega)) _djz98_0z98_3 _f_656 (by omega) (by omega) ob ⟨by omega, by omega⟩ (by omega)) fun _v106 _w_657 _q106 => ?_
       obtain ⟨_z106_0, _z106_3, rfl, _m106, _qz106_0, _inz106_0, _nbz106_0, _qz106_3, _inz106_3, _nbz106_3, _djz106_0z106_3, _cw_657⟩ := _q106
       have _cw_657z := _cw_657.size
       have E := E.step _cw_657 (fun i hm => by rcases List.mem_cons.1 hm with _h0 | hm; (right; exact _h0 ▸ List.mem_cons_self ..); (rcases List.mem_append.1 hm with hm | hm; (exact (iQ98_0 _ hm)); (exact (iQ98_3 _ hm))))
       obtain ⟨Az106_0, Cz106_0, ez106_0⟩ := _qz106_0.val
       subst ez106_0
       have lz106_0 := _qz106_0.len
       have hiz106_0 := _qz106_0.lt
       have _loz106_0 : Lo L_p (.slice Az106_0 ((bpT tb ((bpT ta _p0 _p3).L) ((bpT ta _p0 _p3).F)).L).length Cz106_0) := loOld _inz106_0 _nbz106_0 (by omega) (all2 _loz98_0 _loz98_3)
       obtain ⟨Az106_3, Cz106_3, ez106_3⟩ := _qz106_3.val
       subst ez106_3
       have lz106_3 := _qz106_3.len
       have hiz106_3 := _qz106_3.lt
       have _loz106_3 : Lo L_p (.slice Az106_3 ((bpT tb ((bpT ta _p0 _p3).L) ((bpT ta _p0 _p3).F)).F).length Cz106_3) := loOld _inz106_3 _nbz106_3 (by omega) (all2 _loz98_0 _loz98_3)
       have nQ106_0_4 := nbOld _inz106_0 _nbz106_0 (show _b4 < _ by omega) (nin2 nQ98_0_4 nQ98_3_4)
       have nQ106_0_8 := nbOld _inz106_0 _nbz106_0 (show _b8 < _ by omega) (nin2 nQ98_0_8 nQ98_3_8)
       have nQ106_0_9 := nbOld _inz106_0 _nbz106_0 (show _b9 < _ by omega) (nin2 nQ98_0_9 nQ98_3_9)
       have iQ106_0 := inOldE E _inz106_0 _nbz106_0 (by omega) (all2 (fun g hm => (iQ98_0 _ hm)) (fun g hm => (iQ98_3 _ hm)))
       have nQ106_3_4 := nbOld _inz106_3 _nbz106_3 (show _b4 < _ by omega) (nin2 nQ98_0_4 nQ98_3_4)
       have nQ106_3_8 := nbOld _inz106_3 _nbz106_3 (show _b8 < _ by omega) (nin2 nQ98_0_8 nQ98_3_8)
       have nQ106_3_9 := nbOld _inz106_3 _nbz106_3 (show _b9 < _ by omega) (nin2 nQ98_0_9 nQ98_3_9)
       have iQ106_3 := inOldE E _inz106_3 _nbz106_3 (by omega) (all2 (fun g hm => (iQ98_0 _ hm)) (fun g hm => (iQ98_3 _ hm)))
       replace _m106 : Blk _w_657 b_p t_p [(.slice Az106_0 ((bpT tb ((bpT ta _p0 _p3).L) ((bpT ta _p0 _p3).F)).L).length Cz106_0), (.int .i64 _p1), (.int .i64 _p2), (.slice Az106_3 ((bpT tb ((bpT ta _p0 _p3).L) ((bpT ta _p0 _p3).F)).F).length Cz106_3), (.bool _p4)] := _m106
       have _S_658 := (_S_655.step _cw_657 (all3 (.inr (mAL _ (mAL _ (mSg.2 rfl)))) (inCall _inz98_0 (by omega) (.inr (mAL _ (mAL _ (mSg.2 rfl)))) (fun i hm => .inr (mAL _ (mAR _ hm))) (fun i hm => .inr (mAR _ hm))) (inCall _inz98_3 (by omega) (.inr (mAL _ (mAL _ (mSg.2 rfl)))) (fun i hm => .inr (mAL _ (mAR _ hm))) (fun i hm => .inr (mAR _ hm)))))
       refine ⟨_S_658, ?_⟩
       refine DR_one 18 (by kernel_rfl) ?_
       refine DO_s rfl rfl rfl ?_
       have _f_659 := (((_m8.ch0 _cw_648).ch _cw_654 (nin3 (by omega) (no_hi _lt_p0 (by omega)) (no_hi _lt_p3 (by omega)))).ch _cw_657 (nin3 (by omega) nQ98_0_8 nQ98_3_8))
       refine s_storeA (off := 0) 3 _f_659 sz61 rfl (us := [(.int .i64 ((bpT ta _p0 _p3).f)), (.int .i64 ((bpT ta _p0 _p3).l)), (.bool ((bpT ta _p0 _p3).n))]) rfl rfl rfl rfl fun _w_660 _m_661 _cw_660 => ?_
       have _cw_660z := _cw_660.size
       have E := E.step _cw_660 (oneL (by omega))
       replace _m_661 : Blk _w_660 _b8 61 [(.int .i64 ((bpT ta _p0 _p3).f)), (.int .i64 ((bpT ta _p0 _p3).l)), (.bool ((bpT ta _p0 _p3).n))] := _m_661
       have _S_662 := (_S_658.step _cw_660 (oneL (by omega)))
       refine ⟨_S_662, ?_⟩
       refine DR_one 19 (by kernel_rfl) ?_
       refine DO_s rfl rfl rfl ?_
       have _f_663 := (((_m9.ch _cw_654 (nin3 (by omega) (no_hi _lt_p0 (by omega)) (no_hi _lt_p3 (by omega)))).ch _cw_657 (nin3 (by omega) nQ98_0_9 nQ98_3_9)).ch _cw_660 (ne1 (by omega)))
       refine s_storeA (off := 0) 3 _f_663 sz61 rfl (us := [(.int .i64 ((bpT tb ((bpT ta _p0 _p3).L) ((bpT ta _p0 _p3).F)).f)), (.int .i64 ((bpT tb ((bpT ta _p0 _p3).L) ((bpT ta _p0 _p3).F)).l)), (.bool ((bpT tb ((bpT ta _p0 _p3).L) ((bpT ta _p0 _p3).F)).n))]) rfl rfl rfl rfl fun _w_664 _m_665 _cw_664 => ?_
       have _cw_664z := _cw_664.size
       have E := E.step _cw_664 (oneL (by omega))
       replace _m_665 : Blk _w_664 _b9 61 [(.int .i64 ((bpT tb ((bpT ta _p0 _p3).L) ((bpT ta _p0 _p3).F)).f)), (.int .i64 ((bpT tb ((bpT ta _p0 _p3).L) ((bpT ta _p0 _p3).F)).l)), (.bool ((bpT tb ((bpT ta _p0 _p3).L) ((bpT ta _p0 _p3).F)).n))] := _m_665
       have _S_666 := (_S_662.step _cw_664 (oneL (by omega)))
       refine ⟨_S_666, ?_⟩
       refine DR_done (by kernel_rfl) ?_
       refine thn_nrm ?_
       have _f_667 := ((_qz106_0.ch _cw_660 (fun g hg hm => by have _h0 := mSg.1 hm; exact nQ106_0_8 (by first | exact hg | exact _h0 ▸ hg))).ch _cw_664 (fun g hg hm => by have _h0 := mSg.1 hm; exact nQ106_0_9 (by first | exact hg | exact _h0 ▸ hg)))
       have _f_668 := ((_qz106_3.ch _cw_660 (fun g hg hm => by have _h0 := mSg.1 hm; exact nQ106_3_8 (by first | exact hg | exact _h0 ▸ hg))).ch _cw_664 (fun g hg hm => by have _h0 := mSg.1 hm; exact nQ106_3_9 (by first | exact hg | exact _h0 ▸ hg)))
       have _f_669 := ((_m106.ch _cw_660 (ne1 (by omega))).ch _cw_664 (ne1 (by omega)))
       have _f_670 := (_m_661.ch _cw_664 (ne1 (by omega)))
       have _f_671 := ((((((_f_462.ch0 _cw_599).ch0 _cw_648).ch _cw_654 (lwr3 (by omega) _ll_p0 (by omega) _ll_p3 (by omega))).ch _cw_657 (lwr3 (by omega) _loz98_0 (by omega) _loz98_3 (by omega))).ch _cw_660 (tfr1 (by omega))).ch _cw_664 (tfr1 (by omega)))
       have _f_672 := (((((((_m4.ch0 _cw_461).ch0 _cw_599).ch0 _cw_648).ch _cw_654 (nin3 (by omega) (no_hi _lt_p0 (by omega)) (no_hi _lt_p3 (by omega)))).ch _cw_657 (nin3 (by omega) nQ98_0_4 nQ98_3_4)).ch _cw_660 (ne1 (by omega))).ch _cw_664 (ne1 (by omega)))
       exact _J_385 _ _ _ _ _b8 _b9 (Sub.cons rfl (Sub.cons rfl (Sub.cons rfl (Sub.cons rfl (Sub.cons rfl (Sub.cons rfl (Sub.nil _))))))) E (by omega) _f_667 iQ106_0 _nbz106_0 _f_668 iQ106_3 _nbz106_3 _djz106_0z106_3 _f_669 _f_670 (by omega) (by omega) nQ106_0_8 nQ106_3_8 _m_665 (by omega) (by omega) nQ106_0_9 nQ106_3_9 (by omega) _f_671 _f_672 nQ106_0_4 nQ106_3_4
     ·refine DO_s rfl rfl rfl ?_
      refine s_alloc zr61 fun _b9 _w_673 _m9 _cw_673 _e9 => ?_
      have _cw_673z := _cw_673.size
      have E := E.trans _cw_673.of_nil
      have _z9 := _m9.lt
      replace _m9 : Blk _w_673 _b9 61 [(.int .i64 0), (.int .i64 0), (.bool false)] := _m9
      have _S_674 : Ch ([b_p] ++ (bl (.slice _A_p0 _p0.length _C_p0)) ++ (bl (.slice _A_p3 _p3.length _C_p3))) _w_461 _w_673 := ((Ch.refl _ _).trans _cw_673.of_nil)
      refine ⟨_S_674, ?_⟩
      refine DR_two 7 16 (by kernel_rfl) ?_ ?_
      ·refine DO_s rfl rfl rfl ?_
       have _f_675 := (((m_p.ch0 _cw_2).ch0 _cw_461).ch0 _cw_673)
       have _f_676 := (((_h_p0.ch0 _cw_2).ch0 _cw_461).ch0 _cw_673)
       have _f_677 := (((_h_p3.ch0 _cw_2).ch0 _cw_461).ch0 _cw_673)
       have _f_678 := (_tr96.ch0 _cw_673)
       refine Step.call (r_call (xs := [.tmp 91, .tmp 97]) fk31 rfl) (ih _f_675 _f_676 _nb_p0 (Lo.down _ll_p0 (by omega)) _f_677 _nb_p3 (Lo.down _ll_p3 (by omega)) _dj_p0_p3 _f_678 (by omega) (by omega) oa ⟨by omega, by omega⟩ (by omega)) fun _v98 _w_679 _q98 => ?_
       obtain ⟨_z98_0, _z98_3, rfl, _m98, _qz98_0, _inz98_0, _nbz98_0, _qz98_3, _inz98_3, _nbz98_3, _djz98_0z98_3, _cw_679⟩ := _q98
       have _cw_679z := _cw_679.size
       have E := E.step _cw_679 (fun i hm => by rcases List.mem_cons.1 hm with _h0 | hm; (right; exact _h0 ▸ List.mem_cons_self ..); (rcases List.mem_append.1 hm with hm | hm; (exact (.inr (mCo _ (mAL _ hm)))); (exact (.inr (mCo _ (mAR _ hm))))))
       obtain ⟨Az98_0, Cz98_0, ez98_0⟩ := _qz98_0.val
       subst ez98_0
       have lz98_0 := _qz98_0.len
       have hiz98_0 := _qz98_0.lt
       have _loz98_0 : Lo L_p (.slice Az98_0 ((bpT ta _p0 _p3).L).length Cz98_0) := loOld _inz98_0 _nbz98_0 (by omega) (all2 _ll_p0 _ll_p3)
       obtain ⟨Az98_3, Cz98_3, ez98_3⟩ := _qz98_3.val
       subst ez98_3
       have lz98_3 := _qz98_3.len
       have hiz98_3 := _qz98_3.lt
       have _loz98_3 : Lo L_p (.slice Az98_3 ((bpT ta _p0 _p3).F).length Cz98_3) := loOld _inz98_3 _nbz98_3 (by omega) (all2 _ll_p0 _ll_p3)
       have nQ98_0_4 := nbOld _inz98_0 _nbz98_0 (show _b4 < _ by omega) (nin2 (no_in _ll_p0 _lt_p0 (by omega)) (no_in _ll_p3 _lt_p3 (by omega)))
       have nQ98_0_9 := nbOld _inz98_0 _nbz98_0 (show _b9 < _ by omega) (nin2 (no_in _ll_p0 _lt_p0 (by omega)) (no_in _ll_p3 _lt_p3 (by omega)))
       have iQ98_0 := inOldE E _inz98_0 _nbz98_0 (by omega) (all2 (fun g hm => (.inr (mCo _ (mAL _ hm)))) (fun g hm => (.inr (mCo _ (mAR _ hm)))))
       have nQ98_3_4 := nbOld _inz98_3 _nbz98_3 (show _b4 < _ by omega) (nin2 (no_in _ll_p0 _lt_p0 (by omega)) (no_in _ll_p3 _lt_p3 (by omega)))
       have nQ98_3_9 := nbOld _inz98_3 _nbz98_3 (show _b9 < _ by omega) (nin2 (no_in _ll_p0 _lt_p0 (by omega)) (no_in _ll_p3 _lt_p3 (by omega)))
       have iQ98_3 := inOldE E _inz98_3 _nbz98_3 (by omega) (all2 (fun g hm => (.inr (mCo _ (mAL _ hm)))) (fun g hm => (.inr (mCo _ (mAR _ hm)))))
       replace _m98 : Blk _w_679 b_p t_p [(.slice Az98_0 ((bpT ta _p0 _p3).L).length Cz98_0), (.int .i64 _p1), (.int .i64 _p2), (.slice Az98_3 ((bpT ta _p0 _p3).F).length Cz98_3), (.bool _p4)] := _m98
       have _S_680 := (_S_674.step _cw_679 (all3 (.inr (mAL _ (mAL _ (mSg.2 rfl)))) (fun i hm => .inr (mAL _ (mAR _ hm))) (fun i hm => .inr (mAR _ hm))))
       refine ⟨_S_680, ?_⟩
       refine DR_two 15 16 (by kernel_rfl) ?_ ?_
       ·refine DO_s rfl rfl rfl ?_
        have _f_681 := ((_tr104.ch0 _cw_673).ch _cw_679 (lwr3 (by omega) _ll_p0 (by omega) _ll_p3 (by omega)))
        refine Step.call (r_call (xs := [.tmp 99, .tmp 105]) fk31 rfl) (ih _m98 _qz98_0 _nbz98_0 (Lo.down _loz98_0 (by omega)) _qz98_3 _nbz98_3 (Lo.down _loz98_3 (by omega)) _djz98_0z98_3 _f_681 (by omega) (by omega) ob ⟨by omega, by omega⟩ (by omega)) fun _v106 _w_682 _q106 => ?_
        obtain ⟨_z106_0, _z106_3, rfl, _m106, _qz106_0, _inz106_0, _nbz106_0, _qz106_3, _inz106_3, _nbz106_3, _djz106_0z106_3, _cw_682⟩ := _q106
        have _cw_682z := _cw_682.size
        have E := E.step _cw_682 (fun i hm => by rcases List.mem_cons.1 hm with _h0 | hm; (right; exact _h0 ▸ List.mem_cons_self ..); (rcases List.mem_append.1 hm with hm | hm; (exact (iQ98_0 _ hm)); (exact (iQ98_3 _ hm))))
        obtain ⟨Az106_0, Cz106_0, ez106_0⟩ := _qz106_0.val
        subst ez106_0
        have lz106_0 := _qz106_0.len
        have hiz106_0 := _qz106_0.lt
        have _loz106_0 : Lo L_p (.slice Az106_0 ((bpT tb ((bpT ta _p0 _p3).L) ((bpT ta _p0 _p3).F)).L).length Cz106_0) := loOld _inz106_0 _nbz106_0 (by omega) (all2 _loz98_0 _loz98_3)
        obtain ⟨Az106_3, Cz106_3, ez106_3⟩ := _qz106_3.val
        subst ez106_3
        have lz106_3 := _qz106_3.len
        have hiz106_3 := _qz106_3.lt
        have _loz106_3 : Lo L_p (.slice Az106_3 ((bpT tb ((bpT ta _p0 _p3).L) ((bpT ta _p0 _p3).F)).F).length Cz106_3) := loOld _inz106_3 _nbz106_3 (by omega) (all2 _loz98_0 _loz98_3)
        have nQ106_0_4 := nbOld _inz106_0 _nbz106_0 (show _b4 < _ by omega) (nin2 nQ98_0_4 nQ98_3_4)
        have nQ106_0_9 := nbOld _inz106_0 _nbz106_0 (show _b9 < _ by omega) (nin2 nQ98_0_9 nQ98_3_9)
        have iQ106_0 := inOldE E _inz106_0 _nbz106_0 (by omega) (all2 (fun g hm => (iQ98_0 _ hm)) (fun g hm => (iQ98_3 _ hm)))
        have nQ106_3_4 := nbOld _inz106_3 _nbz106_3 (show _b4 < _ by omega) (nin2 nQ98_0_4 nQ98_3_4)
        have nQ106_3_9 := nbOld _inz106_3 _nbz106_3 (show _b9 < _ by omega) (nin2 nQ98_0_9 nQ98_3_9)
        have iQ106_3 := inOldE E _inz106_3 _nbz106_3 (by omega) (all2 (fun g hm => (iQ98_0 _ hm)) (fun g hm => (iQ98_3 _ hm)))
        replace _m106 : Blk _w_682 b_p t_p [(.slice Az106_0 ((bpT tb ((bpT ta _p0 _p3).L) ((bpT ta _p0 _p3).F)).L).length Cz106_0), (.int .i64 _p1), (.int .i64 _p2), (.slice Az106_3 ((bpT tb ((bpT ta _p0 _p3).L) ((bpT ta _p0 _p3).F)).F).length Cz106_3), (.bool _p4)] := _m106
        have _S_683 := (_S_680.step _cw_682 (all3 (.inr (mAL _ (mAL _ (mSg.2 rfl)))) (inCall _inz98_0 (by omega) (.inr (mAL _ (mAL _ (mSg.2 rfl)))) (fun i hm => .inr (mAL _ (mAR _ hm))) (fun i hm => .inr (mAR _ hm))) (inCall _inz98_3 (by omega) (.inr (mAL _ (mAL _ (mSg.2 rfl)))) (fun i hm => .inr (mAL _ (mAR _ hm))) (fun i hm => .inr (mAR _ hm)))))
        refine ⟨_S_683, ?_⟩
        refine DR_one 16 (by kernel_rfl) ?_
        refine DO_s rfl rfl rfl ?_
        refine s_alloc zr61 fun _b8 _w_684 _m8 _cw_684 _e8 => ?_
        have _cw_684z := _cw_684.size
        have E := E.trans _cw_684.of_nil
        have _z8 := _m8.lt
        replace _m8 : Blk _w_684 _b8 61 [(.int .i64 0), (.int .i64 0), (.bool false)] := _m8
        have _S_685 := (_S_683.trans _cw_684.of_nil)
        refine ⟨_S_685, ?_⟩
        refine DR_one 18 (by kernel_rfl) ?_
        refine DO_s rfl rfl rfl ?_
        refine s_storeA (off := 0) 3 _m8 sz61 rfl (us := [(.int .i64 ((bpT ta _p0 _p3).f)), (.int .i64 ((bpT ta _p0 _p3).l)), (.bool ((bpT ta _p0 _p3).n))]) rfl rfl rfl rfl fun _w_686 _m_687 _cw_686 => ?_
        have _cw_686z := _cw_686.size
        have E := E.step _cw_686 (oneL (by omega))
        replace _m_687 : Blk _w_686 _b8 61 [(.int .i64 ((bpT ta _p0 _p3).f)), (.int .i64 ((bpT ta _p0 _p3).l)), (.bool ((bpT ta _p0 _p3).n))] := _m_687
        have _S_688 := (_S_685.step _cw_686 (oneL (by omega)))
        refine ⟨_S_688, ?_⟩
        refine DR_one 19 (by kernel_rfl) ?_
        refine DO_s rfl rfl rfl ?_
        have _f_689 := ((((_m9.ch _cw_679 (nin3 (by omega) (no_hi _lt_p0 (by omega)) (no_hi _lt_p3 (by omega)))).ch _cw_682 (nin3 (by omega) nQ98_0_9 nQ98_3_9)).ch0 _cw_684).ch _cw_686 (ne1 (by omega)))
        refine s_storeA (off := 0) 3 _f_689 sz61 rfl (us := [(.int .i64 ((bpT tb ((bpT ta _p0 _p3).L) ((bpT ta _p0 _p3).F)).f)), (.int .i64 ((bpT tb ((bpT ta _p0 _p3).L) ((bpT ta _p0 _p3).F)).l)), (.bool ((bpT tb ((bpT ta _p0 _p3).L) ((bpT ta _p0 _p3).F)).n))]) rfl rfl rfl rfl fun _w_690 _m_691 _cw_690 => ?_
        have _cw_690z := _cw_690.size
        have E := E.step _cw_690 (oneL (by omega))
        replace _m_691 : Blk _w_690 _b9 61 [(.int .i64 ((bpT tb ((bpT ta _p0 _p3).L) ((bpT ta _p0 _p3).F)).f)), (.int .i64 ((bpT tb ((bpT ta _p0 _p3).L) ((bpT ta _p0 _p3).F)).l)), (.bool ((bpT tb ((bpT ta _p0 _p3).L) ((bpT ta _p0 _p3).F)).n))] := _m_691
        have _S_692 := (_S_688.step _cw_690 (oneL (by omega)))
        refine ⟨_S_692, ?_⟩
        refine DR_done (by kernel_rfl) ?_
        refine thn_nrm ?_
        have _f_693 := (((_qz106_0.ch0 _cw_684).ch _cw_686 (fun g hg hm => by have _h0 := mSg.1 hm; have _h2 := _loz106_0 _ hg; have _h3 := hiz106_0 _ hg; omega)).ch _cw_690 (fun g hg hm => by have _h0 := mSg.1 hm; exact nQ106_0_9 (by first | exact hg | exact _h0 ▸ hg)))
        have _f_694 := (((_qz106_3.ch0 _cw_684).ch _cw_686 (fun g hg hm => by have _h0 := mSg.1 hm; have _h2 := _loz106_3 _ hg; have _h3 := hiz106_3 _ hg; omega)).ch _cw_690 (fun g hg hm => by have _h0 := mSg.1 hm; exact nQ106_3_9 (by first | exact hg | exact _h0 ▸ hg)))
        have _f_695 := (((_m106.ch0 _cw_684).ch _cw_686 (ne1 (by omega))).ch _cw_690 (ne1 (by omega)))
        have _f_696 := (_m_687.ch _cw_690 (ne1 (by omega)))
        have _f_697 := ((((((_f_462.ch0 _cw_673).ch _cw_679 (lwr3 (by omega) _ll_p0 (by omega) _ll_p3 (by omega))).ch _cw_682 (lwr3 (by omega) _loz98_0 (by omega) _loz98_3 (by omega))).ch0 _cw_684).ch _cw_686 (tfr1 (by omega))).ch _cw_690 (tfr1 (by omega)))
        have _f_698 := (((((((_m4.ch0 _cw_461).ch0 _cw_673).ch _cw_679 (nin3 (by omega) (no_hi _lt_p0 (by omega)) (no_hi _lt_p3 (by omega)))).ch _cw_682 (nin3 (by omega) nQ98_0_4 nQ98_3_4)).ch0 _cw_684).ch _cw_686 (ne1 (by omega))).ch _cw_690 (ne1 (by omega)))
        exact _J_385 _ _ _ _ _b8 _b9 (Sub.cons rfl (Sub.cons rfl (Sub.cons rfl (Sub.cons rfl (Sub.cons rfl (Sub.cons rfl (Sub.nil _))))))) E (by omega) _f_693 iQ106_0 _nbz106_0 _f_694 iQ106_3 _nbz106_3 _djz106_0z106_3 _f_695 _f_696 (by omega) (by omega) (no_in _loz106_0 hiz106_0 (by omega)) (no_in _loz106_3 hiz106_3 (by omega)) _m_691 (by omega) (by omega) nQ106_0_9 nQ106_3_9 (by omega) _f_697 _f_698 nQ106_0_4 nQ106_3_4
       ·refine DO_s rfl rfl rfl ?_
        refine s_alloc zr61 fun _b8 _w_699 _m8 _cw_699 _e8 => ?_
        have _cw_699z := _cw_699.size
        have E := E.trans _cw_699.of_nil
        have _z8 := _m8.lt
        replace _m8 : Blk _w_699 _b8 61 [(.int .i64 0), (.int .i64 0), (.bool false)] := _m8
        have _S_700 := (_S_680.trans _cw_699.of_nil)
        refine ⟨_S_700, ?_⟩
        refine DR_one 15 (by kernel_rfl) ?_
        refine DO_s rfl rfl rfl ?_
        have _f_701 := (_m98.ch0 _cw_699)
        have _f_702 := (_qz98_0.ch0 _cw_699)
        have _f_703 := (_qz98_3.ch0 _cw_699)
        have _f_704 := (((_tr104.ch0 _cw_673).ch _cw_679 (lwr3 (by omega) _ll_p0 (by omega) _ll_p3 (by omega))).ch0 _cw_699)
        refine Step.call (r_call (xs := [.tmp 99, .tmp 105]) fk31 rfl) (ih _f_701 _f_702 _nbz98_0 (Lo.down _loz98_0 (by omega)) _f_703 _nbz98_3 (Lo.down _loz98_3 (by omega)) _djz98_0z98_3 _f_704 (by omega) (by omega) ob ⟨by omega, by omega⟩ (by omega)) fun _v106 _w_705 _q106 => ?_
        obtain ⟨_z106_0, _z106_3, rfl, _m106, _qz106_0, _inz106_0, _nbz106_0, _qz106_3, _inz106_3, _nbz106_3, _djz106_0z106_3, _cw_705⟩ := _q106
        have _cw_705z := _cw_705.size
        have E := E.step _cw_705 (fun i hm => by rcases List.mem_cons.1 hm with _h0 | hm; (right; exact _h0 ▸ List.mem_cons_self ..); (rcases List.mem_append.1 hm with hm | hm; (exact (iQ98_0 _ hm)); (exact (iQ98_3 _ hm))))
        obtain ⟨Az106_0, Cz106_0, ez106_0⟩ := _qz106_0.val
        subst ez106_0
        have lz106_0 := _qz106_0.len
        have hiz106_0 := _qz106_0.lt
        have _loz106_0 : Lo L_p (.slice Az106_0 ((bpT tb ((bpT ta _p0 _p3).L) ((bpT ta _p0 _p3).F)).L).length Cz106_0) := loOld _inz106_0 _nbz106_0 (by omega) (all2 _loz98_0 _loz98_3)
        obtain ⟨Az106_3, Cz106_3, ez106_3⟩ := _qz106_3.val
        subst ez106_3
        have lz106_3 := _qz106_3.len
        have hiz106_3 := _qz106_3.lt
        have _loz106_3 : Lo L_p (.slice Az106_3 ((bpT tb ((bpT ta _p0 _p3).L) ((bpT ta _p0 _p3).F)).F).length Cz106_3) := loOld _inz106_3 _nbz106_3 (by omega) (all2 _loz98_0 _loz98_3)
        have nQ106_0_4 := nbOld _inz106_0 _nbz106_0 (show _b4 < _ by omega) (nin2 nQ98_0_4 nQ98_3_4)
        have nQ106_0_9 := nbOld _inz106_0 _nbz106_0 (show _b9 < _ by omega) (nin2 nQ98_0_9 nQ98_3_9)
        have nQ106_0_8 := nbOld _inz106_0 _nbz106_0 (show _b8 < _ by omega) (nin2 (no_in _loz98_0 hiz98_0 (by omega)) (no_in _loz98_3 hiz98_3 (by omega)))
        have iQ106_0 := inOldE E _inz106_0 _nbz106_0 (by omega) (all2 (fun g hm => (iQ98_0 _ hm)) (fun g hm => (iQ98_3 _ hm)))
        have nQ106_3_4 := nbOld _inz106_3 _nbz106_3 (show _b4 < _ by omega) (nin2 nQ98_0_4 nQ98_3_4)
        have nQ106_3_9 := nbOld _inz106_3 _nbz106_3 (show _b9 < _ by omega) (nin2 nQ98_0_9 nQ98_3_9)
        have nQ106_3_8 := nbOld _inz106_3 _nbz106_3 (show _b8 < _ by omega) (nin2 (no_in _loz98_0 hiz98_0 (by omega)) (no_in _loz98_3 hiz98_3 (by omega)))
        have iQ106_3 := inOldE E _inz106_3 _nbz106_3 (by omega) (all2 (fun g hm => (iQ98_0 _ hm)) (fun g hm => (iQ98_3 _ hm)))
        replace _m106 : Blk _w_705 b_p t_p [(.slice Az106_0 ((bpT tb ((bpT ta _p0 _p3).L) ((bpT ta _p0 _p3).F)).L).length Cz106_0), (.int .i64 _p1), (.int .i64 _p2), (.slice Az106_3 ((bpT tb ((bpT ta _p0 _p3).L) ((bpT ta _p0 _p3).F)).F).length Cz106_3), (.bool _p4)] := _m106
        have _S_706 := (_S_700.step _cw_705 (all3 (.inr (mAL _ (mAL _ (mSg.2 rfl)))) (inCall _inz98_0 (by omega) (.inr (mAL _ (mAL _ (mSg.2 rfl)))) (fun i hm => .inr (mAL _ (mAR _ hm))) (fun i hm => .inr (mAR _ hm))) (inCall _inz98_3 (by omega) (.inr (mAL _ (mAL _ (mSg.2 rfl)))) (fun i hm => .inr (mAL _ (mAR _ hm))) (fun i hm => .inr (mAR _ hm)))))
        refine ⟨_S_706, ?_⟩
        refine DR_one 18 (by kernel_rfl) ?_
        refine DO_s rfl rfl rfl ?_
        have _f_707 := (_m8.ch _cw_705 (nin3 (by omega) (no_hi hiz98_0 (by omega)) (no_hi hiz98_3 (by omega))))
        refine s_storeA (off := 0) 3 _f_707 sz61 rfl (us := [(.int .i64 ((bpT ta _p0 _p3).f)), (.int .i64 ((bpT ta _p0 _p3).l)), (.bool ((bpT ta _p0 _p3).n))]) rfl rfl rfl rfl fun _w_708 _m_709 _cw_708 => ?_
        have _cw_708z := _cw_708.size
        have E := E.step _cw_708 (oneL (by omega))
        replace _m_709 : Blk _w_708 _b8 61 [(.int .i64 ((bpT ta _p0 _p3).f)), (.int .i64 ((bpT ta _p0 _p3).l)), (.bool ((bpT ta _p0 _p3).n))] := _m_709
        have _S_710 := (_S_706.step _cw_708 (oneL (by omega)))
        refine ⟨_S_710, ?_⟩
        refine DR_one 19 (by kernel_rfl) ?_
        refine DO_s rfl rfl rfl ?_
        have _f_711 := ((((_m9.ch _cw_679 (nin3 (by omega) (no_hi _lt_p0 (by omega)) (no_hi _lt_p3 (by omega)))).ch0 _cw_699).ch _cw_705 (nin3 (by omega) nQ98_0_9 nQ98_3_9)).ch _cw_708 (ne1 (by omega)))
        refine s_storeA (off := 0) 3 _f_711 sz61 rfl (us := [(.int .i64 ((bpT tb ((bpT ta _p0 _p3).L) ((bpT ta _p0 _p3).F)).f)), (.int .i64 ((bpT tb ((bpT ta _p0 _p3).L) ((bpT ta _p0 _p3).F)).l)), (.bool ((bpT tb ((bpT ta _p0 _p3).L) ((bpT ta _p0 _p3).F)).n))]) rfl rfl rfl rfl fun _w_712 _m_713 _cw_712 => ?_
        have _cw_712z := _cw_712.size
        have E := E.step _cw_712 (oneL (by omega))
        replace _m_713 : Blk _w_712 _b9 61 [(.int .i64 ((bpT tb ((bpT ta _p0 _p3).L) ((bpT ta _p0 _p3).F)).f)), (.int .i64 ((bpT tb ((bpT ta _p0 _p3).L) ((bpT ta _p0 _p3).F)).l)), (.bool ((bpT tb ((bpT ta _p0 _p3).L) ((bpT ta _p0 _p3).F)).n))] := _m_713
        have _S_714 := (_S_710.step _cw_712 (oneL (by omega)))
        refine ⟨_S_714, ?_⟩
        refine DR_done (by kernel_rfl) ?_
        refine thn_nrm ?_
        have _f_715 := ((_qz106_0.ch _cw_708 (fun g hg hm => by have _h0 := mSg.1 hm; exact nQ106_0_8 (by first | exact hg | exact _h0 ▸ hg))).ch _cw_712 (fun g hg hm => by have _h0 := mSg.1 hm; exact nQ106_0_9 (by first | exact hg | exact _h0 ▸ hg)))
        have _f_716 := ((_qz106_3.ch _cw_708 (fun g hg hm => by have _h0 := mSg.1 hm; exact nQ106_3_8 (by first | exact hg | exact _h0 ▸ hg))).ch _cw_712 (fun g hg hm => by have _h0 := mSg.1 hm; exact nQ106_3_9 (by first | exact hg | exact _h0 ▸ hg)))
        have _f_717 := ((_m106.ch _cw_708 (ne1 (by omega))).ch _cw_712 (ne1 (by omega)))
        have _f_718 := (_m_709.ch _cw_712 (ne1 (by omega)))
        have _f_719 := ((((((_f_462.ch0 _cw_673).ch _cw_679 (lwr3 (by omega) _ll_p0 (by omega) _ll_p3 (by omega))).ch0 _cw_699).ch _cw_705 (lwr3 (by omega) _loz98_0 (by omega) _loz98_3 (by omega))).ch _cw_708 (tfr1 (by omega))).ch _cw_712 (tfr1 (by omega)))
        have _f_720 := (((((((_m4.ch0 _cw_461).ch0 _cw_673).ch _cw_679 (nin3 (by omega) (no_hi _lt_p0 (by omega)) (no_hi _lt_p3 (by omega)))).ch0 _cw_699).ch _cw_705 (nin3 (by omega) nQ98_0_4 nQ98_3_4)).ch _cw_708 (ne1 (by omega))).ch _cw_712 (ne1 (by omega)))
        exact _J_385 _ _ _ _ _b8 _b9 (Sub.cons rfl (Sub.cons rfl (Sub.cons rfl (Sub.cons rfl (Sub.cons rfl (Sub.cons rfl (Sub.nil _))))))) E (by omega) _f_715 iQ106_0 _nbz106_0 _f_716 iQ106_3 _nbz106_3 _djz106_0z106_3 _f_717 _f_718 (by omega) (by omega) nQ106_0_8 nQ106_3_8 _m_713 (by omega) (by omega) nQ106_0_9 nQ106_3_9 (by omega) _f_719 _f_720 nQ106_0_4 nQ106_3_4
      ·refine DO_s rfl rfl rfl ?_
       refine s_alloc zr61 fun _b8 _w_721 _m8 _cw_721 _e8 => ?_
       have _cw_721z := _cw_721.size
       have E := E.trans _cw_721.of_nil
       have _z8 := _m8.lt
       replace _m8 : Blk _w_721 _b8 61 [(.int .i64 0), (.int .i64 0), (.bool false)] := _m8
       have _S_722 := (_S_674.trans _cw_721.of_nil)
       refine ⟨_S_722, ?_⟩
       refine DR_one 7 (by kernel_rfl) ?_
       refine DO_s rfl rfl rfl ?_
       have _f_723 := ((((m_p.ch0 _cw_2).ch0 _cw_461).ch0 _cw_673).ch0 _cw_721)
       have _f_724 := ((((_h_p0.ch0 _cw_2).ch0 _cw_461).ch0 _cw_673).ch0 _cw_721)
       have _f_725 := ((((_h_p3.ch0 _cw_2).ch0 _cw_461).ch0 _cw_673).ch0 _cw_721)
       have _f_726 := ((_tr96.ch0 _cw_673).ch0 _cw_721)
       refine Step.call (r_call (xs := [.tmp 91, .tmp 97]) fk31 rfl) (ih _f_723 _f_724 _nb_p0 (Lo.down _ll_p0 (by omega)) _f_725 _nb_p3 (Lo.down _ll_p3 (by omega)) _dj_p0_p3 _f_726 (by omega) (by omega) oa ⟨by omega, by omega⟩ (by omega)) fun _v98 _w_727 _q98 => ?_
       obtain ⟨_z98_0, _z98_3, rfl, _m98, _qz98_0, _inz98_0, _nbz98_0, _qz98_3, _inz98_3, _nbz98_3, _djz98_0z98_3, _cw_727⟩ := _q98
       have _cw_727z := _cw_727.size
       have E := E.step _cw_727 (fun i hm => by rcases List.mem_cons.1 hm with _h0 | hm; (right; exact _h0 ▸ List.mem_cons_self ..); (rcases List.mem_append.1 hm with hm | hm; (exact (.inr (mCo _ (mAL _ hm)))); (exact (.inr (mCo _ (mAR _ hm))))))
       obtain ⟨Az98_0, Cz98_0, ez98_0⟩ := _qz98_0.val
       subst ez98_0
       have lz98_0 := _qz98_0.len
       have hiz98_0 := _qz98_0.lt
       have _loz98_0 : Lo L_p (.slice Az98_0 ((bpT ta _p0 _p3).L).length Cz98_0) := loOld _inz98_0 _nbz98_0 (by omega) (all2 _ll_p0 _ll_p3)
       obtain ⟨Az98_3, Cz98_3, ez98_3⟩ := _qz98_3.val
       subst ez98_3
       have lz98_3 := _qz98_3.len
       have hiz98_3 := _qz98_3.lt
       have _loz98_3 : Lo L_p (.slice Az98_3 ((bpT ta _p0 _p3).F).length Cz98_3) := loOld _inz98_3 _nbz98_3 (by omega) (all2 _ll_p0 _ll_p3)
       have nQ98_0_4 := nbOld _inz98_0 _nbz98_0 (show _b4 < _ by omega) (nin2 (no_in _ll_p0 _lt_p0 (by omega)) (no_in _ll_p3 _lt_p3 (by omega)))
       have nQ98_0_9 := nbOld _inz98_0 _nbz98_0 (show _b9 < _ by omega) (nin2 (no_in _ll_p0 _lt_p0 (by omega)) (no_in _ll_p3 _lt_p3 (by omega)))
       have nQ98_0_8 := nbOld _inz98_0 _nbz98_0 (show _b8 < _ by omega) (nin2 (no_in _ll_p0 _lt_p0 (by omega)) (no_in _ll_p3 _lt_p3 (by omega)))
       have iQ98_0 := inOldE E _inz98_0 _nbz98_0 (by omega) (all2 (fun g hm => (.inr (mCo _ (mAL _ hm)))) (fun g hm => (.inr (mCo _ (mAR _ hm)))))
       have nQ98_3_4 := nbOld _inz98_3 _nbz98_3 (show _b4 < _ by omega) (nin2 (no_in _ll_p0 _lt_p0 (by omega)) (no_in _ll_p3 _lt_p3 (by omega)))
       have nQ98_3_9 := nbOld _inz98_3 _nbz98_3 (show _b9 < _ by omega) (nin2 (no_in _ll_p0 _lt_p0 (by omega)) (no_in _ll_p3 _lt_p3 (by omega)))
       have nQ98_3_8 := nbOld _inz98_3 _nbz98_3 (show _b8 < _ by omega) (nin2 (no_in _ll_p0 _lt_p0 (by omega)) (no_in _ll_p3 _lt_p3 (by omega)))
       have iQ98_3 := inOldE E _inz98_3 _nbz98_3 (by omega) (all2 (fun g hm => (.inr (mCo _ (mAL _ hm)))) (fun g hm => (.inr (mCo _ (mAR _ hm)))))
       replace _m98 : Blk _w_727 b_p t_p [(.slice Az98_0 ((bpT ta _p0 _p3).L).length Cz98_0), (.int .i64 _p1), (.int .i64 _p2), (.slice Az98_3 ((bpT ta _p0 _p3).F).length Cz98_3), (.bool _p4)] := _m98
       have _S_728 := (_S_722.step _cw_727 (all3 (.inr (mAL _ (mAL _ (mSg.2 rfl)))) (fun i hm => .inr (mAL _ (mAR _ hm))) (fun i hm => .inr (mAR _ hm))))
       refine ⟨_S_728, ?_⟩
       refine DR_one 15 (by kernel_rfl) ?_
       refine DO_s rfl rfl rfl ?_
       have _f_729 := (((_tr104.ch0 _cw_673).ch0 _cw_721).ch _cw_727 (lwr3 (by omega) _ll_p0 (by omega) _ll_p3 (by omega)))
       refine Step.call (r_call (xs := [.tmp 99, .tmp 105]) fk31 rfl) (ih _m98 _qz98_0 _nbz98_0 (Lo.down _loz98_0 (by omega)) _qz98_3 _nbz98_3 (Lo.down _loz98_3 (by omega)) _djz98_0z98_3 _f_729 (by omega) (by omega) ob ⟨by omega, by omega⟩ (by omega)) fun _v106 _w_730 _q106 => ?_
       obtain ⟨_z106_0, _z106_3, rfl, _m106, _qz106_0, _inz106_0, _nbz106_0, _qz106_3, _inz106_3, _nbz106_3, _djz106_0z106_3, _cw_730⟩ := _q106
       have _cw_730z := _cw_730.size
       have E := E.step _cw_730 (fun i hm => by rcases List.mem_cons.1 hm with _h0 | hm; (right; exact _h0 ▸ List.mem_cons_self ..); (rcases List.mem_append.1 hm with hm | hm; (exact (iQ98_0 _ hm)); (exact (iQ98_3 _ hm))))
       obtain ⟨Az106_0, Cz106_0, ez106_0⟩ := _qz106_0.val
       subst ez106_0
       have lz106_0 := _qz106_0.len
       have hiz106_0 := _qz106_0.lt
       have _loz106_0 : Lo L_p (.slice Az106_0 ((bpT tb ((bpT ta _p0 _p3).L) ((bpT ta _p0 _p3).F)).L).length Cz106_0) := loOld _inz106_0 _nbz106_0 (by omega) (all2 _loz98_0 _loz98_3)
       obtain ⟨Az106_3, Cz106_3, ez106_3⟩ := _qz106_3.val
       subst ez106_3
       have lz106_3 := _qz106_3.len
       have hiz106_3 := _qz106_3.lt
       have _loz106_3 : Lo L_p (.slice Az106_3 ((bpT tb ((bpT ta _p0 _p3).L) ((bpT ta _p0 _p3).F)).F).length Cz106_3) := loOld _inz106_3 _nbz106_3 (by omega) (all2 _loz98_0 _loz98_3)
       have nQ106_0_4 := nbOld _inz106_0 _nbz106_0 (show _b4 < _ by omega) (nin2 nQ98_0_4 nQ98_3_4)
       have nQ106_0_9 := nbOld _inz106_0 _nbz106_0 (show _b9 < _ by omega) (nin2 nQ98_0_9 nQ98_3_9)
       have nQ106_0_8 := nbOld _inz106_0 _nbz106_0 (show _b8 < _ by omega) (nin2 nQ98_0_8 nQ98_3_8)
       have iQ106_0 := inOldE E _inz106_0 _nbz106_0 (by omega) (all2 (fun g hm => (iQ98_0 _ hm)) (fun g hm => (iQ98_3 _ hm)))
       have nQ106_3_4 := nbOld _inz106_3 _nbz106_3 (show _b4 < _ by omega) (nin2 nQ98_0_4 nQ98_3_4)
       have nQ106_3_9 := nbOld _inz106_3 _nbz106_3 (show _b9 < _ by omega) (nin2 nQ98_0_9 nQ98_3_9)
       have nQ106_3_8 := nbOld _inz106_3 _nbz106_3 (show _b8 < _ by omega) (nin2 nQ98_0_8 nQ98_3_8)
       have iQ106_3 := inOldE E _inz106_3 _nbz106_3 (by omega) (all2 (fun g hm => (iQ98_0 _ hm)) (fun g hm => (iQ98_3 _ hm)))
       replace _m106 : Blk _w_730 b_p t_p [(.slice Az106_0 ((bpT tb ((bpT ta _p0 _p3).L) ((bpT ta _p0 _p3).F)).L).length Cz106_0), (.int .i64 _p1), (.int .i64 _p2), (.slice Az106_3 ((bpT tb ((bpT ta _p0 _p3).L) ((bpT ta _p0 _p3).F)).F).length Cz106_3), (.bool _p4)] := _m106
       have _S_731 := (_S_728.step _cw_730 (all3 (.inr (mAL _ (mAL _ (mSg.2 rfl)))) (inCall _inz98_0 (by omega) (.inr (mAL _ (mAL _ (mSg.2 rfl)))) (fun i hm => .inr (mAL _ (mAR _ hm))) (fun i hm => .inr (mAR _ hm))) (inCall _inz98_3 (by omega) (.inr (mAL _ (mAL _ (mSg.2 rfl)))) (fun i hm => .inr (mAL _ (mAR _ hm))) (fun i hm => .inr (mAR _ hm)))))
       refine ⟨_S_731, ?_⟩
       refine DR_one 18 (by kernel_rfl) ?_
       refine DO_s rfl rfl rfl ?_
       have _f_732 := ((_m8.ch _cw_727 (nin3 (by omega) (no_hi _lt_p0 (by omega)) (no_hi _lt_p3 (by omega)))).ch _cw_730 (nin3 (by omega) nQ98_0_8 nQ98_3_8))
       refine s_storeA (off := 0) 3 _f_732 sz61 rfl (us := [(.int .i64 ((bpT ta _p0 _p3).f)), (.int .i64 ((bpT ta _p0 _p3).l)), (.bool ((bpT ta _p0 _p3).n))]) rfl rfl rfl rfl fun _w_733 _m_734 _cw_733 => ?_
       have _cw_733z := _cw_733.size
       have E := E.step _cw_733 (oneL (by omega))
       replace _m_734 : Blk _w_733 _b8 61 [(.int .i64 ((bpT ta _p0 _p3).f)), (.int .i64 ((bpT ta _p0 _p3).l)), (.bool ((bpT ta _p0 _p3).n))] := _m_734
       have _S_735 := (_S_731.step _cw_733 (oneL (by omega)))
       refine ⟨_S_735, ?_⟩
       refine DR_one 19 (by kernel_rfl) ?_
       refine DO_s rfl rfl rfl ?_
       have _f_736 := ((((_m9.ch0 _cw_721).ch _cw_727 (nin3 (by omega) (no_hi _lt_p0 (by omega)) (no_hi _lt_p3 (by omega)))).ch _cw_730 (nin3 (by omega) nQ98_0_9 nQ98_3_9)).ch _cw_733 (ne1 (by omega)))
       refine s_storeA (off := 0) 3 _f_736 sz61 rfl (us := [(.int .i64 ((bpT tb ((bpT ta _p0 _p3).L) ((bpT ta _p0 _p3).F)).f)), (.int .i64 ((bpT tb ((bpT ta _p0 _p3).L) ((bpT ta _p0 _p3).F)).l)), (.bool ((bpT tb ((bpT ta _p0 _p3).L) ((bpT ta _p0 _p3).F)).n))]) rfl rfl rfl rfl fun _w_737 _m_738 _cw_737 => ?_
       have _cw_737z := _cw_737.size
       have E := E.step _cw_737 (oneL (by omega))
       replace _m_738 : Blk _w_737 _b9 61 [(.int .i64 ((bpT tb ((bpT ta _p0 _p3).L) ((bpT ta _p0 _p3).F)).f)), (.int .i64 ((bpT tb ((bpT ta _p0 _p3).L) ((bpT ta _p0 _p3).F)).l)), (.bool ((bpT tb ((bpT ta _p0 _p3).L) ((bpT ta _p0 _p3).F)).n))] := _m_738
       have _S_739 := (_S_735.step _cw_737 (oneL (by omega)))
       refine ⟨_S_739, ?_⟩
       refine DR_done (by kernel_rfl) ?_
       refine thn_nrm ?_
       have _f_740 := ((_qz106_0.ch _cw_733 (fun g hg hm => by have _h0 := mSg.1 hm; exact nQ106_0_8 (by first | exact hg | exact _h0 ▸ hg))).ch _cw_737 (fun g hg hm => by have _h0 := mSg.1 hm; exact nQ106_0_9 (by first | exact hg | exact _h0 ▸ hg)))
       have _f_741 := ((_qz106_3.ch _cw_733 (fun g hg hm => by have _h0 := mSg.1 hm; exact nQ106_3_8 (by first | exact hg | exact _h0 ▸ hg))).ch _cw_737 (fun g hg hm => by have _h0 := mSg.1 hm; exact nQ106_3_9 (by first | exact hg | exact _h0 ▸ hg)))
       have _f_742 := ((_m106.ch _cw_733 (ne1 (by omega))).ch _cw_737 (ne1 (by omega)))
       have _f_743 := (_m_734.ch _cw_737 (ne1 (by omega)))
       have _f_744 := ((((((_f_462.ch0 _cw_673).ch0 _cw_721).ch _cw_727 (lwr3 (by omega) _ll_p0 (by omega) _ll_p3 (by omega))).ch _cw_730 (lwr3 (by omega) _loz98_0 (by omega) _loz98_3 (by omega))).ch _cw_733 (tfr1 (by omega))).ch _cw_737 (tfr1 (by omega)))
       have _f_745 := (((((((_m4.ch0 _cw_461).ch0 _cw_673).ch0 _cw_721).ch _cw_727 (nin3 (by omega) (no_hi _lt_p0 (by omega)) (no_hi _lt_p3 (by omega)))).ch _cw_730 (nin3 (by omega) nQ98_0_4 nQ98_3_4)).ch _cw_733 (ne1 (by omega))).ch _cw_737 (ne1 (by omega)))
       exact _J_385 _ _ _ _ _b8 _b9 (Sub.cons rfl (Sub.cons rfl (Sub.cons rfl (Sub.cons rfl (Sub.cons rfl (Sub.cons rfl (Sub.nil _))))))) E (by omega) _f_740 iQ106_0 _nbz106_0 _f_741 iQ106_3 _nbz106_3 _djz106_0z106_3 _f_742 _f_743 (by omega) (by omega) nQ106_0_8 nQ106_3_8 _m_738 (by omega) (by omega) nQ106_0_9 nQ106_3_9 (by omega) _f_744 _f_745 nQ106_0_4 nQ106_3_4
    ·have _kb_382 := _h89
     have _h89 := bf_d _h89
     refine W_seq fun _K_746 _hK_746 => ?_
     refine W_region ?_
     refine WL_step rfl rfl (r_eql rfl rfl) ?_
     refine WL_step rfl rfl (r_assign rfl) ?_
     refine WL_nil ?_
     refine thn_nrm (_hK_746 _ _ ?_)
     clear _hK_746
     refine W_cond rfl (fun _h141 => ?_) (fun _h141 => ?_)
     ·have _kb_747 := _h141
      have _h141 := bt_d _h141
      obtain ⟨ta, _hk0, oa, sab, ga⟩ := hok.kk1 (by omega)
      have za := bpT_len ta _p0 _p3
      have eb := bp6 (L := _p0) (F := _p3) hok (by omega) _hk0
      refine W_seq fun _K_748 _hK_748 => ?_
      refine W_region ?_
      refine WL_step rfl rfl (r_move rfl) ?_
      refine WL_step rfl rfl (r_move rfl) ?_
      refine WL_step rfl rfl (r_nilCheck rfl) ?_
      refine WL_step rfl rfl (r_fieldAddr fa78_1 rfl) ?_
      refine WL_step rfl rfl (r_loadAt _f_5 agg74 rfl rfl) ?_
      refine WL_s rfl rfl ?_
      have _f_749 := (_hk_x.ch0 _cw_2)
      refine (s_index (j := 0) _f_749 acs_len el74 sz49 rfl rfl rfl (by omega) fun _p148 _y148 _hy148 _a148 => ?_)
      have _f_750 := (_kd_x.ch0 _cw_2)
      have ht148 := _hk0
      have _tr148 := _f_750.2 _ _ _ _hy148 _hk0
      obtain ⟨_A_148, _C_148, _ps_148, _hc_148, _hk_148, _kd_148⟩ := _tr148.open
      have _kl_148 := _kd_148.1
      replace _a148 : At _w_2 LT_x L_p _p148 ([(.pointer (some _y148))]) := _a148
      refine WL_step rfl rfl (r_loadAt0 _a148 agg49 rfl rfl) ?_
      refine WL_s rfl rfl ?_
      have _f_751 := (m_p.ch0 _cw_2)
      have _f_752 := (_h_p0.ch0 _cw_2)
      have _f_753 := (_h_p3.ch0 _cw_2)
      refine Step.call (r_call (xs := [.tmp 143, .tmp 149]) fk31 rfl) (ih _f_751 _f_752 _nb_p0 (Lo.down _ll_p0 (by omega)) _f_753 _nb_p3 (Lo.down _ll_p3 (by omega)) _dj_p0_p3 _tr148 (by omega) (by omega) oa ⟨by omega, by omega⟩ (by omega)) fun _v150 _w_754 _q150 => ?_
      obtain ⟨_z150_0, _z150_3, rfl, _m150, _qz150_0, _inz150_0, _nbz150_0, _qz150_3, _inz150_3, _nbz150_3, _djz150_0z150_3, _cw_754⟩ := _q150
      have _cw_754z := _cw_754.size
      have E := E.step _cw_754 (fun i hm => by rcases List.mem_cons.1 hm with _h0 | hm; (right; exact _h0 ▸ List.mem_cons_self ..); (rcases List.mem_append.1 hm with hm | hm; (exact (.inr (mCo _ (mAL _ hm)))); (exact (.inr (mCo _ (mAR _ hm))))))
      obtain ⟨Az150_0, Cz150_0, ez150_0⟩ := _qz150_0.val
      subst ez150_0
      have lz150_0 := _qz150_0.len
      have hiz150_0 := _qz150_0.lt
      have _loz150_0 : Lo L_p (.slice Az150_0 ((bpT ta _p0 _p3).L).length Cz150_0) := loOld _inz150_0 _nbz150_0 (by omega) (all2 _ll_p0 _ll_p3)
      obtain ⟨Az150_3, Cz150_3, ez150_3⟩ := _qz150_3.val
      subst ez150_3
      have lz150_3 := _qz150_3.len
      have hiz150_3 := _qz150_3.lt
      have _loz150_3 : Lo L_p (.slice Az150_3 ((bpT ta _p0 _p3).F).length Cz150_3) := loOld _inz150_3 _nbz150_3 (by omega) (all2 _ll_p0 _ll_p3)
      have nQ150_0_4 := nbOld _inz150_0 _nbz150_0 (show _b4 < _ by omega) (nin2 (no_in _ll_p0 _lt_p0 (by omega)) (no_in _ll_p3 _lt_p3 (by omega)))
      have iQ150_0 := inOldE E _inz150_0 _nbz150_0 (by omega) (all2 (fun g hm => (.inr (mCo _ (mAL _ hm)))) (fun g hm => (.inr (mCo _ (mAR _ hm)))))
      have nQ150_3_4 := nbOld _inz150_3 _nbz150_3 (show _b4 < _ by omega) (nin2 (no_in _ll_p0 _lt_p0 (by omega)) (no_in _ll_p3 _lt_p3 (by omega)))
      have iQ150_3 := inOldE E _inz150_3 _nbz150_3 (by omega) (all2 (fun g hm => (.inr (mCo _ (mAL _ hm)))) (fun g hm => (.inr (mCo _ (mAR _ hm)))))
      replace _m150 : Blk _w_754 b_p t_p [(.slice Az150_0 ((bpT ta _p0 _p3).L).length Cz150_0), (.int .i64 _p1), (.int .i64 _p2), (.slice Az150_3 ((bpT ta _p0 _p3).F).length Cz150_3), (.bool _p4)] := _m150
      refine WL_s rfl rfl ?_
      refine s_alloc zr61 fun _b11 _w_755 _m11 _cw_755 _e11 => ?_
      have _cw_755z := _cw_755.size
      have E := E.trans _cw_755.of_nil
      have _z11 := _m11.lt
      replace _m11 : Blk _w_755 _b11 61 [(.int .i64 0), (.int .i64 0), (.bool false)] := _m11
      refine WL_s rfl rfl ?_
      refine s_storeA (off := 0) 3 _m11 sz61 rfl (us := [(.int .i64 ((bpT ta _p0 _p3).f)), (.int .i64 ((bpT ta _p0 _p3).l)), (.bool ((bpT ta _p0 _p3).n))]) rfl rfl rfl rfl fun _w_756 _m_757 _cw_756 => ?_
      have _cw_756z := _cw_756.size
      have E := E.step _cw_756 (oneL (by omega))
      replace _m_757 : Blk _w_756 _b11 61 [(.int .i64 ((bpT ta _p0 _p3).f)), (.int .i64 ((bpT ta _p0 _p3).l)), (.bool ((bpT ta _p0 _p3).n))] := _m_757
      refine WL_nil ?_
      refine thn_nrm (_hK_748 _ _ ?_)
      clear _hK_748
      refine W_seq fun _K_758 _hK_758 => ?_
      refine W_region ?_
      refine WL_step rfl rfl (r_move rfl) ?_
      refine WL_step rfl rfl (r_fieldAddr fa61_1 rfl) ?_
      refine WL_step rfl rfl (r_loadAt _m_757.at_ agg3 rfl rfl) ?_
      refine WL_step rfl rfl (r_fieldAddr fa61_0 rfl) ?_
      refine WL_step rfl rfl (r_loadAt _m_757.at_ agg3 rfl rfl) ?_
      refine WL_s rfl rfl ?_
      have _f_759 := ((_m150.ch0 _cw_755).ch _cw_756 (ne1 (by omega)))
      have _f_760 := ((_qz150_0.ch0 _cw_755).ch _cw_756 (fun g hg hm => by have _h0 := mSg.1 hm; have _h2 := _loz150_0 _ hg; have _h3 := hiz150_0 _ hg; omega))
      have _f_761 := ((_qz150_3.ch0 _cw_755).ch _cw_756 (fun g hg hm => by have _h0 := mSg.1 hm; have _h2 := _loz150_3 _ hg; have _h3 := hiz150_3 _ hg; omega))
      refine Step.call (r_call (xs := [.tmp 151, .tmp 153, .tmp 155]) fk55 rfl) (c_impl_Positions_follow _f_759 (by omega) _f_760 _nbz150_0 (Lo.down _loz150_0 (by omega)) _f_761 _nbz150_3 (Lo.down _loz150_3 (by omega)) _djz150_0z150_3 _ _ (by omega) (L_p := 0)) fun _v156 _w_762 _q156 => ?_
      obtain ⟨_z156_0, _z156_3, rfl, _m156, _qz156_0, _inz156_0, _nbz156_0, _qz156_3, _inz156_3, _nbz156_3, _djz156_0z156_3, _cw_762⟩ := _q156
      have _cw_762z := _cw_762.size
      have E := E.step _cw_762 (fun i hm => by rcases List.mem_cons.1 hm with _h0 | hm; (right; exact _h0 ▸ List.mem_cons_self ..); (rcases List.mem_append.1 hm with hm | hm; (exact (iQ150_0 _ hm)); (exact (iQ150_3 _ hm))))
      obtain ⟨Az156_0, Cz156_0, ez156_0⟩ := _qz156_0.val
      subst ez156_0
      have lz156_0 := _qz156_0.len
      have hiz156_0 := _qz156_0.lt
      have _loz156_0 : Lo L_p (.slice Az156_0 (((bpT ta _p0 _p3).L)).length Cz156_0) := loOld _inz156_0 _nbz156_0 (by omega) (all2 _loz150_0 _loz150_3)
      obtain ⟨Az156_3, Cz156_3, ez156_3⟩ := _qz156_3.val
      subst ez156_3
      have lz156_3 := _qz156_3.len
      have hiz156_3 := _qz156_3.lt
      have _loz156_3 : Lo L_p (.slice Az156_3 (lkL ((bpT ta _p0 _p3).l) ((bpT ta _p0 _p3).f) ((bpT ta _p0 _p3).F)).length Cz156_3) := loOld _inz156_3 _nbz156_3 (by omega) (all2 _loz150_0 _loz150_3)
      have nQ156_0_4 := nbOld _inz156_0 _nbz156_0 (show _b4 < _ by omega) (nin2 nQ150_0_4 nQ150_3_4)
      have nQ156_0_11 := nbOld _inz156_0 _nbz156_0 (show _b11 < _ by omega) (nin2 (no_in _loz150_0 hiz150_0 (by omega)) (no_in _loz150_3 hiz150_3 (by omega)))
      have iQ156_0 := inOldE E _inz156_0 _nbz156_0 (by omega) (all2 (fun g hm => (iQ150_0 _ hm)) (fun g hm => (iQ150_3 _ hm)))
      have nQ156_3_4 := nbOld _inz156_3 _nbz156_3 (show _b4 < _ by omega) (nin2 nQ150_0_4 nQ150_3_4)
      have nQ156_3_11 := nbOld _inz156_3 _nbz156_3 (show _b11 < _ by omega) (nin2 (no_in _loz150_0 hiz150_0 (by omega)) (no_in _loz150_3 hiz150_3 (by omega)))
      have iQ156_3 := inOldE E _inz156_3 _nbz156_3 (by omega) (all2 (fun g hm => (iQ150_0 _ hm)) (fun g hm => (iQ150_3 _ hm)))
      replace _m156 : Blk _w_762 b_p t_p [(.slice Az156_0 (((bpT ta _p0 _p3).L)).length Cz156_0), (.int .i64 _p1), (.int .i64 _p2), (.slice Az156_3 (lkL ((bpT ta _p0 _p3).l) ((bpT ta _p0 _p3).f) ((bpT ta _p0 _p3).F)).length Cz156_3), (.bool _p4)] := _m156
      refine WL_nil ?_
      refine thn_nrm (_hK_758 _ _ ?_)
      clear _hK_758
      refine W_seq fun _K_763 _hK_763 => ?_
      refine W_region ?_
      refine WL_step rfl rfl (r_fieldAddr fa61_0 rfl) ?_
      have _f_764 := (_m_757.ch _cw_762 (nin3 (by omega) (no_hi hiz150_0 (by omega)) (no_hi hiz150_3 (by omega))))
      refine WL_step rfl rfl (r_loadAt _f_764.at_ agg3 rfl rfl) ?_
      refine WL_step rfl rfl (r_fieldAddr fa61_1 rfl) ?_
      refine WL_step rfl rfl (r_loadAt _f_764.at_ agg3 rfl rfl) ?_
      refine WL_step rfl rfl (r_build (parts := [(0, .tmp 158), (1, .tmp 160), (2, .const (Go.Value.bool true))]) (cells := [(.int .i64 ((bpT ta _p0 _p3).f)), (.int .i64 ((bpT ta _p0 _p3).l)), (.bool true)]) zr61 pl61 rfl rfl) ?_
      refine WL_s rfl rfl ?_
      have _f_765 := ((((_m4.ch _cw_754 (nin3 (by omega) (no_hi _lt_p0 (by omega)) (no_hi _lt_p3 (by omega)))).ch0 _cw_755).ch _cw_756 (ne1 (by omega))).ch _cw_762 (nin3 (by omega) nQ150_0_4 nQ150_3_4))
      refine s_storeA (off := 0) 3 _f_765 sz61 rfl (us := [(.int .i64 ((bpT ta _p0 _p3).f)), (.int .i64 ((bpT ta _p0 _p3).l)), (.bool true)]) rfl rfl rfl rfl fun _w_766 _m_767 _cw_766 => ?_
      have _cw_766z := _cw_766.size
      have E := E.step _cw_766 (oneL (by omega))
      replace _m_767 : Blk _w_766 _b4 61 [(.int .i64 ((bpT ta _p0 _p3).f)), (.int .i64 ((bpT ta _p0 _p3).l)), (.bool true)] := _m_767
      refine WL_nil ?_
      refine thn_nrm (_hK_763 _ _ ?_)
      clear _hK_763
      refine W_ret (inB_ret (thn_ret ?_))
      clear _hK_3
      have _f_768 := (_m156.ch _cw_766 (ne1 (by omega)))
      have _f_769 := (_qz156_0.ch _cw_766 (fun g hg hm => by have _h0 := mSg.1 hm; exact nQ156_0_4 (by first | exact hg | exact _h0 ▸ hg)))
      have _o_770 : Ol ics 3 1 _w_766 (.slice Az156_0 (((bpT ta _p0 _p3).L)).length Cz156_0) ((bpT x _p0 _p3).L) := by
        have hx := _f_769
        exact hx.eq (by rw [eb] <;> first | rfl | (rw [hte]; done))
      have _f_771 := (_qz156_3.ch _cw_766 (fun g hg hm => by have _h0 := mSg.1 hm; exact nQ156_3_4 (by first | exact hg | exact _h0 ▸ hg)))
      have _o_772 : Ol ics 3 1 _w_766 (.slice Az156_3 (lkL ((bpT ta _p0 _p3).l) ((bpT ta _p0 _p3).f) ((bpT ta _p0 _p3).F)).length Cz156_3) ((bpT x _p0 _p3).F) := by
        have hx := _f_771
        exact hx.eq (by rw [eb] <;> first | rfl | (rw [hte]; done))
      have _m_773 : Blk _w_766 b_p t_p [(.slice Az156_0 (((bpT ta _p0 _p3).L)).length Cz156_0), .int .i64 _p1, .int .i64 _p2, (.slice Az156_3 (lkL ((bpT ta _p0 _p3).l) ((bpT ta _p0 _p3).f) ((bpT ta _p0 _p3).F)).length Cz156_3), .bool _p4] := by
        have hx := _f_768
        exact hx
      exact ret_intro [_] (resOf_loadA _m_767 rfl agg61 sz61 trivial) ⟨(.slice Az156_0 (((bpT ta _p0 _p3).L)).length Cz156_0), (.slice Az156_3 (lkL ((bpT ta _p0 _p3).l) ((bpT ta _p0 _p3).f) ((bpT ta _p0 _p3).F)).length Cz156_3), (((congrArg (fun zq => (Value.agg #[.int .i64 zq, .int .i64 ((bpT ta _p0 _p3).l), .bool true])) (by rw [eb] <;> first | rfl | (rw [hte]; done))).trans (congrArg (fun zq => (Value.agg #[.int .i64 ((bpT x _p0 _p3).f), .int .i64 zq, .bool true])) (by rw [eb] <;> first | rfl | (rw [hte]; done)))).trans (congrArg (fun zq => (Value.agg #[.int .i64 ((bpT x _p0 _p3).f), .int .i64 ((bpT x _p0 _p3).l), .bool zq])) (by rw [eb] <;> first | rfl | (rw [hte]; done)))), _m_773, _o_770, iQ156_0, _nbz156_0, _o_772, iQ156_3, _nbz156_3, _djz156_0z156_3, E⟩
     ·have _kb_747 := _h141
      have _h141 := bf_d _h141
      have eb := bp0 (t := x) (L := _p0) (F := _p3) ⟨by omega, by omega, by omega, by omega, by omega⟩
      refine W_skip ?_
      refine inB_nrm ?_
      refine thn_nrm (_hK_3 _ _ ?_)
      clear _hK_3
      refine W_seq fun _K_774 _hK_774 => ?_
      refine W_region ?_
      refine WL_step rfl rfl (r_build (parts := []) (cells := [(.int .i64 0), (.int .i64 0), (.bool false)]) zr61 pl61 rfl rfl) ?_
      refine WL_s rfl rfl ?_
      refine s_storeA (off := 0) 3 _m4 sz61 rfl (us := [(.int .i64 0), (.int .i64 0), (.bool false)]) rfl rfl rfl rfl fun _w_775 _m_776 _cw_775 => ?_
      have _cw_775z := _cw_775.size
      have E := E.step _cw_775 (oneL (by omega))
      replace _m_776 : Blk _w_775 _b4 61 [(.int .i64 0), (.int .i64 0), (.bool false)] := _m_776
      refine WL_nil ?_
      refine thn_nrm (_hK_774 _ _ ?_)
      clear _hK_774
      refine W_ret ?_
      have _f_777 := ((m_p.ch0 _cw_2).ch _cw_775 (ne1 (by omega)))
      have _f_778 := ((_h_p0.ch0 _cw_2).ch _cw_775 (fun g hg hm => by have _h0 := mSg.1 hm; have _h2 := _ll_p0 _ hg; have _h3 := _lt_p0 _ hg; omega))
      have _o_779 : Ol ics 3 1 _w_775 (.slice _A_p0 _p0.length _C_p0) ((bpT x _p0 _p3).L) := by
        have hx := _f_778
        exact hx.eq (by rw [eb] <;> first | rfl | (rw [hte]; done))
      have _f_780 := ((_h_p3.ch0 _cw_2).ch _cw_775 (fun g hg hm => by have _h0 := mSg.1 hm; have _h2 := _ll_p3 _ hg; have _h3 := _lt_p3 _ hg; omega))
      have _o_781 : Ol ics 3 1 _w_775 (.slice _A_p3 _p3.length _C_p3) ((bpT x _p0 _p3).F) := by
        have hx := _f_780
        exact hx.eq (by rw [eb] <;> first | rfl | (rw [hte]; done))
      have _m_782 : Blk _w_775 b_p t_p [(.slice _A_p0 _p0.length _C_p0), .int .i64 _p1, .int .i64 _p2, (.slice _A_p3 _p3.length _C_p3), .bool _p4] := by
        have hx := _f_777
        exact hx
      exact ret_intro [_] (resOf_loadA _m_776 rfl agg61 sz61 trivial) ⟨(.slice _A_p0 _p0.length _C_p0), (.slice _A_p3 _p3.length _C_p3), (((congrArg (fun zq => (Value.agg #[.int .i64 zq, .int .i64 0, .bool false])) (by rw [eb] <;> first | rfl | (rw [hte]; done))).trans (congrArg (fun zq => (Value.agg #[.int .i64 ((bpT x _p0 _p3).f), .int .i64 zq, .bool false])) (by rw [eb] <;> first | rfl | (rw [hte]; done)))).trans (congrArg (fun zq => (Value.agg #[.int .i64 ((bpT x _p0 _p3).f), .int .i64 ((bpT x _p0 _p3).l), .bool zq])) (by rw [eb] <;> first | rfl | (rw [hte]; done)))), _m_782, _o_779, (fun g hm => by exact (.inr (mCo _ (mAL _ hm)))), _nb_p0, _o_781, (fun g hm => by exact (.inr (mCo _ (mAR _ hm)))), _nb_p3, _dj_p0_p3, E⟩
theorem c_impl_Positions_build {w : World} {b_p t_p L_p : Nat} {_v_p0 : Value} {_p0 : List Int} {_p1 : Int} {_p2 : Int} {_v_p3 : Value} {_p3 : List Int} {_p4 : Bool} (m_p : Blk w b_p t_p [_v_p0, (.int .i64 _p1), (.int .i64 _p2), _v_p3, (.bool _p4)])  (_h_p0 : Ol ics 3 1 w _v_p0 _p0) (_nb_p0 : b_p ∉ bl _v_p0) (_ll_p0 : Lo L_p _v_p0) (_h_p3 : Ol ics 3 1 w _v_p3 _p3) (_nb_p3 : b_p ∉ bl _v_p3) (_ll_p3 : Lo L_p _v_p3) (_dj_p0_p3 : ∀ g ∈ bl _v_p0, g ∉ bl _v_p3) {LT_x : Nat} {p_x : Addr} {x : Tr} (_h_x : TrAt w LT_x L_p p_x x) (lb9 : b_p < LT_x ∨ L_p ≤ b_p) (lb8 : L_p ≤ w.heap.size) (hok : Okd x) (hb : _p0.length + x.sz ≤ 100000 ∧ _p3.length + x.sz ≤ 100000) :
    Ctr Try.prog 31 #[(.pointer (some ⟨b_p, 0, none⟩)), (.pointer (some p_x))] w (fun v w' => ∃ (zp0 zp3 : Value), v = .agg #[.int .i64 ((bpT x _p0 _p3).f), .int .i64 ((bpT x _p0 _p3).l), .bool ((bpT x _p0 _p3).n)] ∧ Blk w' b_p t_p [zp0, .int .i64 _p1, .int .i64 _p2, zp3, .bool _p4] ∧ Ol ics 3 1 w' zp0 ((bpT x _p0 _p3).L) ∧ (∀ g ∈ bl zp0, w.heap.size ≤ g ∨ g ∈ (b_p :: (bl _v_p0 ++ bl _v_p3))) ∧ b_p ∉ bl zp0 ∧ Ol ics 3 1 w' zp3 ((bpT x _p0 _p3).F) ∧ (∀ g ∈ bl zp3, w.heap.size ≤ g ∨ g ∈ (b_p :: (bl _v_p0 ++ bl _v_p3))) ∧ b_p ∉ bl zp3 ∧ (∀ g ∈ bl zp0, g ∉ bl zp3) ∧ Ch (b_p :: (bl _v_p0 ++ bl _v_p3)) w w') := c_impl_Positions_build_n _ m_p _h_p0 _nb_p0 _ll_p0 _h_p3 _nb_p3 _ll_p3 _dj_p0_p3 _h_x lb9 lb8 hok hb (Nat.lt_succ_self _)

end Go.Proofs.Ythcoliemlekojaa
