/- Walks of functions that FnExactMatchesWord reaches: what each returns, and that it leaves the memory that was there alone. -/
import Derived.Test.YthcoliemlekojaaKF
import Derived.Test.YthcoliemlekojaaKG
import Derived.Test.YthcoliemlekojaaKH
import Derived.Test.YthcoliemlekojaaKI
import Derived.Test.YthcoliemlekojaaKJ
import Derived.Test.YthcoliemlekojaaKM
import Derived.Test.YthcoliemlekojaaKN
import Derived.Test.YthcoliemlekojaaKO
import Derived.Test.YthcoliemlekojaaKP
import Derived.Test.YthcoliemlekojaaKQ
import Derived.Test.YthcoliemlekojaaKR
import Derived.Test.YthcoliemlekojaaKS
import Derived.Test.YthcoliemlekojaaKT
import Derived.Test.YthcoliemlekojaaKU
import Derived.Test.YthcoliemlekojaaKV
import Derived.Test.YthcoliemlekojaaKX
import Derived.Test.YthcoliemlekojaaKY
import Derived.Test.YthcoliemlekojaaKZ
import Derived.Test.YthcoliemlekojaaJA
import Derived.Test.YthcoliemlekojaaJB
import Derived.Test.YthcoliemlekojaaJC
import Derived.Test.YthcoliemlekojaaJD
import Derived.Test.YthcoliemlekojaaJE
import Derived.Test.YthcoliemlekojaaJF
import Derived.Test.YthcoliemlekojaaJG
import Derived.Test.YthcoliemlekojaaJH
import Derived.Test.YthcoliemlekojaaJI
import Derived.Test.YthcoliemlekojaaJK
import Derived.Test.YthcoliemlekojaaJM
import Derived.Test.YthcoliemlekojaaJN
import Derived.Test.YthcoliemlekojaaJO
import Derived.Test.YthcoliemlekojaaJP
import Derived.Test.YthcoliemlekojaaJQ
import Derived.Test.YthcoliemlekojaaJR
import Derived.Test.YthcoliemlekojaaJS
import Derived.Test.YthcoliemlekojaaJT
import Derived.Test.YthcoliemlekojaaJU
import Derived.Test.YthcoliemlekojaaJV
import Derived.Test.YthcoliemlekojaaJW
import Derived.Test.YthcoliemlekojaaJX
import Derived.Test.YthcoliemlekojaaJY
import Derived.Test.YthcoliemlekojaaWExactBuildPositions
import Derived.Test.YthcoliemlekojaaWExactBuildPositionsb
import Derived.Test.YthcoliemlekojaaWExactBuildPositionsc
import Derived.Test.YthcoliemlekojaaWExactMatchesWord
import Derived.Test.YthcoliemlekojaaProg
namespace Go.Proofs.Ythcoliemlekojaa
open Go.KLib Go.Shelf
set_option maxHeartbeats 1000000
set_option maxRecDepth 20000
set_option linter.unusedVariables false
set_option linter.unusedSimpArgs false
namespace TExactMatchesWordb
theorem agg24 : aggB Try.prog 24 = some true := by kernel_rfl
theorem agg28 : aggB Try.prog 28 = some false := by kernel_rfl
theorem agg3 : aggB Try.prog 3 = some false := by kernel_rfl
theorem agg30 : aggB Try.prog 30 = some true := by kernel_rfl
theorem agg4 : aggB Try.prog 4 = some false := by kernel_rfl
theorem agg55 : aggB Try.prog 55 = some true := by kernel_rfl
theorem agg67 : aggB Try.prog 67 = some false := by kernel_rfl
theorem agg69 : aggB Try.prog 69 = some false := by kernel_rfl
theorem by67 : bytesB Try.prog 67 = some 24 := by kernel_rfl
theorem el25 : elB Try.prog 25 = some 3 := by kernel_rfl
theorem el28 : elB Try.prog 28 = some 55 := by kernel_rfl
theorem el66 : elB Try.prog 66 = some 67 := by kernel_rfl
theorem el67 : elB Try.prog 67 = some 69 := by kernel_rfl
theorem el69 : elB Try.prog 69 = some 4 := by kernel_rfl
theorem fa30_0 : faB Try.prog 30 0 = some 0 := by kernel_rfl
theorem fa55_0 : faB Try.prog 55 0 = some 0 := by kernel_rfl
theorem fa55_1 : faB Try.prog 55 1 = some 1 := by kernel_rfl
theorem fa55_2 : faB Try.prog 55 2 = some 2 := by kernel_rfl
theorem fa55_3 : faB Try.prog 55 3 = some 3 := by kernel_rfl
theorem fk10 : fnB Try.prog 10 = true := by kernel_rfl
theorem fk11 : fnB Try.prog 11 = true := by kernel_rfl
theorem fk19 : fnB Try.prog 19 = true := by kernel_rfl
theorem fk20 : fnB Try.prog 20 = true := by kernel_rfl
theorem fk21 : fnB Try.prog 21 = true := by kernel_rfl
theorem fk37 : fnB Try.prog 37 = true := by kernel_rfl
theorem fk38 : fnB Try.prog 38 = true := by kernel_rfl
theorem fk39 : fnB Try.prog 39 = true := by kernel_rfl
theorem fk40 : fnB Try.prog 40 = true := by kernel_rfl
theorem fk5 : fnB Try.prog 5 = true := by kernel_rfl
theorem fk6 : fnB Try.prog 6 = true := by kernel_rfl
theorem fk7 : fnB Try.prog 7 = true := by kernel_rfl
theorem fk8 : fnB Try.prog 8 = true := by kernel_rfl
theorem fk9 : fnB Try.prog 9 = true := by kernel_rfl
theorem mixed : Try.prog.follows .mixedOrders = true := by kernel_rfl
theorem sz24 : sizeB Try.prog 24 = some 1 := by kernel_rfl
theorem sz3 : sizeB Try.prog 3 = some 1 := by kernel_rfl
theorem sz30 : sizeB Try.prog 30 = some 1 := by kernel_rfl
theorem sz4 : sizeB Try.prog 4 = some 1 := by kernel_rfl
theorem sz55 : sizeB Try.prog 55 = some 4 := by kernel_rfl
theorem sz67 : sizeB Try.prog 67 = some 1 := by kernel_rfl
theorem sz69 : sizeB Try.prog 69 = some 1 := by kernel_rfl
theorem un4 : Try.prog.underlying 4 = some (.bool) := by kernel_rfl
theorem zr30 : zeroB Try.prog 30 = some (.agg #[.slice none 0 0]) := by kernel_rfl
theorem zr55 : zeroB Try.prog 55 = some (.agg #[.int .i64 0, .int .i64 0, .int .i64 0, .int .i64 0]) := by kernel_rfl
theorem zr67 : zeroB Try.prog 67 = some (.slice none 0 0) := by kernel_rfl
end TExactMatchesWordb
open TExactMatchesWordb

/-- spec.l9Match -/
theorem c_spec_l9Match {w : World} {LL_l _B_l : Nat} {_v_l : Value} {l : List Token} (_h_l : Ls Token.cs 4 w LL_l _B_l _v_l l) {LL_wd _B_wd : Nat} {_v_wd : Value} {wd : List Int} (_h_wd : Ls ics 1 w LL_wd _B_wd _v_wd wd) (t : Tr) (_ht : treeL l = some t) (hw : wd.length ≤ 4096) (hbl : l.length ≤ 1048576) :
    Ctr Try.prog 21 #[_v_l, _v_wd] w (fun v w' => v = .bool (mtT wd t 0 wd.length) ∧ Ch [] w w') := by
  obtain ⟨_A_l, _C_l, _e1_l⟩ := _h_l.val
  subst _e1_l
  have _l_l := _h_l.len
  have _h_l := _h_l.here (by decide)
  obtain ⟨_A_wd, _C_wd, _e1_wd⟩ := _h_wd.val
  subst _e1_wd
  have _l_wd := _h_wd.len
  have _h_wd := _h_wd.here (by decide)
  have E := Ch.refl [] w
  refine Ctr_of_W (N := 151) (vs0 := [(.slice _A_l l.length _C_l), (.slice _A_wd wd.length _C_wd)]) Try.func21 rfl rfl rfl ?_
  refine W_seq fun _K_1 _hK_1 => ?_
  refine W_region ?_
  refine WL_step rfl rfl (r_assign rfl) ?_
  refine WL_nil ?_
  refine thn_nrm (_hK_1 _ _ ?_)
  clear _hK_1
  refine W_seq fun _K_2 _hK_2 => ?_
  refine W_region ?_
  refine WL_step rfl rfl (r_move rfl) ?_
  refine WL_step rfl rfl (r_len (by rw [el25]; rfl) rfl) ?_
  refine WL_step rfl rfl (r_add (by omega) rfl rfl) ?_
  refine WL_step rfl rfl (r_assign rfl) ?_
  refine WL_nil ?_
  refine thn_nrm (_hK_2 _ _ ?_)
  clear _hK_2
  refine W_seq fun _K_3 _hK_3 => ?_
  refine W_region ?_
  refine WL_s rfl rfl ?_
  refine s_buildSlice0 (k := 1) Sv.cs el66 sz67 fun _v17 _w_4 _q17 _lo17 _cw_4 => ?_
  have _cw_4z := _cw_4.size
  have E := E.trans _cw_4
  obtain ⟨_Av17, _Cv17, _ev17⟩ := _q17.val
  subst _ev17
  have _lv17 := _q17.len
  have _hiv17 := _q17.lt
  refine WL_step rfl rfl (r_assign rfl) ?_
  refine WL_nil ?_
  refine thn_nrm (_hK_3 _ _ ?_)
  clear _hK_3
  refine W_seq fun _K_5 _hK_5 => ?_
  refine W_seq fun _K_6 _hK_6 => ?_
  refine W_region ?_
  refine WL_step rfl rfl (r_assign rfl) ?_
  refine WL_nil ?_
  refine thn_nrm (_hK_6 _ _ ?_)
  clear _hK_6
  refine W_block ?_
  have _oi_7 : Ol Sv.cs 67 1 _w_4 (.slice _Av17 (([] : List Sv)).length _Cv17) (([] : List Sv)) := by
    have hx := _q17
    exact hx
  refine W_loop (σ := Nat × List Sv × List Tr × Value) (fun ⟨i, vs, st, sv⟩ => [(0, (.slice _A_l l.length _C_l)), (1, (.slice _A_wd wd.length _C_wd)), (4, (.bool false)), (5, (.int .i64 (((wd.length : Nat) : Int) + 1))), (6, sv), (7, (.int .i64 ((i : Nat) : Int)))]) (fun ⟨i, vs, st, sv⟩ wx => Ch [] w wx ∧ _w_4.heap.size ≤ wx.heap.size ∧ (i ≤ l.length) ∧ (vs.length = st.length) ∧ (st.length ≤ i) ∧ (prs [] (l.take i) = some st) ∧ Ol Sv.cs 67 1 wx sv vs ∧ Lo w.heap.size sv ∧ RT wx wx.heap.size (bl sv) wd vs st) (fun ⟨i, vs, st, sv⟩ => l.length - i) (0, ([] : List Sv), ([] : List Tr), (.slice _Av17 (([] : List Sv)).length _Cv17)) (Sub.cons rfl (Sub.cons rfl (Sub.cons rfl (Sub.cons rfl (Sub.cons rfl (Sub.cons rfl (Sub.nil _))))))) ⟨E, (Nat.le_refl _), (by omega), rfl, (Nat.le_refl _), rfl, _oi_7, _lo17, RT.nil⟩ ?_
  rintro ⟨i, vs, st, sv⟩ _wr_8 ⟨E, _zz0, hi, hl, hs, hp, _o0_6, _lo0_6, ms⟩
  have _E0h := E
  have _E0hz := _E0h.size
  obtain ⟨Asv, Csv, esv⟩ := _o0_6.val
  subst esv
  have lsv := _o0_6.len
  have hisv := _o0_6.lt
  refine W_seq fun _K_9 _hK_9 => ?_
  refine W_seq fun _K_10 _hK_10 => ?_
  refine W_region ?_
  refine WL_step rfl rfl (r_move rfl) ?_
  refine WL_step rfl rfl (r_move rfl) ?_
  refine WL_step rfl rfl (r_len (by rw [el28]; rfl) rfl) ?_
  refine WL_step rfl rfl (r_lss rfl rfl) ?_
  refine WL_nil ?_
  refine thn_nrm (_hK_10 _ _ ?_)
  clear _hK_10
  refine W_cond rfl (fun _h21 => ?_) (fun _h21 => ?_)
  · have _kb_11 := _h21
    have _h21 := bt_d _h21
    refine W_skip ?_
    refine thn_nrm (_hK_9 _ _ ?_)
    clear _hK_9
    refine W_seq fun _K_12 _hK_12 => ?_
    refine W_block ?_
    refine W_seq fun _K_13 _hK_13 => ?_
    refine W_region ?_
    refine WL_step rfl rfl (r_move rfl) ?_
    refine WL_step rfl rfl (r_len (by rw [el66]; rfl) rfl) ?_
    refine WL_step rfl rfl (r_assign rfl) ?_
    refine WL_nil ?_
    refine thn_nrm (_hK_13 _ _ ?_)
    clear _hK_13
    refine W_seq fun _K_14 _hK_14 => ?_
    refine W_region ?_
    refine WL_step rfl rfl (r_move rfl) ?_
    refine WL_step rfl rfl (r_move rfl) ?_
    refine WL_s rfl rfl ?_
    have _f_15 := (_h_l.ch0 _E0h)
    refine (s_index _f_15 Token.len el28 sz55 rfl rfl rfl (by omega) fun _p28 _y28 _hy28 _a28 => ?_)
    obtain ⟨s2, _p1, _p2⟩ := prs_go _ht hp _hy28
    refine WL_step rfl rfl (r_loadAtA0 _a28 agg55 sz55 rfl) ?_
    refine WL_s rfl rfl ?_
    refine s_alloc zr55 fun _b9 _w_16 _m9 _cw_16 _e9 => ?_
    have _cw_16z := _cw_16.size
    have E := E.trans _cw_16
    have _z9 := _m9.lt
    replace _m9 : Blk _w_16 _b9 55 [(.int .i64 0), (.int .i64 0), (.int .i64 0), (.int .i64 0)] := _m9
    refine WL_s rfl rfl ?_
    refine s_storeA (off := 0) 4 _m9 sz55 rfl (us := [(.int .i64 _y28.kind), (.int .i64 _y28.letter), (.int .i64 _y28.low), (.int .i64 _y28.high)]) rfl rfl rfl rfl fun _w_17 _m_18 _cw_17 => ?_
    have _cw_17z := _cw_17.size
    have E := E.step _cw_17 (fun i hi => .inl (by have _h1 := List.mem_singleton.1 hi; omega))
    replace _m_18 : Blk _w_17 _b9 55 [(.int .i64 _y28.kind), (.int .i64 _y28.letter), (.int .i64 _y28.low), (.int .i64 _y28.high)] := _m_18
    refine WL_nil ?_
    refine thn_nrm (_hK_14 _ _ ?_)
    clear _hK_14
    refine W_seq fun _K_19 _hK_19 => ?_
    refine W_region ?_
    refine WL_step rfl rfl (r_fieldAddr fa55_0 rfl) ?_
    refine WL_step rfl rfl (r_loadAt _m_18.at_ agg3 rfl rfl) ?_
    refine WL_nil ?_
    refine thn_nrm (_hK_19 _ _ ?_)
    clear _hK_19
    refine W_block ?_
    refine W_seq fun _K_20 _hK_20 => ?_
    refine W_region ?_
    refine WL_step rfl rfl (r_eql rfl rfl) ?_
    refine WL_step rfl rfl (r_assign rfl) ?_
    refine WL_nil ?_
    refine thn_nrm (_hK_20 _ _ ?_)
    clear _hK_20
    refine W_cond rfl (fun _h37 => ?_) (fun _h37 => ?_)
    · have _kb_21 := _h37
      have _h37 := bt_d _h37
      have es9 := push_k0 _p1 (by unfold arK; rw [if_neg (by omega), if_neg (by omega)])
      have em2 := ml2 (w := wd) (y := _y28) (by omega)
      refine W_region ?_
      refine WL_step rfl rfl (r_move rfl) ?_
      refine WL_step rfl rfl (r_move rfl) ?_
      refine WL_s rfl rfl ?_
      refine Step.call (r_call (xs := [.tmp 40, .const (Go.Value.bool true)]) fk37 rfl) (c_spec_l9Grid (wd.length + 1) _ (by omega)) fun _v41 _w_22 _q41 => ?_
      obtain ⟨u41_0, _vs41_0, rfl, _q_u41_0, _lo_u41_0, _od_vs41_0, _sep_vs41_0, _cw_22⟩ := _q41
      have _cw_22z := _cw_22.size
      have E := E.trans _cw_22
      obtain ⟨Au41_0, Cu41_0, eu41_0⟩ := _q_u41_0.val
      subst eu41_0
      have lu41_0 := _q_u41_0.len
      have _hiu41_0 := _q_u41_0.lt
      refine WL_s rfl rfl ?_
      refine s_buildSlice (cs := Sv.cs) (parts := [(0, .tmp 41)]) (⟨none, 0, 0⟩ : Sv) [(⟨Au41_0, (_vs41_0).length, Cu41_0⟩ : Sv)] el66 sz67 zr67 Sv.len (by decide) rfl rfl rfl (by decide) (by decide) rfl fun _v42 _w_23 _q42 _lo42 _cw_23 => ?_
      have _cw_23z := _cw_23.size
      have E := E.trans _cw_23
      obtain ⟨_Av42, _Cv42, _ev42⟩ := _q42.val
      subst _ev42
      have _lv42 := _q42.len
      have _hiv42 := _q42.lt
      refine WL_s rfl rfl ?_
      have _f_25 := ((((_o0_6.ch0 _cw_16).ch _cw_17 (fun g hg hm => by have _h0 := List.mem_singleton.1 hm; have _h2 := _lo0_6 _ hg; have _h3 := hisv _ hg; omega)).ch0 _cw_22).ch0 _cw_23)
      refine s_append (cs := Sv.cs) el66 sz67 by67 zr67 rfl (by decide) Sv.one _f_25 _q42.ls rfl rfl (by simp only [List.length_singleton, List.length_take, List.length_drop]; omega) (by simp only [List.length_singleton, List.length_take, List.length_drop]; omega) _lo0_6 (by omega) fun _v43 _w_24 _q43 _lo43 _ap43 _cw_24 => ?_
      have _cw_24z := _cw_24.size
      have E := E.step _cw_24 (fun i hi => .inl (by have _h1 := _lo0_6 _ hi; omega))
      obtain ⟨_Av43, _Cv43, _ev43⟩ := _q43.val
      subst _ev43
      have _lv43 := _q43.len
      have _hiv43 := _q43.lt
      refine WL_step rfl rfl (r_assign rfl) ?_
      refine WL_nil ?_
      refine inB_nrm ?_
      refine inB_nrm ?_
      refine thn_nrm (_hK_12 _ _ ?_)
      clear _hK_12
      refine W_region ?_
      refine WL_step rfl rfl (r_move rfl) ?_
      refine WL_step rfl rfl (r_add (by omega) rfl rfl) ?_
      refine WL_step rfl rfl (r_assign rfl) ?_
      refine WL_nil ?_
      have _on_26 : Ol Sv.cs 67 1 _w_24 (.slice _Av43 ((vs ++ [(⟨Au41_0, (_vs41_0).length, Cu41_0⟩ : Sv)])).length _Cv43) ((vs ++ [(⟨Au41_0, (_vs41_0).length, Cu41_0⟩ : Sv)])) := by
        have hx := _q43
        exact hx
      have _f_27 := (((((ms.ch0 _cw_16).ch _cw_17 (fun i hm => by have _h1 := List.mem_singleton.1 hm; left; omega)).ch0 _cw_22).ch0 _cw_23).ch _cw_24 (fun i hm => by right; exact hm))
      have _f_28 := ((_q_u41_0.ch0 _cw_23).ch _cw_24 (fun g hg hm => by have _h1 := _lo0_6 _ hm; have _h2 := hisv _ hm; have _h3 := _lo_u41_0 _ hg; have _h4 := _hiu41_0 _ hg; omega))
      have _f_29 := ((_od_vs41_0.ch0 _cw_23).ch _cw_24 (fun i hm => by have _h1 := _lo0_6 _ hm; have _h2 := hisv _ hm; omega))
      exact thn_nrm (Exists.intro ((i + 1), (vs ++ [(⟨Au41_0, (_vs41_0).length, Cu41_0⟩ : Sv)]), s2, (.slice _Av43 ((vs ++ [(⟨Au41_0, (_vs41_0).length, Cu41_0⟩ : Sv)])).length _Cv43)) ⟨⟨E, (by omega), (by omega), (by rw [es9]; simp; omega), (by rw [es9]; simp; omega), _p2, _on_26, (Lo.down _lo43 (by omega)), (by rw [es9]; exact (RT.add _f_27 (v := (⟨Au41_0, (_vs41_0).length, Cu41_0⟩ : Sv)) (Ol.lsR _f_28 (Lo.down _lo_u41_0 (by omega)) (lo := _w_17.heap.size) (hi := _w_22.heap.size) (fun g hg => by have _h1 := _hiu41_0 g hg; omega)) (Od.rdR (_f_29.eq (by rw [em2]))) (by omega) (by omega) (fun g hm => by rcases _ap43 with ea | ea; (rw [ea] at hm; have _h1 := _lo0_6 _ hm; have _h2 := hisv _ hm; omega); (have z2hm := _hiv43 _ hm; rw [ea] at hm; have _z1 := List.mem_singleton.1 hm; omega)) (fun g hm => by rcases _ap43 with ea | ea; (rw [ea] at hm; left; exact hm); (have z2hm := _hiv43 _ hm; rw [ea] at hm; have _z1 := List.mem_singleton.1 hm; right; omega))).eq (by simp_all <;> omega))⟩, Sub.cons rfl (Sub.cons rfl (Sub.cons rfl (Sub.cons rfl (Sub.cons rfl (Sub.cons rfl (Sub.nil _)))))), (by first | omega | (dsimp only; omega))⟩)
    · have _kb_21 := _h37
      have _h37 := bf_d _h37
      refine W_seq fun _K_30 _hK_30 => ?_
      refine W_region ?_
      refine WL_step rfl rfl (r_eql rfl rfl) ?_
      refine WL_step rfl rfl (r_assign rfl) ?_
      refine WL_nil ?_
      refine thn_nrm (_hK_30 _ _ ?_)
      clear _hK_30
      refine W_cond rfl (fun _h44 => ?_) (fun _h44 => ?_)
      · have _kb_31 := _h44
        have _h44 := bt_d _h44
        have es9 := push_k0 _p1 (by unfold arK; rw [if_neg (by omega), if_neg (by omega)])
        have em3 := ml3 (w := wd) (y := _y28) (by omega)
        refine W_seq fun _K_32 _hK_32 => ?_
        refine W_region ?_
        refine WL_step rfl rfl (r_move rfl) ?_
        refine WL_s rfl rfl ?_
        refine Step.call (r_call (xs := [.tmp 46, .const (Go.Value.bool false)]) fk37 rfl) (c_spec_l9Grid (wd.length + 1) _ (by omega)) fun _v47 _w_33 _q47 => ?_
        obtain ⟨u47_0, _vs47_0, rfl, _q_u47_0, _lo_u47_0, _od_vs47_0, _sep_vs47_0, _cw_33⟩ := _q47
        have _cw_33z := _cw_33.size
        have E := E.trans _cw_33
        obtain ⟨Au47_0, Cu47_0, eu47_0⟩ := _q_u47_0.val
        subst eu47_0
        have lu47_0 := _q_u47_0.len
        have _hiu47_0 := _q_u47_0.lt
        refine WL_step rfl rfl (r_assign rfl) ?_
        refine WL_nil ?_
        refine thn_nrm (_hK_32 _ _ ?_)
        clear _hK_32
        refine W_seq fun _K_34 _hK_34 => ?_
        refine W_seq fun _K_35 _hK_35 => ?_
        refine W_region ?_
        refine WL_step rfl rfl (r_assign rfl) ?_
        refine WL_nil ?_
        refine thn_nrm (_hK_35 _ _ ?_)
        clear _hK_35
        refine W_block ?_
        have _f_36 := (((_f_15.ch0 _cw_16).ch _cw_17 (fun i hi => by have _h1 := List.mem_singleton.1 hi; omega)).ch0 _cw_33)
        have _f_37 := (((_o0_6.ch0 _cw_16).ch _cw_17 (fun g hg hm => by have _h0 := List.mem_singleton.1 hm; have _h2 := _lo0_6 _ hg; have _h3 := hisv _ hg; omega)).ch0 _cw_33)
        have _f_38 := (_m_18.ch0 _cw_33)
        have _f_39 := (((ms.ch0 _cw_16).ch _cw_17 (fun i hm => by have _h1 := List.mem_singleton.1 hm; left; omega)).ch0 _cw_33)
        refine W_loop (σ := Nat) (fun (k : Nat) => [(0, (.slice _A_l l.length _C_l)), (1, (.slice _A_wd wd.length _C_wd)), (4, (.bool false)), (5, (.int .i64 (((wd.length : Nat) : Int) + 1))), (6, (.slice Asv (vs).length Csv)), (7, (.int .i64 ((i : Nat) : Int))), (8, (.int .i64 ((vs.length : Nat) : Int))), (9, (.pointer (some ⟨_b9, 0, none⟩))), (10, (.slice Au47_0 (_vs47_0).length Cu47_0)), (11, (.int .i64 ((k : Nat) : Int))), (21, (.bool (decide (((i : Nat) : Int) < ((l.length : Nat) : Int))))), (31, (.int .i64 _y28.kind)), (37, (.bool (decide (_y28.kind = 2)))), (44, (.bool (decide (_y28.kind = 3))))]) (fun (k : Nat) wx => Ch [] w wx ∧ _w_33.heap.size ≤ wx.heap.size ∧ (k ≤ wd.length) ∧ Ls Token.cs 4 wx LL_l w.heap.size (.slice _A_l l.length _C_l) l ∧ Ol Sv.cs 67 1 wx (.slice Asv (vs).length Csv) vs ∧ Blk wx _b9 55 [(.int .i64 _y28.kind), (.int .i64 _y28.letter), (.int .i64 _y28.low), (.int .i64 _y28.high)] ∧ Ol Sv.cs 69 1 wx (.slice Au47_0 (_vs47_0).length Cu47_0) _vs47_0 ∧ RT wx _wr_8.heap.size (bl (.slice Asv (vs).length Csv)) wd vs st ∧ Od bcs 4 1 wx _w_17.heap.size _w_33.heap.size _vs47_0 (grd (wd.length + 1) (lupt _y28.letter wd k))) (fun (k : Nat) => wd.length - k) 0 (Sub.cons rfl (Sub.cons rfl (Sub.cons rfl (Sub.cons rfl (Sub.cons rfl (Sub.cons rfl (Sub.cons rfl (Sub.cons rfl (Sub.cons rfl (Sub.cons rfl (Sub.cons rfl (Sub.cons rfl (Sub.cons rfl (Sub.cons rfl (Sub.nil _))))))))))))))) ⟨E, (Nat.le_refl _), (by omega), _f_36, _f_37, _f_38, _q_u47_0, _f_39, (_od_vs47_0.eq lupt_zero)⟩ ?_
        rintro k _wr_40 ⟨E, _zz1, _hk, _F1_0, _F1_2, _F1_3, _F1_4, _F1_6, od⟩
        have _E1h := E
        have _E1hz := _E1h.size
        have _F1_3z := _F1_3.lt
        refine W_seq fun _K_41 _hK_41 => ?_
        refine W_seq fun _K_42 _hK_42 => ?_
        refine W_region ?_
        refine WL_step rfl rfl (r_move rfl) ?_
        refine WL_step rfl rfl (r_move rfl) ?_
        refine WL_step rfl rfl (r_len (by rw [el25]; rfl) rfl) ?_
        refine WL_step rfl rfl (r_lss rfl rfl) ?_
        refine WL_nil ?_
        refine thn_nrm (_hK_42 _ _ ?_)
        clear _hK_42
        refine W_cond rfl (fun _h51 => ?_) (fun _h51 => ?_)
        · have _kb_43 := _h51
          have _h51 := bt_d _h51
          refine W_skip ?_
          refine thn_nrm (_hK_41 _ _ ?_)
          clear _hK_41
          refine W_seq fun _K_44 _hK_44 => ?_
          refine W_block ?_
          have _ln954 := (od).1
          rw [grd_len] at _ln954
          obtain ⟨go954, hgo954, lso954⟩ := Ol.lsE _F1_4 (by omega)
          obtain ⟨_y954, _hy954⟩ := get_some (xs := _vs47_0) (j := k) (by omega)
          have _sm954 := _sep_vs47_0 _ (mem_of_get _hy954)
          obtain ⟨_ys954, _hys954, _fs954, _rs954⟩ := od.ownget _hy954
          obtain ⟨_A954, _n954, _C954⟩ := _y954
          obtain rfl := _fs954.ls.eqn
          have _l954 := _fs954.len
          have _lo954 : Lo _w_17.heap.size (.slice _A954 _ys954.length _C954) := fun g hg => (_rs954 g hg).1
          have hi954 : ∀ g ∈ bl (.slice _A954 _ys954.length _C954), g < _w_33.heap.size := fun g hg => (_rs954 g hg).2
          replace _fs954 : Ol bcs 4 1 _wr_40 (.slice _A954 _ys954.length _C954) _ys954 := _fs954
          have rl954 := row_len rfl _hys954
          refine W_drawC (bl (.slice _A954 _ys954.length _C954)) 15 mixed rfl fun _w_45 _cw_45 => ?_
          have _cw_45z := _cw_45.size
          have E := E.trans _cw_45
          refine DR_s 0 rfl (by kernel_rfl) rfl rfl (t_v (fun _ => (r_move rfl)) ?_)
          refine DR_s 1 rfl (by kernel_rfl) rfl rfl (t_v (fun _ => (r_move rfl)) ?_)
          have _f_46 := (lso954.ch0 _cw_45)
          refine DR_s 2 rfl (by kernel_rfl) rfl rfl (t_index _f_46 Sv.len el67 sz69 rfl rfl rfl (by omega) fun _p56 _y56 _hy56 _a56 => ?_)
          obtain rfl := get_uniq _hy954 _hy56
          replace _a56 : At _w_45 go954 (go954 + 1) _p56 ([(.slice _A954 _ys954.length _C954)]) := _a56
          refine DR_s 3 rfl (by kernel_rfl) rfl rfl (t_loadAt0 _a56 (fun i hm => ne_blk (_sm954 i hm) hgo954) agg69 rfl rfl ?_)
          refine DR_s 4 rfl (by kernel_rfl) rfl rfl (t_v (fun _ => (r_move rfl)) ?_)
          refine DR_s 5 rfl (by kernel_rfl) rfl rfl (t_v (fun _ => (r_add (by omega) rfl rfl)) ?_)
          refine DR_s 6 rfl (by kernel_rfl) rfl rfl (t_v (fun _ => (r_move rfl)) ?_)
          refine DR_s 7 rfl (by kernel_rfl) rfl rfl (t_v (fun _ => (r_move rfl)) ?_)
          have _f_47 := ((_h_wd.ch0 _E1h).ch0 _cw_45)
          refine DR_s 8 rfl (by kernel_rfl) rfl rfl (t_index _f_47 ics_len el25 sz3 rfl rfl rfl (by omega) fun _p62 _y62 _hy62 _a62 => ?_)
          refine DR_s 9 rfl (by kernel_rfl) rfl rfl (t_loadAt0 _a62 (fun i hm => by have _h1 := _lo954 _ hm; have _h2 := hi954 _ hm; omega) agg3 rfl rfl ?_)
          refine DR_s 10 rfl (by kernel_rfl) rfl rfl (t_v (fun _ => (r_fieldAddr fa55_1 rfl)) ?_)
          have _f_48 := (_F1_3.ch0 _cw_45)
          refine DR_s 11 rfl (by kernel_rfl) rfl rfl (t_loadAt _f_48.at_ (fun i hm => by have _h1 := _lo954 _ hm; have _h2 := hi954 _ hm; omega) agg3 rfl rfl ?_)
          refine DR_s 12 rfl (by kernel_rfl) rfl rfl (t_v (fun _ => (r_eql rfl rfl)) ?_)
          refine DR_one 13 (by kernel_rfl) ?_
          refine DO_s rfl rfl rfl ?_
          have _f_49 := (_fs954.ch0 _cw_45)
          refine s_indexO (j := (k + 1)) _f_49 el69 sz4 rfl rfl rfl (by first | omega | (simp; omega)) fun _g67 _o67 _cp67 _q67 => ?_
          refine ⟨(Ch.refl _ _), ?_⟩
          refine DR_one 14 (by kernel_rfl) ?_
          refine DO_s rfl rfl rfl ?_
          refine s_storeO (j := (k + 1)) (decide (_y62 = _y28.letter)) _f_49 _q67 bcs_len sz4 rfl rfl rfl rfl (by first | omega | (simp; omega)) fun _w_50 _o_51 _cw_50 => ?_
          have _f_52 := (od.ch0 _cw_45)
          have _cw_50z := _cw_50.size
          have E := E.step _cw_50 (fun i hi => .inl (by have _h1 := _lo954 _ hi; omega))
          have _od_53 := Od.set _f_52 _hy954 _hys954 _cw_50 _o_51
          have _S_54 : Ch (bl (.slice _A954 _ys954.length _C954)) _w_45 _w_50 := ((Ch.refl _ _).step _cw_50 (fun i hm => by exact .inr hm))
          refine ⟨_S_54, ?_⟩
          refine DR_done (by kernel_rfl) ?_
          refine inB_nrm ?_
          refine thn_nrm (_hK_44 _ _ ?_)
          clear _hK_44
          refine W_region ?_
          refine WL_step rfl rfl (r_move rfl) ?_
          refine WL_step rfl rfl (r_add (by omega) rfl rfl) ?_
          refine WL_step rfl rfl (r_assign rfl) ?_
          refine WL_nil ?_
          have _f_55 := ((_F1_0.ch0 _cw_45).ch _cw_50 (fun i hi => by have _h1 := _lo954 _ hi; omega))
          have _f_56 := ((_F1_2.ch0 _cw_45).ch _cw_50 (fun g hg hm => by have _h1 := _lo954 _ hm; have _h2 := hi954 _ hm; have _h3 := _lo0_6 _ hg; have _h4 := hisv _ hg; omega))
          have _f_57 := (_f_48.ch _cw_50 (fun hm => by have _h1 := _lo954 _ hm; have _h2 := hi954 _ hm; omega))
          have _f_58 := ((_F1_4.ch0 _cw_45).ch _cw_50 (fun g hg hm => by exact _sm954 _ hm hg))
          have _f_59 := ((_F1_6.ch0 _cw_45).ch _cw_50 (fun i hm => by have _h1 := _lo954 _ hm; have _h2 := hi954 _ hm; left; omega))
          exact thn_nrm (Exists.intro (k + 1) ⟨⟨E, (by omega), (by omega), _f_55, _f_56, _f_57, _f_58, _f_59, (_od_53.eq (lupt_step rfl _hys954 _hy62 rfl))⟩, Sub.cons rfl (Sub.cons rfl (Sub.cons rfl (Sub.cons rfl (Sub.cons rfl (Sub.cons rfl (Sub.cons rfl (Sub.cons rfl (Sub.cons rfl (Sub.cons rfl (Sub.cons rfl (Sub.cons rfl (Sub.cons rfl (Sub.cons rfl (Sub.nil _)))))))))))))), (by first | omega | (dsimp only; omega))⟩)
        · have _kb_43 := _h51
          have _h51 := bf_d _h51
          refine W_exit (thn_exit (thn_exit (inB_hit ?_)))
          refine thn_nrm (_hK_34 _ _ ?_)
          clear _hK_34
          refine W_region ?_
          refine WL_step rfl rfl (r_move rfl) ?_
          refine WL_step rfl rfl (r_move rfl) ?_
          refine WL_s rfl rfl ?_
          refine s_buildSlice (cs := Sv.cs) (parts := [(0, .tmp 69)]) (⟨none, 0, 0⟩ : Sv) [(⟨Au47_0, (_vs47_0).length, Cu47_0⟩ : Sv)] el66 sz67 zr67 Sv.len (by decide) rfl rfl rfl (by decide) (by decide) rfl fun _v70 _w_60 _q70 _lo70 _cw_60 => ?_
          have _cw_60z := _cw_60.size
          have E := E.trans _cw_60
          obtain ⟨_Av70, _Cv70, _ev70⟩ := _q70.val
          subst _ev70
          have _lv70 := _q70.len
          have _hiv70 := _q70.lt
          refine WL_s rfl rfl ?_
          have _f_62 := (_F1_2.ch0 _cw_60)
          refine s_append (cs := Sv.cs) el66 sz67 by67 zr67 rfl (by decide) Sv.one _f_62 _q70.ls rfl rfl (by simp only [List.length_singleton, List.length_take, List.length_drop]; omega) (by simp only [List.length_singleton, List.length_take, List.length_drop]; omega) _lo0_6 (by omega) fun _v71 _w_61 _q71 _lo71 _ap71 _cw_61 => ?_
          have _cw_61z := _cw_61.size
          have E := E.step _cw_61 (fun i hi => .inl (by have _h1 := _lo0_6 _ hi; omega))
          obtain ⟨_Av71, _Cv71, _ev71⟩ := _q71.val
          subst _ev71
          have _lv71 := _q71.len
          have _hiv71 := _q71.lt
          refine WL_step rfl rfl (r_assign rfl) ?_
          refine WL_nil ?_
          refine inB_nrm ?_
          refine inB_nrm ?_
          refine thn_nrm (_hK_12 _ _ ?_)
          clear _hK_12
          refine W_region ?_
          refine WL_step rfl rfl (r_move rfl) ?_
          refine WL_step rfl rfl (r_add (by omega) rfl rfl) ?_
          refine WL_step rfl rfl (r_assign rfl) ?_
          refine WL_nil ?_
          have _on_63 : Ol Sv.cs 67 1 _w_61 (.slice _Av71 ((vs ++ [(⟨Au47_0, (_vs47_0).length, Cu47_0⟩ : Sv)])).length _Cv71) ((vs ++ [(⟨Au47_0, (_vs47_0).length, Cu47_0⟩ : Sv)])) := by
            have hx := _q71
            exact hx
          have _f_64 := ((_F1_6.ch0 _cw_60).ch _cw_61 (fun i hm => by right; exact hm))
          have _f_65 := ((_F1_4.ch0 _cw_60).ch _cw_61 (fun g hg hm => by have _h1 := _lo0_6 _ hm; have _h2 := hisv _ hm; have _h3 := _lo_u47_0 _ hg; have _h4 := _hiu47_0 _ hg; omega))
          have _f_66 := ((od.ch0 _cw_60).ch _cw_61 (fun i hm => by have _h1 := _lo0_6 _ hm; have _h2 := hisv _ hm; omega))
          exact thn_nrm (Exists.intro ((i + 1), (vs ++ [(⟨Au47_0, (_vs47_0).length, Cu47_0⟩ : Sv)]), s2, (.slice _Av71 ((vs ++ [(⟨Au47_0, (_vs47_0).length, Cu47_0⟩ : Sv)])).length _Cv71)) ⟨⟨E, (by omega), (by omega), (by rw [es9]; simp; omega), (by rw [es9]; simp; omega), _p2, _on_63, (Lo.down _lo71 (by omega)), (by rw [es9]; exact (RT.add _f_64 (v := (⟨Au47_0, (_vs47_0).length, Cu47_0⟩ : Sv)) (Ol.lsR _f_65 (Lo.down _lo_u47_0 (by omega)) (lo := _w_17.heap.size) (hi := _w_33.heap.size) (fun g hg => by have _h1 := _hiu47_0 g hg; omega)) (Od.rdR (_f_66.eq (by rw [em3]; exact lupt_all rfl (by omega)))) (by omega) (by omega) (fun g hm => by rcases _ap71 with ea | ea; (rw [ea] at hm; have _h1 := _lo0_6 _ hm; have _h2 := hisv _ hm; omega); (have z2hm := _hiv71 _ hm; rw [ea] at hm; have _z1 := List.mem_singleton.1 hm; omega)) (fun g hm => by rcases _ap71 with ea | ea; (rw [ea] at hm; left; exact hm); (have z2hm := _hiv71 _ hm; rw [ea] at hm; have _z1 := List.mem_singleton.1 hm; right; omega))).eq (by simp_all <;> omega))⟩, Sub.cons rfl (Sub.cons rfl (Sub.cons rfl (Sub.cons rfl (Sub.cons rfl (Sub.cons rfl (Sub.nil _)))))), (by first | omega | (dsimp only; omega))⟩)
      · have _kb_31 := _h44
        have _h44 := bf_d _h44
        refine W_seq fun _K_67 _hK_67 => ?_
        refine W_region ?_
        refine WL_step rfl rfl (r_eql rfl rfl) ?_
        refine WL_step rfl rfl (r_assign rfl) ?_
        refine WL_nil ?_
        refine thn_nrm (_hK_67 _ _ ?_)
        clear _hK_67
        refine W_cond rfl (fun _h72 => ?_) (fun _h72 => ?_)
        · have _kb_68 := _h72
          have _h72 := bt_d _h72
          obtain ⟨ta, tb, r9, _e9, es9⟩ := push_k2 _p1 (by unfold arK; rw [if_pos (by omega)])
          subst _e9
          simp only [List.length_cons] at hl hs
          have em4 := ml4 (w := wd) (a := ta) (b := tb) (y := _y28) (by omega)
          refine W_seq fun _K_69 _hK_69 => ?_
          refine W_drawC [] 12 mixed rfl fun _w_70 _cw_70 => ?_
          have _cw_70z := _cw_70.size
          have E := E.trans _cw_70
          refine DR_s 0 rfl (by kernel_rfl) rfl rfl (t_v (fun _ => (r_move rfl)) ?_)
          refine DR_s 1 rfl (by kernel_rfl) rfl rfl (t_v (fun _ => (r_move rfl)) ?_)
          refine DR_s 2 rfl (by kernel_rfl) rfl rfl (t_v (fun _ => (r_sub (by omega) rfl rfl)) ?_)
          have _f_71 := (((_o0_6.ch0 _cw_16).ch _cw_17 (fun g hg hm => by have _h0 := List.mem_singleton.1 hm; have _h2 := _lo0_6 _ hg; have _h3 := hisv _ hg; omega)).ch0 _cw_70)
          have _f_72 := (((ms.ch0 _cw_16).ch _cw_17 (fun i hm => by have _h1 := List.mem_singleton.1 hm; left; omega)).ch0 _cw_70)
          refine DR_s 3 rfl (by kernel_rfl) rfl rfl (t_index (j := (((vs.length : Nat) : Int) - 2).toNat) _f_71.ls Sv.len el66 sz67 rfl rfl (by omega) (by omega) fun _p77 _y77 _hy77 _a77 => ?_)
          obtain ⟨tm77, us77, ml77, mh77, ht77, _fs77, _rd77, mb77⟩ := RT.get _f_72 _hy77
          obtain ⟨_A77, _n77, _C77⟩ := _y77
          obtain rfl := _fs77.eqn
          have _l77 := _fs77.len
          replace _fs77 : Ls Sv.cs 1 _w_70 ml77 mh77 (.slice _A77 us77.length _C77) us77 := _fs77
          obtain rfl := (top2 (by omega) ht77).symm
          replace _a77 : At _w_70 0 _w_70.heap.size _p77 ([(.slice _A77 us77.length _C77)]) := _a77
          refine DR_s 4 rfl (by kernel_rfl) rfl rfl (t_loadAt0 _a77 (fun i hi => absurd hi List.not_mem_nil) agg67 rfl rfl ?_)
          refine DR_s 5 rfl (by kernel_rfl) rfl rfl (t_v (fun _ => (r_move rfl)) ?_)
          refine DR_s 6 rfl (by kernel_rfl) rfl rfl (t_v (fun _ => (r_move rfl)) ?_)
          refine DR_s 7 rfl (by kernel_rfl) rfl rfl (t_v (fun _ => (r_sub (by omega) rfl rfl)) ?_)
          refine DR_s 8 rfl (by kernel_rfl) rfl rfl (t_index (j := (((vs.length : Nat) : Int) - 1).toNat) _f_71.ls Sv.len el66 sz67 rfl rfl (by omega) (by omega) fun _p82 _y82 _hy82 _a82 => ?_)
          obtain ⟨tm82, us82, ml82, mh82, ht82, _fs82, _rd82, mb82⟩ := RT.get _f_72 _hy82
          obtain ⟨_A82, _n82, _C82⟩ := _y82
          obtain rfl := _fs82.eqn
          have _l82 := _fs82.len
          replace _fs82 : Ls Sv.cs 1 _w_70 ml82 mh82 (.slice _A82 us82.length _C82) us82 := _fs82
          obtain rfl := (top1 (by first | omega | (simp only [List.length_cons]; omega)) ht82).symm
          replace _a82 : At _w_70 0 _w_70.heap.size _p82 ([(.slice _A82 us82.length _C82)]) := _a82
          refine DR_s 9 rfl (by kernel_rfl) rfl rfl (t_loadAt0 _a82 (fun i hi => absurd hi List.not_mem_nil) agg67 rfl rfl ?_)
          refine DR_one 10 (by kernel_rfl) ?_
          refine DO_s rfl rfl rfl ?_
          refine Step.call (r_call (xs := [.tmp 78, .tmp 83]) fk38 rfl) (c_spec_l9Joined _fs77 _rd77 _fs82 _rd82 (wd.length + 1) (mtT wd ta) (mtT wd tb) rfl rfl (mt_tri _ _) (mt_tri _ _) (by omega)) fun _v84 _w_73 _q84 => ?_
          obtain ⟨u84_0, _vs84_0, rfl, _q_u84_0, _lo_u84_0, _od_vs84_0, _sep_vs84_0, _cw_73⟩ := _q84
          have _cw_73z := _cw_73.size
          have E := E.trans _cw_73
          obtain ⟨Au84_0, Cu84_0, eu84_0⟩ := _q_u84_0.val
          subst eu84_0
          have lu84_0 := _q_u84_0.len
          have _hiu84_0 := _q_u84_0.lt
          have _S_74 : Ch [] _w_70 _w_73 := ((Ch.refl _ _).trans _cw_73)
          refine ⟨_S_74, ?_⟩
          refine DR_s 11 rfl (by kernel_rfl) rfl rfl (t_v (fun _ => (r_assign rfl)) ?_)
          refine DR_done (by kernel_rfl) ?_
          refine thn_nrm (_hK_69 _ _ ?_)
          clear _hK_69
          refine W_region ?_
          refine WL_step rfl rfl (r_move rfl) ?_
          refine WL_step rfl rfl (r_move rfl) ?_
          refine WL_step rfl rfl (r_sub (by omega) rfl rfl) ?_
          refine WL_s rfl rfl ?_
          have _f_75 := (_f_71.ch0 _cw_73)
          refine (s_cutO (ys := (vs.take ((((vs.length : Nat) : Int) - 2).toNat))) 0 ((((vs.length : Nat) : Int) - 2).toNat) _f_75 Sv.len el66 sz67 rfl rfl ⟨_, _, rfl, by omega⟩ (by omega) (by omega) rfl fun _v88 _q88 _bb88 _ln88 => ?_)
          obtain ⟨_A88, _C88, _e88⟩ := _q88.val
          subst _e88
          have _l88 := _q88.len
          have hi88 := _q88.lt
          refine WL_step rfl rfl (r_move rfl) ?_
          refine WL_s rfl rfl ?_
          refine s_buildSlice (cs := Sv.cs) (parts := [(0, .tmp 89)]) (⟨none, 0, 0⟩ : Sv) [(⟨Au84_0, (_vs84_0).length, Cu84_0⟩ : Sv)] el66 sz67 zr67 Sv.len (by decide) rfl rfl rfl (by decide) (by decide) rfl fun _v90 _w_76 _q90 _lo90 _cw_76 => ?_
          have _cw_76z := _cw_76.size
          have E := E.trans _cw_76
          obtain ⟨_Av90, _Cv90, _ev90⟩ := _q90.val
          subst _ev90
          have _lv90 := _q90.len
          have _hiv90 := _q90.lt
          refine WL_s rfl rfl ?_
          have _f_78 := (_q88.ch0 _cw_76)
          refine s_append (cs := Sv.cs) el66 sz67 by67 zr67 rfl (by decide) Sv.one _f_78 _q90.ls rfl rfl (by simp only [List.length_singleton, List.length_take, List.length_drop]; omega) (by simp only [List.length_singleton, List.length_take, List.length_drop]; omega) (fun g hg => _lo0_6 g (_bb88 ▸ hg)) (by omega) fun _v91 _w_77 _q91 _lo91 _ap91 _cw_77 => ?_
          have _cw_77z := _cw_77.size
          have E := E.step _cw_77 (fun i hi => .inl (by have _h1 := (fun g hg => _lo0_6 g (_bb88 ▸ hg)) _ hi; omega))
          obtain ⟨_Av91, _Cv91, _ev91⟩ := _q91.val
          subst _ev91
          have _lv91 := _q91.len
          have _hiv91 := _q91.lt
          refine WL_step rfl rfl (r_assign rfl) ?_
          refine WL_nil ?_
          refine inB_nrm ?_
          refine inB_nrm ?_
          refine thn_nrm (_hK_12 _ _ ?_)
          clear _hK_12
          refine W_region ?_
          refine WL_step rfl rfl (r_move rfl) ?_
          refine WL_step rfl rfl (r_add (by omega) rfl rfl) ?_
          refine WL_step rfl rfl (r_assign rfl) ?_
          refine WL_nil ?_
          have _on_79 : Ol Sv.cs 67 1 _w_77 (.slice _Av91 (((vs.take ((((vs.length : Nat) : Int) - 2).toNat)) ++ [(⟨Au84_0, (_vs84_0).length, Cu84_0⟩ : Sv)])).length _Cv91) (((vs.take ((((vs.length : Nat) : Int) - 2).toNat)) ++ [(⟨Au84_0, (_vs84_0).length, Cu84_0⟩ : Sv)])) := by
            have hx := _q91
            exact hx
          have _f_80 := (((_f_72.ch0 _cw_73).ch0 _cw_76).ch _cw_77 (fun i hm => by rw [_bb88] at hm; right; exact hm))
          have _f_81 := ((_q_u84_0.ch0 _cw_76).ch _cw_77 (fun g hg hm => by rw [_bb88] at hm; have _h1 := _lo0_6 _ hm; have _h2 := hisv _ hm; have _h3 := _lo_u84_0 _ hg; have _h4 := _hiu84_0 _ hg; omega))
          have _f_82 := ((_od_vs84_0.ch0 _cw_76).ch _cw_77 (fun i hm => by rw [_bb88] at hm; have _h1 := _lo0_6 _ hm; have _h2 := hisv _ hm; omega))
          exact thn_nrm (Exists.intro ((i + 1), ((vs.take ((((vs.length : Nat) : Int) - 2).toNat)) ++ [(⟨Au84_0, (_vs84_0).length, Cu84_0⟩ : Sv)]), s2, (.slice _Av91 (((vs.take ((((vs.length : Nat) : Int) - 2).toNat)) ++ [(⟨Au84_0, (_vs84_0).length, Cu84_0⟩ : Sv)])).length _Cv91)) ⟨⟨E, (by omega), (by omega), (by rw [es9]; simp; omega), (by rw [es9]; simp; omega), _p2, _on_79, (Lo.down _lo91 (by omega)), (by rw [es9]; exact (RT.add (RT.take _f_80 (k := 2) (by simp)) (v := (⟨Au84_0, (_vs84_0).length, Cu84_0⟩ : Sv)) (Ol.lsR _f_81 (Lo.down _lo_u84_0 (by omega)) (lo := _w_70.heap.size) (hi := _w_73.heap.size) (fun g hg => by have _h1 := _hiu84_0 g hg; omega)) (Od.rdR (_f_82.eq (by rw [em4]))) (by omega) (by omega) (fun g hm => by rcases _ap91 with ea | ea; (rw [ea] at hm; rw [_bb88] at hm; have _h1 := _lo0_6 _ hm; have _h2 := hisv _ hm; omega); (have z2hm := _hiv91 _ hm; rw [ea] at hm; have _z1 := List.mem_singleton.1 hm; omega)) (fun g hm => by rcases _ap91 with ea | ea; (rw [ea] at hm; rw [_bb88] at hm; left; exact hm); (have z2hm := _hiv91 _ hm; rw [ea] at hm; have _z1 := List.mem_singleton.1 hm; right; omega))).eq (by simp_all <;> omega))⟩, Sub.cons rfl (Sub.cons rfl (Sub.cons rfl (Sub.cons rfl (Sub.cons rfl (Sub.cons rfl (Sub.nil _)))))), (by first | omega | (dsimp only; omega))⟩)
        · have _kb_68 := _h72
          have _h72 := bf_d _h72
          refine W_seq fun _K_83 _hK_83 => ?_
          refine W_region ?_
          refine WL_step rfl rfl (r_eql rfl rfl) ?_
          refine WL_step rfl rfl (r_assign rfl) ?_
          refine WL_nil ?_
          refine thn_nrm (_hK_83 _ _ ?_)
          clear _hK_83
          refine W_cond rfl (fun _h92 => ?_) (fun _h92 => ?_)
          · have _kb_84 := _h92
            have _h92 := bt_d _h92
            obtain ⟨ta, tb, r9, _e9, es9⟩ := push_k2 _p1 (by unfold arK; rw [if_pos (by omega)])
            subst _e9
            simp only [List.length_cons] at hl hs
            have em5 := ml5 (w := wd) (a := ta) (b := tb) (y := _y28) (by omega)
            refine W_seq fun _K_85 _hK_85 => ?_
            refine W_drawC [] 12 mixed rfl fun _w_86 _cw_86 => ?_
            have _cw_86z := _cw_86.size
            have E := E.trans _cw_86
            refine DR_s 0 rfl (by kernel_rfl) rfl rfl (t_v (fun _ => (r_move rfl)) ?_)
            refine DR_s 1 rfl (by kernel_rfl) rfl rfl (t_v (fun _ => (r_move rfl)) ?_)
            refine DR_s 2 rfl (by kernel_rfl) rfl rfl (t_v (fun _ => (r_sub (by omega) rfl rfl)) ?_)
            have _f_87 := (((_o0_6.ch0 _cw_16).ch _cw_17 (fun g hg hm => by have _h0 := List.mem_singleton.1 hm; have _h2 := _lo0_6 _ hg; have _h3 := hisv _ hg; omega)).ch0 _cw_86)
            have _f_88 := (((ms.ch0 _cw_16).ch _cw_17 (fun i hm => by have _h1 := List.mem_singleton.1 hm; left; omega)).ch0 _cw_86)
            refine DR_s 3 rfl (by kernel_rfl) rfl rfl (t_index (j := (((vs.length : Nat) : Int) - 2).toNat) _f_87.ls Sv.len el66 sz67 rfl rfl (by omega) (by omega) fun _p97 _y97 _hy97 _a97 => ?_)
            obtain ⟨tm97, us97, ml97, mh97, ht97, _fs97, _rd97, mb97⟩ := RT.get _f_88 _hy97
            obtain ⟨_A97, _n97, _C97⟩ := _y97
            obtain rfl := _fs97.eqn
            have _l97 := _fs97.len
            replace _fs97 : Ls Sv.cs 1 _w_86 ml97 mh97 (.slice _A97 us97.length _C97) us97 := _fs97
            obtain rfl := (top2 (by omega) ht97).symm
            replace _a97 : At _w_86 0 _w_86.heap.size _p97 ([(.slice _A97 us97.length _C97)]) := _a97
            refine DR_s 4 rfl (by kernel_rfl) rfl rfl (t_loadAt0 _a97 (fun i hi => absurd hi List.not_mem_nil) agg67 rfl rfl ?_)
            refine DR_s 5 rfl (by kernel_rfl) rfl rfl (t_v (fun _ => (r_move rfl)) ?_)
            refine DR_s 6 rfl (by kernel_rfl) rfl rfl (t_v (fun _ => (r_move rfl)) ?_)
            refine DR_s 7 rfl (by kernel_rfl) rfl rfl (t_v (fun _ => (r_sub (by omega) rfl rfl)) ?_)
            refine DR_s 8 rfl (by kernel_rfl) rfl rfl (t_index (j := (((vs.length : Nat) : Int) - 1).toNat) _f_87.ls Sv.len el66 sz67 rfl rfl (by omega) (by omega) fun _p102 _y102 _hy102 _a102 => ?_)
            obtain ⟨tm102, us102, ml102, mh102, ht102, _fs102, _rd102, mb102⟩ := RT.get _f_88 _hy102
            obtain ⟨_A102, _n102, _C102⟩ := _y102
            obtain rfl := _fs102.eqn
            have _l102 := _fs102.len
            replace _fs102 : Ls Sv.cs 1 _w_86 ml102 mh102 (.slice _A102 us102.length _C102) us102 := _fs102
            obtain rfl := (top1 (by first | omega | (simp only [List.length_cons]; omega)) ht102).symm
            replace _a102 : At _w_86 0 _w_86.heap.size _p102 ([(.slice _A102 us102.length _C102)]) := _a102
            refine DR_s 9 rfl (by kernel_rfl) rfl rfl (t_loadAt0 _a102 (fun i hi => absurd hi List.not_mem_nil) agg67 rfl rfl ?_)
            refine DR_one 10 (by kernel_rfl) ?_
            refine DO_s rfl rfl rfl ?_
            refine Step.call (r_call (xs := [.tmp 98, .tmp 103]) fk39 rfl) (c_spec_l9Either _fs97 _rd97 _fs102 _rd102 (wd.length + 1) (mtT wd ta) (mtT wd tb) rfl rfl (mt_tri _ _) (mt_tri _ _) (by omega)) fun _v104 _w_89 _q104 => ?_
            obtain ⟨u104_0, _vs104_0, rfl, _q_u104_0, _lo_u104_0, _od_vs104_0, _sep_vs104_0, _cw_89⟩ := _q104
            have _cw_89z := _cw_89.size
            have E := E.trans _cw_89
            obtain ⟨Au104_0, Cu104_0, eu104_0⟩ := _q_u104_0.val
            subst eu104_0
            have lu104_0 := _q_u104_0.len
            have _hiu104_0 := _q_u104_0.lt
            have _S_90 : Ch [] _w_86 _w_89 := ((Ch.refl _ _).trans _cw_89)
            refine ⟨_S_90, ?_⟩
            refine DR_s 11 rfl (by kernel_rfl) rfl rfl (t_v (fun _ => (r_assign rfl)) ?_)
            refine DR_done (by kernel_rfl) ?_
            refine thn_nrm (_hK_85 _ _ ?_)
            clear _hK_85
            refine W_region ?_
            refine WL_step rfl rfl (r_move rfl) ?_
            refine WL_step rfl rfl (r_move rfl) ?_
            refine WL_step rfl rfl (r_sub (by omega) rfl rfl) ?_
            refine WL_s rfl rfl ?_
            have _f_91 := (_f_87.ch0 _cw_89)
            refine (s_cutO (ys := (vs.take ((((vs.length : Nat) : Int) - 2).toNat))) 0 ((((vs.length : Nat) : Int) - 2).toNat) _f_91 Sv.len el66 sz67 rfl rfl ⟨_, _, rfl, by omega⟩ (by omega) (by omega) rfl fun _v108 _q108 _bb108 _ln108 => ?_)
            obtain ⟨_A108, _C108, _e108⟩ := _q108.val
            subst _e108
            have _l108 := _q108.len
            have hi108 := _q108.lt
            refine WL_step rfl rfl (r_move rfl) ?_
            refine WL_s rfl rfl ?_
            refine s_buildSlice (cs := Sv.cs) (parts := [(0, .tmp 109)]) (⟨none, 0, 0⟩ : Sv) [(⟨Au104_0, (_vs104_0).length, Cu104_0⟩ : Sv)] el66 sz67 zr67 Sv.len (by decide) rfl rfl rfl (by decide) (by decide) rfl fun _v110 _w_92 _q110 _lo110 _cw_92 => ?_
            have _cw_92z := _cw_92.size
            have E := E.trans _cw_92
            obtain ⟨_Av110, _Cv110, _ev110⟩ := _q110.val
            subst _ev110
            have _lv110 := _q110.len
            have _hiv110 := _q110.lt
            refine WL_s rfl rfl ?_
            have _f_94 := (_q108.ch0 _cw_92)
            refine s_append (cs := Sv.cs) el66 sz67 by67 zr67 rfl (by decide) Sv.one _f_94 _q110.ls rfl rfl (by simp only [List.length_singleton, List.length_take, List.length_drop]; omega) (by simp only [List.length_singleton, List.length_take, List.length_drop]; omega) (fun g hg => _lo0_6 g (_bb108 ▸ hg)) (by omega) fun _v111 _w_93 _q111 _lo111 _ap111 _cw_93 => ?_
            have _cw_93z := _cw_93.size
            have E := E.step _cw_93 (fun i hi => .inl (by have _h1 := (fun g hg => _lo0_6 g (_bb108 ▸ hg)) _ hi; omega))
            obtain ⟨_Av111, _Cv111, _ev111⟩ := _q111.val
            subst _ev111
            have _lv111 := _q111.len
            have _hiv111 := _q111.lt
            refine WL_step rfl rfl (r_assign rfl) ?_
            refine WL_nil ?_
            refine inB_nrm ?_
            refine inB_nrm ?_
            refine thn_nrm (_hK_12 _ _ ?_)
            clear _hK_12
            refine W_region ?_
            refine WL_step rfl rfl (r_move rfl) ?_
            refine WL_step rfl rfl (r_add (by omega) rfl rfl) ?_
            refine WL_step rfl rfl (r_assign rfl) ?_
            refine WL_nil ?_
            have _on_95 : Ol Sv.cs 67 1 _w_93 (.slice _Av111 (((vs.take ((((vs.length : Nat) : Int) - 2).toNat)) ++ [(⟨Au104_0, (_vs104_0).length, Cu104_0⟩ : Sv)])).length _Cv111) (((vs.take ((((vs.length : Nat) : Int) - 2).toNat)) ++ [(⟨Au104_0, (_vs104_0).length, Cu104_0⟩ : Sv)])) := by
              have hx := _q111
              exact hx
            have _f_96 := (((_f_88.ch0 _cw_89).ch0 _cw_92).ch _cw_93 (fun i hm => by rw [_bb108] at hm; right; exact hm))
            have _f_97 := ((_q_u104_0.ch0 _cw_92).ch _cw_93 (fun g hg hm => by rw [_bb108] at hm; have _h1 := _lo0_6 _ hm; have _h2 := hisv _ hm; have _h3 := _lo_u104_0 _ hg; have _h4 := _hiu104_0 _ hg; omega))
            have _f_98 := ((_od_vs104_0.ch0 _cw_92).ch _cw_93 (fun i hm => by rw [_bb108] at hm; have _h1 := _lo0_6 _ hm; have _h2 := hisv _ hm; omega))
            exact thn_nrm (Exists.intro ((i + 1), ((vs.take ((((vs.length : Nat) : Int) - 2).toNat)) ++ [(⟨Au104_0, (_vs104_0).length, Cu104_0⟩ : Sv)]), s2, (.slice _Av111 (((vs.take ((((vs.length : Nat) : Int) - 2).toNat)) ++ [(⟨Au104_0, (_vs104_0).length, Cu104_0⟩ : Sv)])).length _Cv111)) ⟨⟨E, (by omega), (by omega), (by rw [es9]; simp; omega), (by rw [es9]; simp; omega), _p2, _on_95, (Lo.down _lo111 (by omega)), (by rw [es9]; exact (RT.add (RT.take _f_96 (k := 2) (by simp)) (v := (⟨Au104_0, (_vs104_0).length, Cu104_0⟩ : Sv)) (Ol.lsR _f_97 (Lo.down _lo_u104_0 (by omega)) (lo := _w_86.heap.size) (hi := _w_89.heap.size) (fun g hg => by have _h1 := _hiu104_0 g hg; omega)) (Od.rdR (_f_98.eq (by rw [em5]))) (by omega) (by omega) (fun g hm => by rcases _ap111 with ea | ea; (rw [ea] at hm; rw [_bb108] at hm; have _h1 := _lo0_6 _ hm; have _h2 := hisv _ hm; omega); (have z2hm := _hiv111 _ hm; rw [ea] at hm; have _z1 := List.mem_singleton.1 hm; omega)) (fun g hm => by rcases _ap111 with ea | ea; (rw [ea] at hm; rw [_bb108] at hm; left; exact hm); (have z2hm := _hiv111 _ hm; rw [ea] at hm; have _z1 := List.mem_singleton.1 hm; right; omega))).eq (by simp_all <;> omega))⟩, Sub.cons rfl (Sub.cons rfl (Sub.cons rfl (Sub.cons rfl (Sub.cons rfl (Sub.cons rfl (Sub.nil _)))))), (by first | omega | (dsimp only; omega))⟩)
          · have _kb_84 := _h92
            have _h92 := bf_d _h92
            refine W_seq fun _K_99 _hK_99 => ?_
            refine W_region ?_
            refine WL_step rfl rfl (r_eql rfl rfl) ?_
            refine WL_step rfl rfl (r_assign rfl) ?_
            refine WL_nil ?_
            refine thn_nrm (_hK_99 _ _ ?_)
            clear _hK_99
            refine W_cond rfl (fun _h112 => ?_) (fun _h112 => ?_)
            · have _kb_100 := _h112
              have _h112 := bt_d _h112
              obtain ⟨ta, r9, _e9, es9⟩ := push_k1 _p1 (by unfold arK; rw [if_neg (by omega), if_pos (by omega)])
              subst _e9
              simp only [List.length_cons] at hl hs
              have em6 := ml6 (w := wd) (a := ta) (y := _y28) (by omega)
              refine W_region ?_
              refine WL_step rfl rfl (r_move rfl) ?_
              refine WL_step rfl rfl (r_move rfl) ?_
              refine WL_step rfl rfl (r_sub (by omega) rfl rfl) ?_
              refine WL_step rfl rfl (r_move rfl) ?_
              refine WL_step rfl rfl (r_move rfl) ?_
              refine WL_step rfl rfl (r_sub (by omega) rfl rfl) ?_
              refine WL_s rfl rfl ?_
              have _f_101 := ((_o0_6.ch0 _cw_16).ch _cw_17 (fun g hg hm => by have _h0 := List.mem_singleton.1 hm; have _h2 := _lo0_6 _ hg; have _h3 := hisv _ hg; omega))
              refine (s_index (j := (((vs.length : Nat) : Int) - 1).toNat) _f_101.ls Sv.len el66 sz67 rfl rfl (by omega) (by omega) fun _p120 _y120 _hy120 _a120 => ?_)
              have _f_102 := ((ms.ch0 _cw_16).ch _cw_17 (fun i hm => by have _h1 := List.mem_singleton.1 hm; left; omega))
              obtain ⟨tm120, us120, ml120, mh120, ht120, _fs120, _rd120, mb120⟩ := RT.get _f_102 _hy120
              obtain ⟨_A120, _n120, _C120⟩ := _y120
              obtain rfl := _fs120.eqn
              have _l120 := _fs120.len
              replace _fs120 : Ls Sv.cs 1 _w_17 ml120 mh120 (.slice _A120 us120.length _C120) us120 := _fs120
              obtain rfl := (top1 (by first | omega | (simp only [List.length_cons]; omega)) ht120).symm
              replace _a120 : At _w_17 0 _w_17.heap.size _p120 ([(.slice _A120 us120.length _C120)]) := _a120
              refine WL_step rfl rfl (r_loadAt0 _a120 agg67 rfl rfl) ?_
              refine WL_step rfl rfl (r_move rfl) ?_
              refine WL_step rfl rfl (r_len (by rw [el25]; rfl) rfl) ?_
              refine WL_s rfl rfl ?_
              refine Step.call (r_call (xs := [.tmp 121, .const (Go.Value.int Go.IntKind.i64 0), .tmp 123]) fk40 rfl) (c_spec_l9Repeated _fs120 _rd120 _ _ (wd.length + 1) (mtT wd ta) rfl (mt_tri _ _) (by omega) (by omega)) fun _v124 _w_103 _q124 => ?_
              obtain ⟨u124_0, _vs124_0, rfl, _q_u124_0, _lo_u124_0, _od_vs124_0, _sep_vs124_0, _cw_103⟩ := _q124
              have _cw_103z := _cw_103.size
              have E := E.trans _cw_103
              obtain ⟨Au124_0, Cu124_0, eu124_0⟩ := _q_u124_0.val
              subst eu124_0
              have lu124_0 := _q_u124_0.len
              have _hiu124_0 := _q_u124_0.lt
              refine WL_s rfl rfl ?_
              have _f_104 := (_f_101.ch0 _cw_103)
              refine s_indexO (j := (((vs.length : Nat) : Int) - 1).toNat) _f_104 el66 sz67 rfl rfl (by omega) (by first | omega | (simp; omega)) fun _g125 _o125 _cp125 _q125 => ?_
              refine WL_s rfl rfl ?_
              refine s_storeO (j := (((vs.length : Nat) : Int) - 1).toNat) (⟨Au124_0, (_vs124_0).length, Cu124_0⟩ : Sv) _f_104 _q125 Sv.len sz67 rfl rfl rfl rfl (by first | omega | (simp; omega)) fun _w_105 _o_106 _cw_105 => ?_
              have _cw_105z := _cw_105.size
              have E := E.step _cw_105 (fun i hi => .inl (by have _h1 := _lo0_6 _ hi; omega))
              refine WL_nil ?_
              refine inB_nrm ?_
              refine inB_nrm ?_
              refine thn_nrm (_hK_12 _ _ ?_)
              clear _hK_12
              refine W_region ?_
              refine WL_step rfl rfl (r_move rfl) ?_
              refine WL_step rfl rfl (r_add (by omega) rfl rfl) ?_
              refine WL_step rfl rfl (r_assign rfl) ?_
              refine WL_nil ?_
              have _on_107 : Ol Sv.cs 67 1 _w_105 (.slice Asv (vs).length Csv) ((vs.set ((((vs.length : Nat) : Int) - 1).toNat) (⟨Au124_0, (_vs124_0).length, Cu124_0⟩ : Sv))) := by
                have hx := _o_106
                exact hx
              have _f_108 := ((_f_102.ch0 _cw_103).ch _cw_105 (fun i hm => by right; exact hm))
              have _f_109 := (_q_u124_0.ch _cw_105 (fun g hg hm => by have _h1 := _lo0_6 _ hm; have _h2 := hisv _ hm; have _h3 := _lo_u124_0 _ hg; have _h4 := _hiu124_0 _ hg; omega))
              have _f_110 := (_od_vs124_0.ch _cw_105 (fun i hm => by have _h1 := _lo0_6 _ hm; have _h2 := hisv _ hm; omega))
              exact thn_nrm (Exists.intro ((i + 1), (vs.set ((((vs.length : Nat) : Int) - 1).toNat) (⟨Au124_0, (_vs124_0).length, Cu124_0⟩ : Sv)), s2, (.slice Asv (vs).length Csv)) ⟨⟨E, (by omega), (by omega), (by rw [es9]; simp; omega), (by rw [es9]; simp; omega), _p2, _on_107, (Lo.down _lo0_6 (by omega)), (by rw [es9]; exact (RT.add (RT.take _f_108 (k := 1) (by simp)) (v := (⟨Au124_0, (_vs124_0).length, Cu124_0⟩ : Sv)) (Ol.lsR _f_109 (Lo.down _lo_u124_0 (by omega)) (lo := _w_17.heap.size) (hi := _w_103.heap.size) (fun g hg => by have _h1 := _hiu124_0 g hg; omega)) (Od.rdR (_f_110.eq (by rw [em6]; exact congrArg (fun z => grd (wd.length + 1) (repM (wd.length + 1) (mtT wd ta) 0 z)) (by omega)))) (by omega) (by omega) (fun g hm => by have _h1 := _lo0_6 _ hm; have _h2 := hisv _ hm; omega) (fun g hm => by left; exact hm)).eq (set_last (by omega)))⟩, Sub.cons rfl (Sub.cons rfl (Sub.cons rfl (Sub.cons rfl (Sub.cons rfl (Sub.cons rfl (Sub.nil _)))))), (by first | omega | (dsimp only; omega))⟩)
            · have _kb_100 := _h112
              have _h112 := bf_d _h112
              refine W_seq fun _K_111 _hK_111 => ?_
              refine W_region ?_
              refine WL_step rfl rfl (r_eql rfl rfl) ?_
              refine WL_step rfl rfl (r_assign rfl) ?_
              refine WL_nil ?_
              refine thn_nrm (_hK_111 _ _ ?_)
              clear _hK_111
              refine W_cond rfl (fun _h126 => ?_) (fun _h126 => ?_)
              · have _kb_112 := _h126
                have _h126 := bt_d _h126
                obtain ⟨ta, r9, _e9, es9⟩ := push_k1 _p1 (by unfold arK; rw [if_neg (by omega), if_pos (by omega)])
                subst _e9
                simp only [List.length_cons] at hl hs
                have em7 := ml7 (w := wd) (a := ta) (y := _y28) (by omega)
                have hh9 := push_hi _p1 (by omega)
                refine W_drawC (bl (.slice Asv (vs).length Csv)) 15 mixed rfl fun _w_113 _cw_113 => ?_
                have _cw_113z := _cw_113.size
                have E := E.trans _cw_113
                refine DR_s 0 rfl (by kernel_rfl) rfl rfl (t_v (fun _ => (r_move rfl)) ?_)
                refine DR_s 1 rfl (by kernel_rfl) rfl rfl (t_v (fun _ => (r_move rfl)) ?_)
                refine DR_s 2 rfl (by kernel_rfl) rfl rfl (t_v (fun _ => (r_sub (by omega) rfl rfl)) ?_)
                refine DR_s 3 rfl (by kernel_rfl) rfl rfl (t_v (fun _ => (r_move rfl)) ?_)
                refine DR_s 4 rfl (by kernel_rfl) rfl rfl (t_v (fun _ => (r_move rfl)) ?_)
                refine DR_s 5 rfl (by kernel_rfl) rfl rfl (t_v (fun _ => (r_sub (by omega) rfl rfl)) ?_)
                refine DR_s 8 rfl (by kernel_rfl) rfl rfl (t_v (fun _ => (r_fieldAddr fa55_2 rfl)) ?_)
                have _f_114 := (_m_18.ch0 _cw_113)
                refine DR_s 9 rfl (by kernel_rfl) rfl rfl (t_loadAt _f_114.at_ (fun i hm => by have _h1 := _lo0_6 _ hm; have _h2 := hisv _ hm; omega) agg3 rfl rfl ?_)
                refine DR_s 10 rfl (by kernel_rfl) rfl rfl (t_v (fun _ => (r_fieldAddr fa55_3 rfl)) ?_)
                refine DR_s 11 rfl (by kernel_rfl) rfl rfl (t_loadAt _f_114.at_ (fun i hm => by have _h1 := _lo0_6 _ hm; have _h2 := hisv _ hm; omega) agg3 rfl rfl ?_)
                refine DR_one 6 (by kernel_rfl) ?_
                refine DO_s rfl rfl rfl ?_
                have _f_115 := (((_o0_6.ch0 _cw_16).ch _cw_17 (fun g hg hm => by have _h0 := List.mem_singleton.1 hm; have _h2 := _lo0_6 _ hg; have _h3 := hisv _ hg; omega)).ch0 _cw_113)
                refine (s_index (j := (((vs.length : Nat) : Int) - 1).toNat) _f_115.ls Sv.len el66 sz67 rfl rfl (by omega) (by omega) fun _p134 _y134 _hy134 _a134 => ?_)
                have _f_116 := (((ms.ch0 _cw_16).ch _cw_17 (fun i hm => by have _h1 := List.mem_singleton.1 hm; left; omega)).ch0 _cw_113)
                obtain ⟨tm134, us134, ml134, mh134, ht134, _fs134, _rd134, mb134⟩ := RT.get _f_116 _hy134
                obtain ⟨_A134, _n134, _C134⟩ := _y134
                obtain rfl := _fs134.eqn
                have _l134 := _fs134.len
                replace _fs134 : Ls Sv.cs 1 _w_113 ml134 mh134 (.slice _A134 us134.length _C134) us134 := _fs134
                obtain rfl := (top1 (by first | omega | (simp only [List.length_cons]; omega)) ht134).symm
                replace _a134 : At _w_113 0 _w_113.heap.size _p134 ([(.slice _A134 us134.length _C134)]) := _a134
                refine ⟨(Ch.refl _ _), ?_⟩
                refine DR_one 7 (by kernel_rfl) ?_
                refine DO_s rfl rfl rfl ?_
                refine s_v (r_loadAt0 _a134 agg67 rfl rfl) ?_
                refine ⟨(Ch.refl _ _), ?_⟩
                refine DR_one 12 (by kernel_rfl) ?_
                refine DO_s rfl rfl rfl ?_
                refine Step.call (r_call (xs := [.tmp 135, .tmp 137, .tmp 139]) fk40 rfl) (c_spec_l9Repeated _fs134 _rd134 _ _ (wd.length + 1) (mtT wd ta) rfl (mt_tri _ _) (by omega) (by omega)) fun _v140 _w_117 _q140 => ?_
                obtain ⟨u140_0, _vs140_0, rfl, _q_u140_0, _lo_u140_0, _od_vs140_0, _sep_vs140_0, _cw_117⟩ := _q140
                have _cw_117z := _cw_117.size
                have E := E.trans _cw_117
                obtain ⟨Au140_0, Cu140_0, eu140_0⟩ := _q_u140_0.val
                subst eu140_0
                have lu140_0 := _q_u140_0.len
                have _hiu140_0 := _q_u140_0.lt
                have _S_118 : Ch (bl (.slice Asv (vs).length Csv)) _w_113 _w_117 := ((Ch.refl _ _).trans _cw_117.of_nil)
                refine ⟨_S_118, ?_⟩
                refine DR_one 13 (by kernel_rfl) ?_
                refine DO_s rfl rfl rfl ?_
                have _f_119 := (_f_115.ch0 _cw_117)
                refine s_indexO (j := (((vs.length : Nat) : Int) - 1).toNat) _f_119 el66 sz67 rfl rfl (by omega) (by first | omega | (simp; omega)) fun _g141 _o141 _cp141 _q141 => ?_
                refine ⟨_S_118, ?_⟩
                refine DR_one 14 (by kernel_rfl) ?_
                refine DO_s rfl rfl rfl ?_
                refine s_storeO (j := (((vs.length : Nat) : Int) - 1).toNat) (⟨Au140_0, (_vs140_0).length, Cu140_0⟩ : Sv) _f_119 _q141 Sv.len sz67 rfl rfl rfl rfl (by first | omega | (simp; omega)) fun _w_120 _o_121 _cw_120 => ?_
                have _cw_120z := _cw_120.size
                have E := E.step _cw_120 (fun i hi => .inl (by have _h1 := _lo0_6 _ hi; omega))
                have _S_122 : Ch (bl (.slice Asv (vs).length Csv)) _w_113 _w_120 := (_S_118.step _cw_120 (fun i hm => by exact .inr hm))
                refine ⟨_S_122, ?_⟩
                refine DR_done (by kernel_rfl) ?_
                refine inB_nrm ?_
                refine inB_nrm ?_
                refine thn_nrm (_hK_12 _ _ ?_)
                clear _hK_12
                refine W_region ?_
                refine WL_step rfl rfl (r_move rfl) ?_
                refine WL_step rfl rfl (r_add (by omega) rfl rfl) ?_
                refine WL_step rfl rfl (r_assign rfl) ?_
                refine WL_nil ?_
                have _on_123 : Ol Sv.cs 67 1 _w_120 (.slice Asv (vs).length Csv) ((vs.set ((((vs.length : Nat) : Int) - 1).toNat) (⟨Au140_0, (_vs140_0).length, Cu140_0⟩ : Sv))) := by
                  have hx := _o_121
                  exact hx
                have _f_124 := ((_f_116.ch0 _cw_117).ch _cw_120 (fun i hm => by right; exact hm))
                have _f_125 := (_q_u140_0.ch _cw_120 (fun g hg hm => by have _h1 := _lo0_6 _ hm; have _h2 := hisv _ hm; have _h3 := _lo_u140_0 _ hg; have _h4 := _hiu140_0 _ hg; omega))
                have _f_126 := (_od_vs140_0.ch _cw_120 (fun i hm => by have _h1 := _lo0_6 _ hm; have _h2 := hisv _ hm; omega))
                exact thn_nrm (Exists.intro ((i + 1), (vs.set ((((vs.length : Nat) : Int) - 1).toNat) (⟨Au140_0, (_vs140_0).length, Cu140_0⟩ : Sv)), s2, (.slice Asv (vs).length Csv)) ⟨⟨E, (by omega), (by omega), (by rw [es9]; simp; omega), (by rw [es9]; simp; omega), _p2, _on_123, (Lo.down _lo0_6 (by omega)), (by rw [es9]; exact (RT.add (RT.take _f_124 (k := 1) (by simp)) (v := (⟨Au140_0, (_vs140_0).length, Cu140_0⟩ : Sv)) (Ol.lsR _f_125 (Lo.down _lo_u140_0 (by omega)) (lo := _w_113.heap.size) (hi := _w_117.heap.size) (fun g hg => by have _h1 := _hiu140_0 g hg; omega)) (Od.rdR (_f_126.eq (by rw [em7]))) (by omega) (by omega) (fun g hm => by have _h1 := _lo0_6 _ hm; have _h2 := hisv _ hm; omega) (fun g hm => by left; exact hm)).eq (set_last (by omega)))⟩, Sub.cons rfl (Sub.cons rfl (Sub.cons rfl (Sub.cons rfl (Sub.cons rfl (Sub.cons rfl (Sub.nil _)))))), (by first | omega | (dsimp only; omega))⟩)
              · have _kb_112 := _h126
                have _h126 := bf_d _h126
                have es9 := push_k0 _p1 (by unfold arK; rw [if_neg (by omega), if_neg (by omega)])
                have em0 := ml0 (w := wd) (y := _y28) ⟨by omega, by omega⟩
                refine W_region ?_
                refine WL_step rfl rfl (r_move rfl) ?_
                refine WL_step rfl rfl (r_move rfl) ?_
                refine WL_s rfl rfl ?_
                refine Step.call (r_call (xs := [.tmp 33, .const (Go.Value.bool false)]) fk37 rfl) (c_spec_l9Grid (wd.length + 1) _ (by omega)) fun _v34 _w_127 _q34 => ?_
                obtain ⟨u34_0, _vs34_0, rfl, _q_u34_0, _lo_u34_0, _od_vs34_0, _sep_vs34_0, _cw_127⟩ := _q34
                have _cw_127z := _cw_127.size
                have E := E.trans _cw_127
                obtain ⟨Au34_0, Cu34_0, eu34_0⟩ := _q_u34_0.val
                subst eu34_0
                have lu34_0 := _q_u34_0.len
                have _hiu34_0 := _q_u34_0.lt
                refine WL_s rfl rfl ?_
                refine s_buildSlice (cs := Sv.cs) (parts := [(0, .tmp 34)]) (⟨none, 0, 0⟩ : Sv) [(⟨Au34_0, (_vs34_0).length, Cu34_0⟩ : Sv)] el66 sz67 zr67 Sv.len (by decide) rfl rfl rfl (by decide) (by decide) rfl fun _v35 _w_128 _q35 _lo35 _cw_128 => ?_
                have _cw_128z := _cw_128.size
                have E := E.trans _cw_128
                obtain ⟨_Av35, _Cv35, _ev35⟩ := _q35.val
                subst _ev35
                have _lv35 := _q35.len
                have _hiv35 := _q35.lt
                refine WL_s rfl rfl ?_
                have _f_130 := ((((_o0_6.ch0 _cw_16).ch _cw_17 (fun g hg hm => by have _h0 := List.mem_singleton.1 hm; have _h2 := _lo0_6 _ hg; have _h3 := hisv _ hg; omega)).ch0 _cw_127).ch0 _cw_128)
                refine s_append (cs := Sv.cs) el66 sz67 by67 zr67 rfl (by decide) Sv.one _f_130 _q35.ls rfl rfl (by simp only [List.length_singleton, List.length_take, List.length_drop]; omega) (by simp only [List.length_singleton, List.length_take, List.length_drop]; omega) _lo0_6 (by omega) fun _v36 _w_129 _q36 _lo36 _ap36 _cw_129 => ?_
                have _cw_129z := _cw_129.size
                have E := E.step _cw_129 (fun i hi => .inl (by have _h1 := _lo0_6 _ hi; omega))
                obtain ⟨_Av36, _Cv36, _ev36⟩ := _q36.val
                subst _ev36
                have _lv36 := _q36.len
                have _hiv36 := _q36.lt
                refine WL_step rfl rfl (r_assign rfl) ?_
                refine WL_nil ?_
                refine inB_nrm ?_
                refine inB_nrm ?_
                refine thn_nrm (_hK_12 _ _ ?_)
                clear _hK_12
                refine W_region ?_
                refine WL_step rfl rfl (r_move rfl) ?_
                refine WL_step rfl rfl (r_add (by omega) rfl rfl) ?_
                refine WL_step rfl rfl (r_assign rfl) ?_
                refine WL_nil ?_
                have _on_131 : Ol Sv.cs 67 1 _w_129 (.slice _Av36 ((vs ++ [(⟨Au34_0, (_vs34_0).length, Cu34_0⟩ : Sv)])).length _Cv36) ((vs ++ [(⟨Au34_0, (_vs34_0).length, Cu34_0⟩ : Sv)])) := by
                  have hx := _q36
                  exact hx
                have _f_132 := (((((ms.ch0 _cw_16).ch _cw_17 (fun i hm => by have _h1 := List.mem_singleton.1 hm; left; omega)).ch0 _cw_127).ch0 _cw_128).ch _cw_129 (fun i hm => by right; exact hm))
                have _f_133 := ((_q_u34_0.ch0 _cw_128).ch _cw_129 (fun g hg hm => by have _h1 := _lo0_6 _ hm; have _h2 := hisv _ hm; have _h3 := _lo_u34_0 _ hg; have _h4 := _hiu34_0 _ hg; omega))
                have _f_134 := ((_od_vs34_0.ch0 _cw_128).ch _cw_129 (fun i hm => by have _h1 := _lo0_6 _ hm; have _h2 := hisv _ hm; omega))
                exact thn_nrm (Exists.intro ((i + 1), (vs ++ [(⟨Au34_0, (_vs34_0).length, Cu34_0⟩ : Sv)]), s2, (.slice _Av36 ((vs ++ [(⟨Au34_0, (_vs34_0).length, Cu34_0⟩ : Sv)])).length _Cv36)) ⟨⟨E, (by omega), (by omega), (by rw [es9]; simp; omega), (by rw [es9]; simp; omega), _p2, _on_131, (Lo.down _lo36 (by omega)), (by rw [es9]; exact (RT.add _f_132 (v := (⟨Au34_0, (_vs34_0).length, Cu34_0⟩ : Sv)) (Ol.lsR _f_133 (Lo.down _lo_u34_0 (by omega)) (lo := _w_17.heap.size) (hi := _w_127.heap.size) (fun g hg => by have _h1 := _hiu34_0 g hg; omega)) (Od.rdR (_f_134.eq (by rw [em0]))) (by omega) (by omega) (fun g hm => by rcases _ap36 with ea | ea; (rw [ea] at hm; have _h1 := _lo0_6 _ hm; have _h2 := hisv _ hm; omega); (have z2hm := _hiv36 _ hm; rw [ea] at hm; have _z1 := List.mem_singleton.1 hm; omega)) (fun g hm => by rcases _ap36 with ea | ea; (rw [ea] at hm; left; exact hm); (have z2hm := _hiv36 _ hm; rw [ea] at hm; have _z1 := List.mem_singleton.1 hm; right; omega))).eq (by simp_all <;> omega))⟩, Sub.cons rfl (Sub.cons rfl (Sub.cons rfl (Sub.cons rfl (Sub.cons rfl (Sub.cons rfl (Sub.nil _)))))), (by first | omega | (dsimp only; omega))⟩)
  · have _kb_11 := _h21
    have _h21 := bf_d _h21
    have ef9 := prs_fin _ht hp (by omega)
    subst ef9
    simp only [List.length_cons, List.length_nil] at hl
    refine W_exit (thn_exit (thn_exit (inB_hit ?_)))
    refine thn_nrm (_hK_5 _ _ ?_)
    clear _hK_5
    refine W_seq fun _K_135 _hK_135 => ?_
    refine W_region ?_
    refine WL_step rfl rfl (r_move rfl) ?_
    refine WL_s rfl rfl ?_
    refine (s_index (j := 0) _o0_6.ls Sv.len el66 sz67 rfl rfl rfl (by omega) fun _p143 _y143 _hy143 _a143 => ?_)
    obtain ⟨tm143, us143, ml143, mh143, ht143, _fs143, _rd143, mb143⟩ := RT.get ms _hy143
    obtain ⟨_A143, _n143, _C143⟩ := _y143
    obtain rfl := _fs143.eqn
    have _l143 := _fs143.len
    replace _fs143 : Ls Sv.cs 1 _wr_8 ml143 mh143 (.slice _A143 us143.length _C143) us143 := _fs143
    have _ln143 := _rd143.1
    rw [grd_len] at _ln143
    replace _a143 : At _wr_8 0 _wr_8.heap.size _p143 ([(.slice _A143 us143.length _C143)]) := _a143
    refine WL_step rfl rfl (r_loadAt0 _a143 agg67 rfl rfl) ?_
    refine WL_s rfl rfl ?_
    refine (s_index (j := 0) _fs143 Sv.len el67 sz69 rfl rfl rfl (by omega) fun _p145 _y145 _hy145 _a145 => ?_)
    obtain ⟨_ys145, _hys145, _fs145⟩ := _rd143.get _hy145
    obtain ⟨_A145, _n145, _C145⟩ := _y145
    obtain rfl := _fs145.eqn
    have _l145 := _fs145.len
    replace _fs145 : Ls bcs 1 _wr_8 ml143 mh143 (.slice _A145 _ys145.length _C145) _ys145 := _fs145
    replace _a145 : At _wr_8 ml143 mh143 _p145 ([(.slice _A145 _ys145.length _C145)]) := _a145
    have rl145 := row_len rfl _hys145
    refine WL_step rfl rfl (r_loadAt0 _a145 agg69 rfl rfl) ?_
    refine WL_step rfl rfl (r_move rfl) ?_
    refine WL_step rfl rfl (r_len (by rw [el25]; rfl) rfl) ?_
    refine WL_s rfl rfl ?_
    refine (s_index _fs145 bcs_len el69 sz4 rfl rfl rfl (by omega) fun _p149 _y149 _hy149 _a149 => ?_)
    refine WL_step rfl rfl (r_loadAt0 _a149 agg4 rfl rfl) ?_
    refine WL_step rfl rfl (r_assign rfl) ?_
    refine WL_nil ?_
    refine thn_nrm (_hK_135 _ _ ?_)
    clear _hK_135
    refine W_ret ?_
    clear _hK_9
    exact ret_intro [_] ⟨rfl, trivial⟩ ⟨congrArg Value.bool (fin_mt ht143 _hys145 _hy149), E⟩

/-- spec.MatchesWord -/
theorem c_spec_MatchesWord {w : World} {LL_e _B_e : Nat} {_v_e : Value} {e : List Token} (_h_e : Ls Token.cs 4 w LL_e _B_e _v_e e) {LL_word _B_word : Nat} {_v_word : Value} {word : List Int} (_h_word : Ls ics 1 w LL_word _B_word _v_word word) (hb : e.length ≤ 1048576) :
    Ctr Try.prog 6 #[(.agg #[_v_e]), _v_word] w (fun v w' => v = .bool (mwE e word) ∧ Ch [] w w') := by
  obtain ⟨_A_e, _C_e, _e1_e⟩ := _h_e.val
  subst _e1_e
  have _l_e := _h_e.len
  have _h_e := _h_e.here (by decide)
  obtain ⟨_A_word, _C_word, _e1_word⟩ := _h_word.val
  subst _e1_word
  have _l_word := _h_word.len
  have _h_word := _h_word.here (by decide)
  have E := Ch.refl [] w
  refine Ctr_of_W (N := 17) (vs0 := [(.agg #[(.slice _A_e e.length _C_e)]), (.slice _A_word word.length _C_word)]) Try.func6 rfl rfl rfl ?_
  refine W_seq fun _K_1 _hK_1 => ?_
  refine W_region ?_
  refine WL_s rfl rfl ?_
  refine s_box rfl fun _b2 _w_2 _m2 _cw_2 _e2 => ?_
  have _cw_2z := _cw_2.size
  have E := E.trans _cw_2
  have _z2 := _m2.lt
  replace _m2 : Blk _w_2 _b2 30 [(.slice _A_e e.length _C_e)] := _m2
  refine WL_step rfl rfl (r_assign rfl) ?_
  refine WL_nil ?_
  refine thn_nrm (_hK_1 _ _ ?_)
  clear _hK_1
  refine W_seq fun _K_3 _hK_3 => ?_
  refine W_region ?_
  refine WL_step rfl rfl (r_loadAtA0 _m2.at_ agg30 sz30 rfl) ?_
  refine WL_s rfl rfl ?_
  have _f_4 := (_h_e.ch0 _cw_2)
  refine Step.call (r_call (xs := [.tmp 5]) fk19 rfl) (c_spec_IsValidExpr _f_4 ) fun _v6 _w_5 _q6 => ?_
  obtain ⟨rfl, _cw_5⟩ := _q6
  have _cw_5z := _cw_5.size
  have E := E.trans _cw_5
  refine WL_step rfl rfl (r_move rfl) ?_
  refine WL_split (d := 7) rfl (fun _h7 => ?_) (fun _h7 => ?_)
  · have _kb_6 := _h7
    obtain ⟨_t9, ht9, ok9, f9, _n9⟩ := ivE_y _h7
    refine WL_step rfl rfl (r_move rfl) ?_
    refine WL_s rfl rfl ?_
    have _f_7 := ((_h_word.ch0 _cw_2).ch0 _cw_5)
    refine Step.call (r_call (xs := [.tmp 8]) fk20 rfl) (c_spec_IsWord _f_7 ) fun _v9 _w_8 _q9 => ?_
    obtain ⟨rfl, _cw_8⟩ := _q9
    have _cw_8z := _cw_8.size
    have E := E.trans _cw_8
    refine WL_step rfl rfl (r_pickT rfl rfl) ?_
    refine WL_step rfl rfl (r_move rfl) ?_
    refine WL_split (d := 11) rfl (fun _h11 => ?_) (fun _h11 => ?_)
    · have _kb_9 := _h11
      have _h11 := bt_t _h11
      have _h10 := _h11
      refine WL_step rfl rfl (r_fieldAddr fa30_0 rfl) ?_
      have _f_10 := ((_m2.ch0 _cw_5).ch0 _cw_8)
      refine WL_step rfl rfl (r_loadAt _f_10.at_ agg28 rfl rfl) ?_
      refine WL_step rfl rfl (r_move rfl) ?_
      refine WL_s rfl rfl ?_
      have _f_11 := ((_f_4.ch0 _cw_5).ch0 _cw_8)
      have _f_12 := (_f_7.ch0 _cw_8)
      refine Step.call (r_call (xs := [.tmp 13, .tmp 14]) fk21 rfl) (c_spec_l9Match _f_11 _f_12 _t9 ht9 (by have q := _h10.2; omega) (by omega)) fun _v15 _w_13 _q15 => ?_
      obtain ⟨rfl, _cw_13⟩ := _q15
      have _cw_13z := _cw_13.size
      have E := E.trans _cw_13
      refine WL_step rfl rfl (r_pickT rfl rfl) ?_
      refine WL_step rfl rfl (r_assign rfl) ?_
      refine WL_nil ?_
      refine thn_nrm (_hK_3 _ _ ?_)
      clear _hK_3
      refine W_ret ?_
      exact ret_intro [_] ⟨rfl, trivial⟩ ⟨congrArg Value.bool (by first | (rw [mwE_y _h7 _h10 ht9]; done) | (rw [mwE_n1 _h7]; done) | (rw [mwE_n2 _h11]; done)), E⟩
    · have _kb_9 := _h11
      have _h11 := bf_t _h11
      refine WL_skip rfl rfl ?_
      refine WL_skip rfl rfl ?_
      refine WL_skip rfl rfl ?_
      refine WL_skip rfl rfl ?_
      refine WL_step rfl rfl (r_pickF rfl rfl) ?_
      refine WL_step rfl rfl (r_assign rfl) ?_
      refine WL_nil ?_
      refine thn_nrm (_hK_3 _ _ ?_)
      clear _hK_3
      refine W_ret ?_
      exact ret_intro [_] ⟨rfl, trivial⟩ ⟨congrArg Value.bool (by first | (rw [mwE_y _h7 _h10 ht9]; done) | (rw [mwE_n1 _h7]; done) | (rw [mwE_n2 _h11]; done)), E⟩
  · have _kb_6 := _h7
    refine WL_skip rfl rfl ?_
    refine WL_skip rfl rfl ?_
    refine WL_step rfl rfl (r_pickF rfl rfl) ?_
    refine WL_step rfl rfl (r_move rfl) ?_
    refine WL_skip rfl rfl ?_
    refine WL_skip rfl rfl ?_
    refine WL_skip rfl rfl ?_
    refine WL_skip rfl rfl ?_
    refine WL_step rfl rfl (r_pickF rfl rfl) ?_
    refine WL_step rfl rfl (r_assign rfl) ?_
    refine WL_nil ?_
    refine thn_nrm (_hK_3 _ _ ?_)
    clear _hK_3
    refine W_ret ?_
    exact ret_intro [_] ⟨rfl, trivial⟩ ⟨congrArg Value.bool (by first | (rw [mwE_y _h7 _h10 ht9]; done) | (rw [mwE_n1 _h7]; done) | (rw [mwE_n2 _h11]; done)), E⟩

/-- laws.FnExactMatchesWord -/
theorem c_laws_FnExactMatchesWord {w : World} {LL_e _B_e : Nat} {_v_e : Value} {e : List Token} (_h_e : Ls Token.cs 4 w LL_e _B_e _v_e e) {LL_word _B_word : Nat} {_v_word : Value} {word : List Int} (_h_word : Ls ics 1 w LL_word _B_word _v_word word) :
    Ctr Try.prog 3 #[(.agg #[_v_e]), _v_word] w (fun v w' => v = .bool (true) ∧ Ch [] w w') := by
  obtain ⟨_A_e, _C_e, _e1_e⟩ := _h_e.val
  subst _e1_e
  have _l_e := _h_e.len
  have _h_e := _h_e.here (by decide)
  obtain ⟨_A_word, _C_word, _e1_word⟩ := _h_word.val
  subst _e1_word
  have _l_word := _h_word.len
  have _h_word := _h_word.here (by decide)
  have E := Ch.refl [] w
  refine Ctr_of_W (N := 43) (vs0 := [(.agg #[(.slice _A_e e.length _C_e)]), (.slice _A_word word.length _C_word)]) Try.func3 rfl rfl rfl ?_
  refine W_seq fun _K_1 _hK_1 => ?_
  refine W_region ?_
  refine WL_s rfl rfl ?_
  refine s_box rfl fun _b2 _w_2 _m2 _cw_2 _e2 => ?_
  have _cw_2z := _cw_2.size
  have E := E.trans _cw_2
  have _z2 := _m2.lt
  replace _m2 : Blk _w_2 _b2 24 [(.slice _A_e e.length _C_e)] := _m2
  refine WL_step rfl rfl (r_assign rfl) ?_
  refine WL_nil ?_
  refine thn_nrm (_hK_1 _ _ ?_)
  clear _hK_1
  refine W_seq fun _K_3 _hK_3 => ?_
  refine W_seq fun _K_4 _hK_4 => ?_
  refine W_region ?_
  refine WL_step rfl rfl (r_move rfl) ?_
  refine WL_step rfl rfl (r_len (by rw [el25]; rfl) rfl) ?_
  refine WL_step rfl rfl (r_gtr rfl rfl) ?_
  refine WL_nil ?_
  refine thn_nrm (_hK_4 _ _ ?_)
  clear _hK_4
  refine W_cond rfl (fun _h12 => ?_) (fun _h12 => ?_)
  · have _kb_5 := _h12
    have _h12 := bt_d _h12
    refine W_seq fun _K_6 _hK_6 => ?_
    refine W_region ?_
    refine WL_step rfl rfl (r_assign rfl) ?_
    refine WL_nil ?_
    refine thn_nrm (_hK_6 _ _ ?_)
    clear _hK_6
    refine W_ret (thn_ret ?_)
    clear _hK_3
    exact ret_intro [_] ⟨rfl, trivial⟩ ⟨congrArg Value.bool (by first | rfl | (exfalso; omega) | (exfalso; revert _h12; simp; done) | (exfalso; revert _h12; simp; omega)), E⟩
  · have _kb_5 := _h12
    have _h12 := bf_d _h12
    refine W_skip ?_
    refine thn_nrm (_hK_3 _ _ ?_)
    clear _hK_3
    refine W_seq fun _K_7 _hK_7 => ?_
    refine W_region ?_
    refine WL_step rfl rfl (r_assign rfl) ?_
    refine WL_nil ?_
    refine thn_nrm (_hK_7 _ _ ?_)
    clear _hK_7
    refine W_seq fun _K_8 _hK_8 => ?_
    refine W_region ?_
    refine WL_step rfl rfl (r_loadAtA0 _m2.at_ agg24 sz24 rfl) ?_
    refine WL_step rfl rfl (r_move rfl) ?_
    refine WL_s rfl rfl ?_
    have _f_9 := (_h_e.ch0 _cw_2)
    refine Step.call (r_call (xs := [.tmp 13, .tmp 14]) fk5 rfl) (c_laws_szExpr _f_9 _ (by omega) (by omega)) fun _v15 _w_10 _q15 => ?_
    obtain ⟨rfl, _cw_10⟩ := _q15
    have _cw_10z := _cw_10.size
    have E := E.trans _cw_10
    refine WL_step rfl rfl (r_assign rfl) ?_
    refine WL_nil ?_
    refine thn_nrm (_hK_8 _ _ ?_)
    clear _hK_8
    refine W_seq fun _K_11 _hK_11 => ?_
    refine W_seq fun _K_12 _hK_12 => ?_
    refine W_region ?_
    refine WL_step rfl rfl (r_move rfl) ?_
    refine WL_step rfl rfl (r_lss rfl rfl) ?_
    refine WL_nil ?_
    refine thn_nrm (_hK_12 _ _ ?_)
    clear _hK_12
    refine W_cond rfl (fun _h17 => ?_) (fun _h17 => ?_)
    · have _kb_13 := _h17
      have _h17 := bt_d _h17
      refine W_seq fun _K_14 _hK_14 => ?_
      refine W_region ?_
      refine WL_step rfl rfl (r_assign rfl) ?_
      refine WL_nil ?_
      refine thn_nrm (_hK_14 _ _ ?_)
      clear _hK_14
      refine W_ret (thn_ret ?_)
      clear _hK_11
      exact ret_intro [_] ⟨rfl, trivial⟩ ⟨congrArg Value.bool (by first | rfl | (exfalso; omega) | (exfalso; revert _h17; simp; done) | (exfalso; revert _h17; simp; omega)), E⟩
    · have _kb_13 := _h17
      have _h17 := bf_d _h17
      refine W_skip ?_
      refine thn_nrm (_hK_11 _ _ ?_)
      clear _hK_11
      refine W_seq fun _K_15 _hK_15 => ?_
      refine W_region ?_
      have _f_16 := (_m2.ch0 _cw_10)
      refine WL_step rfl rfl (r_loadAtA0 _f_16.at_ agg24 sz24 rfl) ?_
      refine WL_s rfl rfl ?_
      have _f_17 := (_f_9.ch0 _cw_10)
      refine Step.call (r_call (xs := [.tmp 18]) fk7 rfl) (c_laws_toExpr _f_17 (by omega)) fun _v19 _w_18 _q19 => ?_
      obtain ⟨_u19, rfl, _q19, _lo19, _cw_18⟩ := _q19
      have _cw_18z := _cw_18.size
      have E := E.trans _cw_18
      obtain ⟨_Au19, _Cu19, _eu19⟩ := _q19.val
      subst _eu19
      have _lu19 := _q19.len
      have _hiu19 := _q19.lt
      refine WL_step rfl rfl (r_move rfl) ?_
      refine WL_s rfl rfl ?_
      have _f_19 := (((_h_word.ch0 _cw_2).ch0 _cw_10).ch0 _cw_18)
      refine Step.call (r_call (xs := [.tmp 20]) fk8 rfl) (c_laws_toIntS _f_19 (by omega)) fun _v21 _w_20 _q21 => ?_
      obtain ⟨_q21, _lo21, _cw_20⟩ := _q21
      have _cw_20z := _cw_20.size
      have E := E.trans _cw_20
      obtain ⟨_Av21, _Cv21, _ev21⟩ := _q21.val
      subst _ev21
      have _lv21 := _q21.len
      have _hiv21 := _q21.lt
      refine WL_s rfl rfl ?_
      have _f_21 := (_q19.ch0 _cw_20)
      refine Step.call (r_call (xs := [.tmp 19, .tmp 21]) fk6 rfl) (c_spec_MatchesWord _f_21.ls _q21.ls (by omega)) fun _v22 _w_22 _q22 => ?_
      obtain ⟨rfl, _cw_22⟩ := _q22
      have _cw_22z := _cw_22.size
      have E := E.trans _cw_22
      refine WL_step rfl rfl (r_assign rfl) ?_
      refine WL_nil ?_
      refine thn_nrm (_hK_15 _ _ ?_)
      clear _hK_15
      refine W_seq fun _K_23 _hK_23 => ?_
      refine W_region ?_
      have _f_24 := (((_f_16.ch0 _cw_18).ch0 _cw_20).ch0 _cw_22)
      refine WL_step rfl rfl (r_loadAtA0 _f_24.at_ agg24 sz24 rfl) ?_
      refine WL_s rfl rfl ?_
      have _f_25 := (((_f_17.ch0 _cw_18).ch0 _cw_20).ch0 _cw_22)
      refine Step.call (r_call (xs := [.tmp 23]) fk7 rfl) (c_laws_toExpr _f_25 (by omega)) fun _v24 _w_26 _q24 => ?_
      obtain ⟨_u24, rfl, _q24, _lo24, _cw_26⟩ := _q24
      have _cw_26z := _cw_26.size
      have E := E.trans _cw_26
      obtain ⟨_Au24, _Cu24, _eu24⟩ := _q24.val
      subst _eu24
      have _lu24 := _q24.len
      have _hiu24 := _q24.lt
      refine WL_s rfl rfl ?_
      refine s_alloc zr30 fun _b7 _w_27 _m7 _cw_27 _e7 => ?_
      have _cw_27z := _cw_27.size
      have E := E.trans _cw_27
      have _z7 := _m7.lt
      replace _m7 : Blk _w_27 _b7 30 [(.slice none 0 0)] := _m7
      refine WL_s rfl rfl ?_
      refine s_storeA (off := 0) 1 _m7 sz30 rfl (us := [(.slice _Au24 (e).length _Cu24)]) rfl rfl rfl rfl fun _w_28 _m_29 _cw_28 => ?_
      have _cw_28z := _cw_28.size
      have E := E.step _cw_28 (fun i hi => .inl (by have _h1 := List.mem_singleton.1 hi; omega))
      replace _m_29 : Blk _w_28 _b7 30 [(.slice _Au24 (e).length _Cu24)] := _m_29
      refine WL_nil ?_
      refine thn_nrm (_hK_23 _ _ ?_)
      clear _hK_23
      refine W_seq fun _K_30 _hK_30 => ?_
      refine W_region ?_
      refine WL_step rfl rfl (r_move rfl) ?_
      refine WL_s rfl rfl ?_
      have _f_31 := (((((_f_19.ch0 _cw_20).ch0 _cw_22).ch0 _cw_26).ch0 _cw_27).ch _cw_28 (fun i hi => by have _h1 := List.mem_singleton.1 hi; omega))
      refine Step.call (r_call (xs := [.tmp 25]) fk8 rfl) (c_laws_toIntS _f_31 (by omega)) fun _v26 _w_32 _q26 => ?_
      obtain ⟨_q26, _lo26, _cw_32⟩ := _q26
      have _cw_32z := _cw_32.size
      have E := E.trans _cw_32
      obtain ⟨_Av26, _Cv26, _ev26⟩ := _q26.val
      subst _ev26
      have _lv26 := _q26.len
      have _hiv26 := _q26.lt
      refine WL_step rfl rfl (r_assign rfl) ?_
      refine WL_nil ?_
      refine thn_nrm (_hK_30 _ _ ?_)
      clear _hK_30
      refine W_seq fun _K_33 _hK_33 => ?_
      refine W_region ?_
      have _f_34 := (_m_29.ch0 _cw_32)
      refine WL_step rfl rfl (r_loadAtA0 _f_34.at_ agg30 sz30 rfl) ?_
      refine WL_step rfl rfl (r_move rfl) ?_
      refine WL_s rfl rfl ?_
      have _f_35 := (((_q24.ch0 _cw_27).ch _cw_28 (fun g hg hm => by have _h0 := List.mem_singleton.1 hm; have _h2 := _lo24 _ hg; have _h3 := _hiu24 _ hg; omega)).ch0 _cw_32)
      refine Step.call (r_call (xs := [.tmp 27, .tmp 28]) fk9 rfl) (c_impl_MatchesWord _f_35.ls _q26.ls (by omega)) fun _v29 _w_36 _q29 => ?_
      obtain ⟨rfl, _cw_36⟩ := _q29
      have _cw_36z := _cw_36.size
      have E := E.trans _cw_36
      refine WL_step rfl rfl (r_assign rfl) ?_
      refine WL_nil ?_
      refine thn_nrm (_hK_33 _ _ ?_)
      clear _hK_33
      refine W_seq fun _K_37 _hK_37 => ?_
      refine W_seq fun _K_38 _hK_38 => ?_
      refine W_region ?_
      refine WL_step rfl rfl (r_move rfl) ?_
      refine WL_step rfl rfl (r_move rfl) ?_
      refine WL_step rfl rfl (r_neqB un4 rfl rfl) ?_
      refine WL_nil ?_
      refine thn_nrm (_hK_38 _ _ ?_)
      clear _hK_38
      refine W_cond rfl (fun _h32 => ?_) (fun _h32 => ?_)
      · have _kb_39 := _h32
        have _h32 := bf_e (bt_n _h32)
        refine W_seq fun _K_40 _hK_40 => ?_
        refine W_region ?_
        refine WL_step rfl rfl (r_assign rfl) ?_
        refine WL_nil ?_
        refine thn_nrm (_hK_40 _ _ ?_)
        clear _hK_40
        refine W_ret (thn_ret ?_)
        clear _hK_37
        exact ret_intro [_] ⟨rfl, trivial⟩ ⟨congrArg Value.bool (by first | rfl | (exfalso; omega) | (exfalso; revert _h32; simp; done) | (exfalso; revert _h32; simp; omega)), E⟩
      · have _kb_39 := _h32
        have _h32 := bt_e (bf_n _h32)
        refine W_skip ?_
        refine thn_nrm (_hK_37 _ _ ?_)
        clear _hK_37
        refine W_seq fun _K_41 _hK_41 => ?_
        refine W_seq fun _K_42 _hK_42 => ?_
        refine W_drawC [] 5 mixed rfl fun _w_43 _cw_43 => ?_
        have _cw_43z := _cw_43.size
        have E := E.trans _cw_43
        have _f_44 := ((_f_34.ch0 _cw_36).ch0 _cw_43)
        refine DR_s 0 rfl (by kernel_rfl) rfl rfl (t_loadAtA0 _f_44.at_ (fun i hi => absurd hi List.not_mem_nil) agg30 sz30 rfl ?_)
        have _f_45 := ((((((_f_24.ch0 _cw_26).ch0 _cw_27).ch _cw_28 (fun hm => by have _h1 := List.mem_singleton.1 hm; omega)).ch0 _cw_32).ch0 _cw_36).ch0 _cw_43)
        refine DR_s 1 rfl (by kernel_rfl) rfl rfl (t_loadAtA0 _f_45.at_ (fun i hi => absurd hi List.not_mem_nil) agg24 sz24 rfl ?_)
        refine DR_one 2 (by kernel_rfl) ?_
        refine DO_s rfl rfl rfl ?_
        have _f_46 := ((((((_f_25.ch0 _cw_26).ch0 _cw_27).ch _cw_28 (fun i hi => by have _h1 := List.mem_singleton.1 hi; omega)).ch0 _cw_32).ch0 _cw_36).ch0 _cw_43)
        refine Step.call (r_call (xs := [.tmp 34]) fk7 rfl) (c_laws_toExpr _f_46 (by omega)) fun _v35 _w_47 _q35 => ?_
        obtain ⟨_u35, rfl, _q35, _lo35, _cw_47⟩ := _q35
        have _cw_47z := _cw_47.size
        have E := E.trans _cw_47
        obtain ⟨_Au35, _Cu35, _eu35⟩ := _q35.val
        subst _eu35
        have _lu35 := _q35.len
        have _hiu35 := _q35.lt
        have _S_48 : Ch [] _w_43 _w_47 := ((Ch.refl _ _).trans _cw_47)
        refine ⟨_S_48, ?_⟩
        refine DR_one 3 (by kernel_rfl) ?_
        refine DO_s rfl rfl rfl ?_
        have _f_49 := (((_f_35.ch0 _cw_36).ch0 _cw_43).ch0 _cw_47)
        refine Step.call (r_call (xs := [.tmp 33, .tmp 35]) fk10 rfl) (c_laws_eqExpr _f_49.ls _q35.ls ) fun _v36 _w_50 _q36 => ?_
        obtain ⟨rfl, _cw_50⟩ := _q36
        have _cw_50z := _cw_50.size
        have E := E.trans _cw_50
        have _S_51 : Ch [] _w_43 _w_50 := (_S_48.trans _cw_50)
        refine ⟨_S_51, ?_⟩
        refine DR_s 4 rfl (by kernel_rfl) rfl rfl (t_v (fun _ => (r_not rfl)) ?_)
        refine DR_done (by kernel_rfl) ?_
        refine thn_nrm (_hK_42 _ _ ?_)
        clear _hK_42
        refine W_cond rfl (fun _h37 => ?_) (fun _h37 => ?_)
        · have _kb_52 := _h37
          have _h37 := bf_d (bt_n _h37)
          refine W_seq fun _K_53 _hK_53 => ?_
          refine W_region ?_
          refine WL_step rfl rfl (r_assign rfl) ?_
          refine WL_nil ?_
          refine thn_nrm (_hK_53 _ _ ?_)
          clear _hK_53
          refine W_ret (thn_ret ?_)
          clear _hK_41
          exact ret_intro [_] ⟨rfl, trivial⟩ ⟨congrArg Value.bool (by first | rfl | (exfalso; omega) | (exfalso; revert _h37; simp; done) | (exfalso; revert _h37; simp; omega)), E⟩
        · have _kb_52 := _h37
          have _h37 := bt_d (bf_n _h37)
          refine W_skip ?_
          refine thn_nrm (_hK_41 _ _ ?_)
          clear _hK_41
          refine W_seq fun _K_54 _hK_54 => ?_
          refine W_seq fun _K_55 _hK_55 => ?_
          refine W_region ?_
          refine WL_step rfl rfl (r_move rfl) ?_
          refine WL_step rfl rfl (r_move rfl) ?_
          refine WL_s rfl rfl ?_
          have _f_56 := (((((_f_31.ch0 _cw_32).ch0 _cw_36).ch0 _cw_43).ch0 _cw_47).ch0 _cw_50)
          refine Step.call (r_call (xs := [.tmp 39]) fk8 rfl) (c_laws_toIntS _f_56 (by omega)) fun _v40 _w_57 _q40 => ?_
          obtain ⟨_q40, _lo40, _cw_57⟩ := _q40
          have _cw_57z := _cw_57.size
          have E := E.trans _cw_57
          obtain ⟨_Av40, _Cv40, _ev40⟩ := _q40.val
          subst _ev40
          have _lv40 := _q40.len
          have _hiv40 := _q40.lt
          refine WL_s rfl rfl ?_
          have _f_58 := (((((_q26.ch0 _cw_36).ch0 _cw_43).ch0 _cw_47).ch0 _cw_50).ch0 _cw_57)
          refine Step.call (r_call (xs := [.tmp 38, .tmp 40]) fk11 rfl) (c_laws_eqIntS _f_58.ls _q40.ls ) fun _v41 _w_59 _q41 => ?_
          obtain ⟨rfl, _cw_59⟩ := _q41
          have _cw_59z := _cw_59.size
          have E := E.trans _cw_59
          refine WL_step rfl rfl (r_not rfl) ?_
          refine WL_nil ?_
          refine thn_nrm (_hK_55 _ _ ?_)
          clear _hK_55
          refine W_cond rfl (fun _h42 => ?_) (fun _h42 => ?_)
          · have _kb_60 := _h42
            have _h42 := bf_d (bt_n _h42)
            refine W_seq fun _K_61 _hK_61 => ?_
            refine W_region ?_
            refine WL_step rfl rfl (r_assign rfl) ?_
            refine WL_nil ?_
            refine thn_nrm (_hK_61 _ _ ?_)
            clear _hK_61
            refine W_ret (thn_ret ?_)
            clear _hK_54
            exact ret_intro [_] ⟨rfl, trivial⟩ ⟨congrArg Value.bool (by first | rfl | (exfalso; omega) | (exfalso; revert _h42; simp; done) | (exfalso; revert _h42; simp; omega)), E⟩
          · have _kb_60 := _h42
            have _h42 := bt_d (bf_n _h42)
            refine W_skip ?_
            refine thn_nrm (_hK_54 _ _ ?_)
            clear _hK_54
            refine W_seq fun _K_62 _hK_62 => ?_
            refine W_region ?_
            refine WL_step rfl rfl (r_assign rfl) ?_
            refine WL_nil ?_
            refine thn_nrm (_hK_62 _ _ ?_)
            clear _hK_62
            refine W_ret ?_
            exact ret_intro [_] ⟨rfl, trivial⟩ ⟨congrArg Value.bool (by first | rfl | (exfalso; omega) | (exfalso; revert _h42; simp; done) | (exfalso; revert _h42; simp; omega)), E⟩

end Go.Proofs.Ythcoliemlekojaa
