/- Walks of functions that FnWords reaches: what each returns, and that it leaves the memory that was there alone. -/
import Derived.Test.YtholldndjafnpaaLibA
import Derived.Test.YtholldndjafnpaaLibB
import Derived.Test.YtholldndjafnpaaWWords
import Derived.Test.YtholldndjafnpaaWWordsb
import Derived.Test.YtholldndjafnpaaWWordsc
import Derived.Test.YtholldndjafnpaaProg
namespace Go.Proofs.Ytholldndjafnpaa
open Go.KLib Go.Shelf
set_option maxHeartbeats 1000000
set_option maxRecDepth 20000
set_option linter.unusedVariables false
set_option linter.unusedSimpArgs false
namespace TWordsd
theorem agg126 : aggB Try.prog 126 = some true := by kernel_rfl
theorem agg194 : aggB Try.prog 194 = some false := by kernel_rfl
theorem agg24 : aggB Try.prog 24 = some false := by kernel_rfl
theorem agg3 : aggB Try.prog 3 = some false := by kernel_rfl
theorem agg30 : aggB Try.prog 30 = some false := by kernel_rfl
theorem agg4 : aggB Try.prog 4 = some false := by kernel_rfl
theorem agg65 : aggB Try.prog 65 = some false := by kernel_rfl
theorem agg67 : aggB Try.prog 67 = some true := by kernel_rfl
theorem by194 : bytesB Try.prog 194 = some 24 := by kernel_rfl
theorem by3 : bytesB Try.prog 3 = some 8 := by kernel_rfl
theorem by30 : bytesB Try.prog 30 = some 24 := by kernel_rfl
theorem el194 : elB Try.prog 194 = some 24 := by kernel_rfl
theorem el196 : elB Try.prog 196 = some 194 := by kernel_rfl
theorem el24 : elB Try.prog 24 = some 4 := by kernel_rfl
theorem el25 : elB Try.prog 25 = some 30 := by kernel_rfl
theorem el30 : elB Try.prog 30 = some 3 := by kernel_rfl
theorem el65 : elB Try.prog 65 = some 126 := by kernel_rfl
theorem fa126_0 : faB Try.prog 126 0 = some 0 := by kernel_rfl
theorem fa126_1 : faB Try.prog 126 1 = some 1 := by kernel_rfl
theorem fa126_2 : faB Try.prog 126 2 = some 2 := by kernel_rfl
theorem fa126_3 : faB Try.prog 126 3 = some 3 := by kernel_rfl
theorem fa67_0 : faB Try.prog 67 0 = some 0 := by kernel_rfl
theorem fk131 : fnB Try.prog 131 = true := by kernel_rfl
theorem fk133 : fnB Try.prog 133 = true := by kernel_rfl
theorem fk180 : fnB Try.prog 180 = true := by kernel_rfl
theorem fk181 : fnB Try.prog 181 = true := by kernel_rfl
theorem fk182 : fnB Try.prog 182 = true := by kernel_rfl
theorem fk183 : fnB Try.prog 183 = true := by kernel_rfl
theorem fk52 : fnB Try.prog 52 = true := by kernel_rfl
theorem fk57 : fnB Try.prog 57 = true := by kernel_rfl
theorem fk83 : fnB Try.prog 83 = true := by kernel_rfl
theorem mixed : Try.prog.follows .mixedOrders = true := by kernel_rfl
theorem sz126 : sizeB Try.prog 126 = some 4 := by kernel_rfl
theorem sz194 : sizeB Try.prog 194 = some 1 := by kernel_rfl
theorem sz24 : sizeB Try.prog 24 = some 1 := by kernel_rfl
theorem sz3 : sizeB Try.prog 3 = some 1 := by kernel_rfl
theorem sz30 : sizeB Try.prog 30 = some 1 := by kernel_rfl
theorem sz4 : sizeB Try.prog 4 = some 1 := by kernel_rfl
theorem sz67 : sizeB Try.prog 67 = some 1 := by kernel_rfl
theorem zr126 : zeroB Try.prog 126 = some (.agg #[.int .i64 0, .int .i64 0, .int .i64 0, .int .i64 0]) := by kernel_rfl
theorem zr194 : zeroB Try.prog 194 = some (.slice none 0 0) := by kernel_rfl
theorem zr3 : zeroB Try.prog 3 = some (.int .i64 0) := by kernel_rfl
theorem zr30 : zeroB Try.prog 30 = some (.slice none 0 0) := by kernel_rfl
end TWordsd
open TWordsd

/-- spec.l9Match -/
theorem c_spec_l9Match {w : World} {LL_l _B_l : Nat} {_v_l : Value} {l : List Token} (_h_l : Ls Token.cs 4 w LL_l _B_l _v_l l) {LL_wd _B_wd : Nat} {_v_wd : Value} {wd : List Int} (_h_wd : Ls ics 1 w LL_wd _B_wd _v_wd wd) (t : Tr) (_ht : treeL l = some t) (hw : wd.length ≤ 4096) (hbl : l.length ≤ 1048576) :
    Ctr Try.prog 131 #[_v_l, _v_wd] w (fun v w' => v = .bool (mtT wd t 0 wd.length) ∧ Ch [] w w') := by
  obtain ⟨_A_l, _C_l, _e1_l⟩ := _h_l.val
  subst _e1_l
  have _l_l := _h_l.len
  have _h_l := _h_l.here (by decide)
  obtain ⟨_A_wd, _C_wd, _e1_wd⟩ := _h_wd.val
  subst _e1_wd
  have _l_wd := _h_wd.len
  have _h_wd := _h_wd.here (by decide)
  have E := Ch.refl [] w
  refine Ctr_of_W (N := 151) (vs0 := [(.slice _A_l l.length _C_l), (.slice _A_wd wd.length _C_wd)]) Try.func131 rfl rfl rfl ?_
  refine W_seq fun _K_1 _hK_1 => ?_
  refine W_region ?_
  refine WL_step rfl rfl (r_assign rfl) ?_
  refine WL_nil ?_
  refine thn_nrm (_hK_1 _ _ ?_)
  clear _hK_1
  refine W_seq fun _K_2 _hK_2 => ?_
  refine W_region ?_
  refine WL_step rfl rfl (r_move rfl) ?_
  refine WL_step rfl rfl (r_len (by rw [el30]; rfl) rfl) ?_
  refine WL_step rfl rfl (r_add (by omega) rfl rfl) ?_
  refine WL_step rfl rfl (r_assign rfl) ?_
  refine WL_nil ?_
  refine thn_nrm (_hK_2 _ _ ?_)
  clear _hK_2
  refine W_seq fun _K_3 _hK_3 => ?_
  refine W_region ?_
  refine WL_s rfl rfl ?_
  refine s_buildSlice0 (k := 1) Sv.cs el196 sz194 fun _v17 _w_4 _q17 _lo17 _cw_4 => ?_
  have _cw_4z := _cw_4.size
  have E := E.trans _cw_4
  obtain ⟨_Av17, _Cv17, _ev17⟩ := _q17.val
  subst _ev17
  have _lv17 := _q17.len
  have _hiv17 := _q17.lt
  refine WL_step rfl rfl (r_assign rfl) ?_
  refine WL_nil ?_
  refine thn_nrm (_hK_3 _ _ ?_)
  clear _hK_3
  refine W_seq fun _K_5 _hK_5 => ?_
  refine W_seq fun _K_6 _hK_6 => ?_
  refine W_region ?_
  refine WL_step rfl rfl (r_assign rfl) ?_
  refine WL_nil ?_
  refine thn_nrm (_hK_6 _ _ ?_)
  clear _hK_6
  refine W_block ?_
  have _oi_7 : Ol Sv.cs 194 1 _w_4 (.slice _Av17 (([] : List Sv)).length _Cv17) (([] : List Sv)) := by
    have hx := _q17
    exact hx
  refine W_loop (σ := Nat × List Sv × List Tr × Value) (fun ⟨i, vs, st, sv⟩ => [(0, (.slice _A_l l.length _C_l)), (1, (.slice _A_wd wd.length _C_wd)), (4, (.bool false)), (5, (.int .i64 (((wd.length : Nat) : Int) + 1))), (6, sv), (7, (.int .i64 ((i : Nat) : Int)))]) (fun ⟨i, vs, st, sv⟩ wx => Ch [] w wx ∧ _w_4.heap.size ≤ wx.heap.size ∧ (i ≤ l.length) ∧ (vs.length = st.length) ∧ (st.length ≤ i) ∧ (prs [] (l.take i) = some st) ∧ Ol Sv.cs 194 1 wx sv vs ∧ Lo w.heap.size sv ∧ RT wx wx.heap.size (bl sv) wd vs st) (fun ⟨i, vs, st, sv⟩ => l.length - i) (0, ([] : List Sv), ([] : List Tr), (.slice _Av17 (([] : List Sv)).length _Cv17)) (Sub.cons rfl (Sub.cons rfl (Sub.cons rfl (Sub.cons rfl (Sub.cons rfl (Sub.cons rfl (Sub.nil _))))))) ⟨E, (Nat.le_refl _), (by omega), rfl, (Nat.le_refl _), rfl, _oi_7, _lo17, RT.nil⟩ ?_
  rintro ⟨i, vs, st, sv⟩ _wr_8 ⟨E, _zz0, hi, hl, hs, hp, _o0_6, _lo0_6, ms⟩
  have _E0h := E
  have _E0hz := _E0h.size
  obtain ⟨Asv, Csv, esv⟩ := _o0_6.val
  subst esv
  have lsv := _o0_6.len
  have hisv := _o0_6.lt
  refine W_seq fun _K_9 _hK_9 => ?_
  refine W_seq fun _K_10 _hK_10 => ?_
  refine W_region ?_
  refine WL_step rfl rfl (r_move rfl) ?_
  refine WL_step rfl rfl (r_move rfl) ?_
  refine WL_step rfl rfl (r_len (by rw [el65]; rfl) rfl) ?_
  refine WL_step rfl rfl (r_lss rfl rfl) ?_
  refine WL_nil ?_
  refine thn_nrm (_hK_10 _ _ ?_)
  clear _hK_10
  refine W_cond rfl (fun _h21 => ?_) (fun _h21 => ?_)
  · have _kb_11 := _h21
    have _h21 := bt_d _h21
    refine W_skip ?_
    refine thn_nrm (_hK_9 _ _ ?_)
    clear _hK_9
    refine W_seq fun _K_12 _hK_12 => ?_
    refine W_block ?_
    refine W_seq fun _K_13 _hK_13 => ?_
    refine W_region ?_
    refine WL_step rfl rfl (r_move rfl) ?_
    refine WL_step rfl rfl (r_len (by rw [el196]; rfl) rfl) ?_
    refine WL_step rfl rfl (r_assign rfl) ?_
    refine WL_nil ?_
    refine thn_nrm (_hK_13 _ _ ?_)
    clear _hK_13
    refine W_seq fun _K_14 _hK_14 => ?_
    refine W_region ?_
    refine WL_step rfl rfl (r_move rfl) ?_
    refine WL_step rfl rfl (r_move rfl) ?_
    refine WL_s rfl rfl ?_
    have _f_15 := (_h_l.ch0 _E0h)
    refine (s_index _f_15 Token.len el65 sz126 rfl rfl rfl (by omega) fun _p28 _y28 _hy28 _a28 => ?_)
    obtain ⟨s2, _p1, _p2⟩ := prs_go _ht hp _hy28
    refine WL_step rfl rfl (r_loadAtA0 _a28 agg126 sz126 rfl) ?_
    refine WL_s rfl rfl ?_
    refine s_alloc zr126 fun _b9 _w_16 _m9 _cw_16 _e9 => ?_
    have _cw_16z := _cw_16.size
    have E := E.trans _cw_16
    have _z9 := _m9.lt
    replace _m9 : Blk _w_16 _b9 126 [(.int .i64 0), (.int .i64 0), (.int .i64 0), (.int .i64 0)] := _m9
    refine WL_s rfl rfl ?_
    refine s_storeA (off := 0) 4 _m9 sz126 rfl (us := [(.int .i64 _y28.kind), (.int .i64 _y28.letter), (.int .i64 _y28.low), (.int .i64 _y28.high)]) rfl rfl rfl rfl fun _w_17 _m_18 _cw_17 => ?_
    have _cw_17z := _cw_17.size
    have E := E.step _cw_17 (fun i hi => .inl (by have _h1 := List.mem_singleton.1 hi; omega))
    replace _m_18 : Blk _w_17 _b9 126 [(.int .i64 _y28.kind), (.int .i64 _y28.letter), (.int .i64 _y28.low), (.int .i64 _y28.high)] := _m_18
    refine WL_nil ?_
    refine thn_nrm (_hK_14 _ _ ?_)
    clear _hK_14
    refine W_seq fun _K_19 _hK_19 => ?_
    refine W_region ?_
    refine WL_step rfl rfl (r_fieldAddr fa126_0 rfl) ?_
    refine WL_step rfl rfl (r_loadAt _m_18.at_ agg3 rfl rfl) ?_
    refine WL_nil ?_
    refine thn_nrm (_hK_19 _ _ ?_)
    clear _hK_19
    refine W_block ?_
    refine W_seq fun _K_20 _hK_20 => ?_
    refine W_region ?_
    refine WL_step rfl rfl (r_eql rfl rfl) ?_
    refine WL_step rfl rfl (r_assign rfl) ?_
    refine WL_nil ?_
    refine thn_nrm (_hK_20 _ _ ?_)
    clear _hK_20
    refine W_cond rfl (fun _h37 => ?_) (fun _h37 => ?_)
    · have _kb_21 := _h37
      have _h37 := bt_d _h37
      have es9 := push_k0 _p1 (by unfold arK; rw [if_neg (by omega), if_neg (by omega)])
      have em2 := ml2 (w := wd) (y := _y28) (by omega)
      refine W_region ?_
      refine WL_step rfl rfl (r_move rfl) ?_
      refine WL_step rfl rfl (r_move rfl) ?_
      refine WL_s rfl rfl ?_
      refine Step.call (r_call (xs := [.tmp 40, .const (Go.Value.bool true)]) fk180 rfl) (c_spec_l9Grid (wd.length + 1) _ (by omega)) fun _v41 _w_22 _q41 => ?_
      obtain ⟨u41_0, _vs41_0, rfl, _q_u41_0, _lo_u41_0, _od_vs41_0, _sep_vs41_0, _cw_22⟩ := _q41
      have _cw_22z := _cw_22.size
      have E := E.trans _cw_22
      obtain ⟨Au41_0, Cu41_0, eu41_0⟩ := _q_u41_0.val
      subst eu41_0
      have lu41_0 := _q_u41_0.len
      have _hiu41_0 := _q_u41_0.lt
      refine WL_s rfl rfl ?_
      refine s_buildSlice (cs := Sv.cs) (parts := [(0, .tmp 41)]) (⟨none, 0, 0⟩ : Sv) [(⟨Au41_0, (_vs41_0).length, Cu41_0⟩ : Sv)] el196 sz194 zr194 Sv.len (by decide) rfl rfl rfl (by decide) (by decide) rfl fun _v42 _w_23 _q42 _lo42 _cw_23 => ?_
      have _cw_23z := _cw_23.size
      have E := E.trans _cw_23
      obtain ⟨_Av42, _Cv42, _ev42⟩ := _q42.val
      subst _ev42
      have _lv42 := _q42.len
      have _hiv42 := _q42.lt
      refine WL_s rfl rfl ?_
      have _f_25 := ((((_o0_6.ch0 _cw_16).ch _cw_17 (fun g hg hm => by have _h0 := List.mem_singleton.1 hm; have _h2 := _lo0_6 _ hg; have _h3 := hisv _ hg; omega)).ch0 _cw_22).ch0 _cw_23)
      refine s_append (cs := Sv.cs) el196 sz194 by194 zr194 rfl (by decide) Sv.one _f_25 _q42.ls rfl rfl (by simp only [List.length_singleton, List.length_take, List.length_drop]; omega) (by simp only [List.length_singleton, List.length_take, List.length_drop]; omega) _lo0_6 (by omega) fun _v43 _w_24 _q43 _lo43 _ap43 _cw_24 => ?_
      have _cw_24z := _cw_24.size
      have E := E.step _cw_24 (fun i hi => .inl (by have _h1 := _lo0_6 _ hi; omega))
      obtain ⟨_Av43, _Cv43, _ev43⟩ := _q43.val
      subst _ev43
      have _lv43 := _q43.len
      have _hiv43 := _q43.lt
      refine WL_step rfl rfl (r_assign rfl) ?_
      refine WL_nil ?_
      refine inB_nrm ?_
      refine inB_nrm ?_
      refine thn_nrm (_hK_12 _ _ ?_)
      clear _hK_12
      refine W_region ?_
      refine WL_step rfl rfl (r_move rfl) ?_
      refine WL_step rfl rfl (r_add (by omega) rfl rfl) ?_
      refine WL_step rfl rfl (r_assign rfl) ?_
      refine WL_nil ?_
      have _on_26 : Ol Sv.cs 194 1 _w_24 (.slice _Av43 ((vs ++ [(⟨Au41_0, (_vs41_0).length, Cu41_0⟩ : Sv)])).length _Cv43) ((vs ++ [(⟨Au41_0, (_vs41_0).length, Cu41_0⟩ : Sv)])) := by
        have hx := _q43
        exact hx
      have _f_27 := (((((ms.ch0 _cw_16).ch _cw_17 (fun i hm => by have _h1 := List.mem_singleton.1 hm; left; omega)).ch0 _cw_22).ch0 _cw_23).ch _cw_24 (fun i hm => by right; exact hm))
      have _f_28 := ((_q_u41_0.ch0 _cw_23).ch _cw_24 (fun g hg hm => by have _h1 := _lo0_6 _ hm; have _h2 := hisv _ hm; have _h3 := _lo_u41_0 _ hg; have _h4 := _hiu41_0 _ hg; omega))
      have _f_29 := ((_od_vs41_0.ch0 _cw_23).ch _cw_24 (fun i hm => by have _h1 := _lo0_6 _ hm; have _h2 := hisv _ hm; omega))
      exact thn_nrm (Exists.intro ((i + 1), (vs ++ [(⟨Au41_0, (_vs41_0).length, Cu41_0⟩ : Sv)]), s2, (.slice _Av43 ((vs ++ [(⟨Au41_0, (_vs41_0).length, Cu41_0⟩ : Sv)])).length _Cv43)) ⟨⟨E, (by omega), (by omega), (by rw [es9]; simp; omega), (by rw [es9]; simp; omega), _p2, _on_26, (Lo.down _lo43 (by omega)), (by rw [es9]; exact (RT.add _f_27 (v := (⟨Au41_0, (_vs41_0).length, Cu41_0⟩ : Sv)) (Ol.lsR _f_28 (Lo.down _lo_u41_0 (by omega)) (lo := _w_17.heap.size) (hi := _w_22.heap.size) (fun g hg => by have _h1 := _hiu41_0 g hg; omega)) (Od.rdR (_f_29.eq (by rw [em2]))) (by omega) (by omega) (fun g hm => by rcases _ap43 with ea | ea; (rw [ea] at hm; have _h1 := _lo0_6 _ hm; have _h2 := hisv _ hm; omega); (have z2hm := _hiv43 _ hm; rw [ea] at hm; have _z1 := List.mem_singleton.1 hm; omega)) (fun g hm => by rcases _ap43 with ea | ea; (rw [ea] at hm; left; exact hm); (have z2hm := _hiv43 _ hm; rw [ea] at hm; have _z1 := List.mem_singleton.1 hm; right; omega))).eq (by simp_all <;> omega))⟩, Sub.cons rfl (Sub.cons rfl (Sub.cons rfl (Sub.cons rfl (Sub.cons rfl (Sub.cons rfl (Sub.nil _)))))), (by first | omega | (dsimp only; omega))⟩)
    · have _kb_21 := _h37
      have _h37 := bf_d _h37
      refine W_seq fun _K_30 _hK_30 => ?_
      refine W_region ?_
      refine WL_step rfl rfl (r_eql rfl rfl) ?_
      refine WL_step rfl rfl (r_assign rfl) ?_
      refine WL_nil ?_
      refine thn_nrm (_hK_30 _ _ ?_)
      clear _hK_30
      refine W_cond rfl (fun _h44 => ?_) (fun _h44 => ?_)
      · have _kb_31 := _h44
        have _h44 := bt_d _h44
        have es9 := push_k0 _p1 (by unfold arK; rw [if_neg (by omega), if_neg (by omega)])
        have em3 := ml3 (w := wd) (y := _y28) (by omega)
        refine W_seq fun _K_32 _hK_32 => ?_
        refine W_region ?_
        refine WL_step rfl rfl (r_move rfl) ?_
        refine WL_s rfl rfl ?_
        refine Step.call (r_call (xs := [.tmp 46, .const (Go.Value.bool false)]) fk180 rfl) (c_spec_l9Grid (wd.length + 1) _ (by omega)) fun _v47 _w_33 _q47 => ?_
        obtain ⟨u47_0, _vs47_0, rfl, _q_u47_0, _lo_u47_0, _od_vs47_0, _sep_vs47_0, _cw_33⟩ := _q47
        have _cw_33z := _cw_33.size
        have E := E.trans _cw_33
        obtain ⟨Au47_0, Cu47_0, eu47_0⟩ := _q_u47_0.val
        subst eu47_0
        have lu47_0 := _q_u47_0.len
        have _hiu47_0 := _q_u47_0.lt
        refine WL_step rfl rfl (r_assign rfl) ?_
        refine WL_nil ?_
        refine thn_nrm (_hK_32 _ _ ?_)
        clear _hK_32
        refine W_seq fun _K_34 _hK_34 => ?_
        refine W_seq fun _K_35 _hK_35 => ?_
        refine W_region ?_
        refine WL_step rfl rfl (r_assign rfl) ?_
        refine WL_nil ?_
        refine thn_nrm (_hK_35 _ _ ?_)
        clear _hK_35
        refine W_block ?_
        have _f_36 := (((_f_15.ch0 _cw_16).ch _cw_17 (fun i hi => by have _h1 := List.mem_singleton.1 hi; omega)).ch0 _cw_33)
        have _f_37 := (((_o0_6.ch0 _cw_16).ch _cw_17 (fun g hg hm => by have _h0 := List.mem_singleton.1 hm; have _h2 := _lo0_6 _ hg; have _h3 := hisv _ hg; omega)).ch0 _cw_33)
        have _f_38 := (_m_18.ch0 _cw_33)
        have _f_39 := (((ms.ch0 _cw_16).ch _cw_17 (fun i hm => by have _h1 := List.mem_singleton.1 hm; left; omega)).ch0 _cw_33)
        refine W_loop (σ := Nat) (fun (k : Nat) => [(0, (.slice _A_l l.length _C_l)), (1, (.slice _A_wd wd.length _C_wd)), (4, (.bool false)), (5, (.int .i64 (((wd.length : Nat) : Int) + 1))), (6, (.slice Asv (vs).length Csv)), (7, (.int .i64 ((i : Nat) : Int))), (8, (.int .i64 ((vs.length : Nat) : Int))), (9, (.pointer (some ⟨_b9, 0, none⟩))), (10, (.slice Au47_0 (_vs47_0).length Cu47_0)), (11, (.int .i64 ((k : Nat) : Int))), (21, (.bool (decide (((i : Nat) : Int) < ((l.length : Nat) : Int))))), (31, (.int .i64 _y28.kind)), (37, (.bool (decide (_y28.kind = 2)))), (44, (.bool (decide (_y28.kind = 3))))]) (fun (k : Nat) wx => Ch [] w wx ∧ _w_33.heap.size ≤ wx.heap.size ∧ (k ≤ wd.length) ∧ Ls Token.cs 4 wx LL_l w.heap.size (.slice _A_l l.length _C_l) l ∧ Ol Sv.cs 194 1 wx (.slice Asv (vs).length Csv) vs ∧ Blk wx _b9 126 [(.int .i64 _y28.kind), (.int .i64 _y28.letter), (.int .i64 _y28.low), (.int .i64 _y28.high)] ∧ Ol Sv.cs 24 1 wx (.slice Au47_0 (_vs47_0).length Cu47_0) _vs47_0 ∧ RT wx _wr_8.heap.size (bl (.slice Asv (vs).length Csv)) wd vs st ∧ Od bcs 4 1 wx _w_17.heap.size _w_33.heap.size _vs47_0 (grd (wd.length + 1) (lupt _y28.letter wd k))) (fun (k : Nat) => wd.length - k) 0 (Sub.cons rfl (Sub.cons rfl (Sub.cons rfl (Sub.cons rfl (Sub.cons rfl (Sub.cons rfl (Sub.cons rfl (Sub.cons rfl (Sub.cons rfl (Sub.cons rfl (Sub.cons rfl (Sub.cons rfl (Sub.cons rfl (Sub.cons rfl (Sub.nil _))))))))))))))) ⟨E, (Nat.le_refl _), (by omega), _f_36, _f_37, _f_38, _q_u47_0, _f_39, (_od_vs47_0.eq lupt_zero)⟩ ?_
        rintro k _wr_40 ⟨E, _zz1, _hk, _F1_0, _F1_2, _F1_3, _F1_4, _F1_6, od⟩
        have _E1h := E
        have _E1hz := _E1h.size
        have _F1_3z := _F1_3.lt
        refine W_seq fun _K_41 _hK_41 => ?_
        refine W_seq fun _K_42 _hK_42 => ?_
        refine W_region ?_
        refine WL_step rfl rfl (r_move rfl) ?_
        refine WL_step rfl rfl (r_move rfl) ?_
        refine WL_step rfl rfl (r_len (by rw [el30]; rfl) rfl) ?_
        refine WL_step rfl rfl (r_lss rfl rfl) ?_
        refine WL_nil ?_
        refine thn_nrm (_hK_42 _ _ ?_)
        clear _hK_42
        refine W_cond rfl (fun _h51 => ?_) (fun _h51 => ?_)
        · have _kb_43 := _h51
          have _h51 := bt_d _h51
          refine W_skip ?_
          refine thn_nrm (_hK_41 _ _ ?_)
          clear _hK_41
          refine W_seq fun _K_44 _hK_44 => ?_
          refine W_block ?_
          have _ln954 := (od).1
          rw [grd_len] at _ln954
          obtain ⟨go954, hgo954, lso954⟩ := Ol.lsE _F1_4 (by omega)
          obtain ⟨_y954, _hy954⟩ := get_some (xs := _vs47_0) (j := k) (by omega)
          have _sm954 := _sep_vs47_0 _ (mem_of_get _hy954)
          obtain ⟨_ys954, _hys954, _fs954, _rs954⟩ := od.ownget _hy954
          obtain ⟨_A954, _n954, _C954⟩ := _y954
          obtain rfl := _fs954.ls.eqn
          have _l954 := _fs954.len
          have _lo954 : Lo _w_17.heap.size (.slice _A954 _ys954.length _C954) := fun g hg => (_rs954 g hg).1
          have hi954 : ∀ g ∈ bl (.slice _A954 _ys954.length _C954), g < _w_33.heap.size := fun g hg => (_rs954 g hg).2
          replace _fs954 : Ol bcs 4 1 _wr_40 (.slice _A954 _ys954.length _C954) _ys954 := _fs954
          have rl954 := row_len rfl _hys954
          refine W_drawC (bl (.slice _A954 _ys954.length _C954)) 15 mixed rfl fun _w_45 _cw_45 => ?_
          have _cw_45z := _cw_45.size
          have E := E.trans _cw_45
          refine DR_s 0 rfl (by kernel_rfl) rfl rfl (t_v (fun _ => (r_move rfl)) ?_)
          refine DR_s 1 rfl (by kernel_rfl) rfl rfl (t_v (fun _ => (r_move rfl)) ?_)
          have _f_46 := (lso954.ch0 _cw_45)
          refine DR_s 2 rfl (by kernel_rfl) rfl rfl (t_index _f_46 Sv.len el194 sz24 rfl rfl rfl (by omega) fun _p56 _y56 _hy56 _a56 => ?_)
          obtain rfl := get_uniq _hy954 _hy56
          replace _a56 : At _w_45 go954 (go954 + 1) _p56 ([(.slice _A954 _ys954.length _C954)]) := _a56
          refine DR_s 3 rfl (by kernel_rfl) rfl rfl (t_loadAt0 _a56 (fun i hm => ne_blk (_sm954 i hm) hgo954) agg24 rfl rfl ?_)
          refine DR_s 4 rfl (by kernel_rfl) rfl rfl (t_v (fun _ => (r_move rfl)) ?_)
          refine DR_s 5 rfl (by kernel_rfl) rfl rfl (t_v (fun _ => (r_add (by omega) rfl rfl)) ?_)
          refine DR_s 6 rfl (by kernel_rfl) rfl rfl (t_v (fun _ => (r_move rfl)) ?_)
          refine DR_s 7 rfl (by kernel_rfl) rfl rfl (t_v (fun _ => (r_move rfl)) ?_)
          have _f_47 := ((_h_wd.ch0 _E1h).ch0 _cw_45)
          refine DR_s 8 rfl (by kernel_rfl) rfl rfl (t_index _f_47 ics_len el30 sz3 rfl rfl rfl (by omega) fun _p62 _y62 _hy62 _a62 => ?_)
          refine DR_s 9 rfl (by kernel_rfl) rfl rfl (t_loadAt0 _a62 (fun i hm => by have _h1 := _lo954 _ hm; have _h2 := hi954 _ hm; omega) agg3 rfl rfl ?_)
          refine DR_s 10 rfl (by kernel_rfl) rfl rfl (t_v (fun _ => (r_fieldAddr fa126_1 rfl)) ?_)
          have _f_48 := (_F1_3.ch0 _cw_45)
          refine DR_s 11 rfl (by kernel_rfl) rfl rfl (t_loadAt _f_48.at_ (fun i hm => by have _h1 := _lo954 _ hm; have _h2 := hi954 _ hm; omega) agg3 rfl rfl ?_)
          refine DR_s 12 rfl (by kernel_rfl) rfl rfl (t_v (fun _ => (r_eql rfl rfl)) ?_)
          refine DR_one 13 (by kernel_rfl) ?_
          refine DO_s rfl rfl rfl ?_
          have _f_49 := (_fs954.ch0 _cw_45)
          refine s_indexO (j := (k + 1)) _f_49 el24 sz4 rfl rfl rfl (by first | omega | (simp; omega)) fun _g67 _o67 _cp67 _q67 => ?_
          refine ⟨(Ch.refl _ _), ?_⟩
          refine DR_one 14 (by kernel_rfl) ?_
          refine DO_s rfl rfl rfl ?_
          refine s_storeO (j := (k + 1)) (decide (_y62 = _y28.letter)) _f_49 _q67 bcs_len sz4 rfl rfl rfl rfl (by first | omega | (simp; omega)) fun _w_50 _o_51 _cw_50 => ?_
          have _f_52 := (od.ch0 _cw_45)
          have _cw_50z := _cw_50.size
          have E := E.step _cw_50 (fun i hi => .inl (by have _h1 := _lo954 _ hi; omega))
          have _od_53 := Od.set _f_52 _hy954 _hys954 _cw_50 _o_51
          have _S_54 : Ch (bl (.slice _A954 _ys954.length _C954)) _w_45 _w_50 := ((Ch.refl _ _).step _cw_50 (fun i hm => by exact .inr hm))
          refine ⟨_S_54, ?_⟩
          refine DR_done (by kernel_rfl) ?_
          refine inB_nrm ?_
          refine thn_nrm (_hK_44 _ _ ?_)
          clear _hK_44
          refine W_region ?_
          refine WL_step rfl rfl (r_move rfl) ?_
          refine WL_step rfl rfl (r_add (by omega) rfl rfl) ?_
          refine WL_step rfl rfl (r_assign rfl) ?_
          refine WL_nil ?_
          have _f_55 := ((_F1_0.ch0 _cw_45).ch _cw_50 (fun i hi => by have _h1 := _lo954 _ hi; omega))
          have _f_56 := ((_F1_2.ch0 _cw_45).ch _cw_50 (fun g hg hm => by have _h1 := _lo954 _ hm; have _h2 := hi954 _ hm; have _h3 := _lo0_6 _ hg; have _h4 := hisv _ hg; omega))
          have _f_57 := (_f_48.ch _cw_50 (fun hm => by have _h1 := _lo954 _ hm; have _h2 := hi954 _ hm; omega))
          have _f_58 := ((_F1_4.ch0 _cw_45).ch _cw_50 (fun g hg hm => by exact _sm954 _ hm hg))
          have _f_59 := ((_F1_6.ch0 _cw_45).ch _cw_50 (fun i hm => by have _h1 := _lo954 _ hm; have _h2 := hi954 _ hm; left; omega))
          exact thn_nrm (Exists.intro (k + 1) ⟨⟨E, (by omega), (by omega), _f_55, _f_56, _f_57, _f_58, _f_59, (_od_53.eq (lupt_step rfl _hys954 _hy62 rfl))⟩, Sub.cons rfl (Sub.cons rfl (Sub.cons rfl (Sub.cons rfl (Sub.cons rfl (Sub.cons rfl (Sub.cons rfl (Sub.cons rfl (Sub.cons rfl (Sub.cons rfl (Sub.cons rfl (Sub.cons rfl (Sub.cons rfl (Sub.cons rfl (Sub.nil _)))))))))))))), (by first | omega | (dsimp only; omega))⟩)
        · have _kb_43 := _h51
          have _h51 := bf_d _h51
          refine W_exit (thn_exit (thn_exit (inB_hit ?_)))
          refine thn_nrm (_hK_34 _ _ ?_)
          clear _hK_34
          refine W_region ?_
          refine WL_step rfl rfl (r_move rfl) ?_
          refine WL_step rfl rfl (r_move rfl) ?_
          refine WL_s rfl rfl ?_
          refine s_buildSlice (cs := Sv.cs) (parts := [(0, .tmp 69)]) (⟨none, 0, 0⟩ : Sv) [(⟨Au47_0, (_vs47_0).length, Cu47_0⟩ : Sv)] el196 sz194 zr194 Sv.len (by decide) rfl rfl rfl (by decide) (by decide) rfl fun _v70 _w_60 _q70 _lo70 _cw_60 => ?_
          have _cw_60z := _cw_60.size
          have E := E.trans _cw_60
          obtain ⟨_Av70, _Cv70, _ev70⟩ := _q70.val
          subst _ev70
          have _lv70 := _q70.len
          have _hiv70 := _q70.lt
          refine WL_s rfl rfl ?_
          have _f_62 := (_F1_2.ch0 _cw_60)
          refine s_append (cs := Sv.cs) el196 sz194 by194 zr194 rfl (by decide) Sv.one _f_62 _q70.ls rfl rfl (by simp only [List.length_singleton, List.length_take, List.length_drop]; omega) (by simp only [List.length_singleton, List.length_take, List.length_drop]; omega) _lo0_6 (by omega) fun _v71 _w_61 _q71 _lo71 _ap71 _cw_61 => ?_
          have _cw_61z := _cw_61.size
          have E := E.step _cw_61 (fun i hi => .inl (by have _h1 := _lo0_6 _ hi; omega))
          obtain ⟨_Av71, _Cv71, _ev71⟩ := _q71.val
          subst _ev71
          have _lv71 := _q71.len
          have _hiv71 := _q71.lt
          refine WL_step rfl rfl (r_assign rfl) ?_
          refine WL_nil ?_
          refine inB_nrm ?_
          refine inB_nrm ?_
          refine thn_nrm (_hK_12 _ _ ?_)
          clear _hK_12
          refine W_region ?_
          refine WL_step rfl rfl (r_move rfl) ?_
          refine WL_step rfl rfl (r_add (by omega) rfl rfl) ?_
          refine WL_step rfl rfl (r_assign rfl) ?_
          refine WL_nil ?_
          have _on_63 : Ol Sv.cs 194 1 _w_61 (.slice _Av71 ((vs ++ [(⟨Au47_0, (_vs47_0).length, Cu47_0⟩ : Sv)])).length _Cv71) ((vs ++ [(⟨Au47_0, (_vs47_0).length, Cu47_0⟩ : Sv)])) := by
            have hx := _q71
            exact hx
          have _f_64 := ((_F1_6.ch0 _cw_60).ch _cw_61 (fun i hm => by right; exact hm))
          have _f_65 := ((_F1_4.ch0 _cw_60).ch _cw_61 (fun g hg hm => by have _h1 := _lo0_6 _ hm; have _h2 := hisv _ hm; have _h3 := _lo_u47_0 _ hg; have _h4 := _hiu47_0 _ hg; omega))
          have _f_66 := ((od.ch0 _cw_60).ch _cw_61 (fun i hm => by have _h1 := _lo0_6 _ hm; have _h2 := hisv _ hm; omega))
          exact thn_nrm (Exists.intro ((i + 1), (vs ++ [(⟨Au47_0, (_vs47_0).length, Cu47_0⟩ : Sv)]), s2, (.slice _Av71 ((vs ++ [(⟨Au47_0, (_vs47_0).length, Cu47_0⟩ : Sv)])).length _Cv71)) ⟨⟨E, (by omega), (by omega), (by rw [es9]; simp; omega), (by rw [es9]; simp; omega), _p2, _on_63, (Lo.down _lo71 (by omega)), (by rw [es9]; exact (RT.add _f_64 (v := (⟨Au47_0, (_vs47_0).length, Cu47_0⟩ : Sv)) (Ol.lsR _f_65 (Lo.down _lo_u47_0 (by omega)) (lo := _w_17.heap.size) (hi := _w_33.heap.size) (fun g hg => by have _h1 := _hiu47_0 g hg; omega)) (Od.rdR (_f_66.eq (by rw [em3]; exact lupt_all rfl (by omega)))) (by omega) (by omega) (fun g hm => by rcases _ap71 with ea | ea; (rw [ea] at hm; have _h1 := _lo0_6 _ hm; have _h2 := hisv _ hm; omega); (have z2hm := _hiv71 _ hm; rw [ea] at hm; have _z1 := List.mem_singleton.1 hm; omega)) (fun g hm => by rcases _ap71 with ea | ea; (rw [ea] at hm; left; exact hm); (have z2hm := _hiv71 _ hm; rw [ea] at hm; have _z1 := List.mem_singleton.1 hm; right; omega))).eq (by simp_all <;> omega))⟩, Sub.cons rfl (Sub.cons rfl (Sub.cons rfl (Sub.cons rfl (Sub.cons rfl (Sub.cons rfl (Sub.nil _)))))), (by first | omega | (dsimp only; omega))⟩)
      · have _kb_31 := _h44
        have _h44 := bf_d _h44
        refine W_seq fun _K_67 _hK_67 => ?_
        refine W_region ?_
        refine WL_step rfl rfl (r_eql rfl rfl) ?_
        refine WL_step rfl rfl (r_assign rfl) ?_
        refine WL_nil ?_
        refine thn_nrm (_hK_67 _ _ ?_)
        clear _hK_67
        refine W_cond rfl (fun _h72 => ?_) (fun _h72 => ?_)
        · have _kb_68 := _h72
          have _h72 := bt_d _h72
          obtain ⟨ta, tb, r9, _e9, es9⟩ := push_k2 _p1 (by unfold arK; rw [if_pos (by omega)])
          subst _e9
          simp only [List.length_cons] at hl hs
          have em4 := ml4 (w := wd) (a := ta) (b := tb) (y := _y28) (by omega)
          refine W_seq fun _K_69 _hK_69 => ?_
          refine W_drawC [] 12 mixed rfl fun _w_70 _cw_70 => ?_
          have _cw_70z := _cw_70.size
          have E := E.trans _cw_70
          refine DR_s 0 rfl (by kernel_rfl) rfl rfl (t_v (fun _ => (r_move rfl)) ?_)
          refine DR_s 1 rfl (by kernel_rfl) rfl rfl (t_v (fun _ => (r_move rfl)) ?_)
          refine DR_s 2 rfl (by kernel_rfl) rfl rfl (t_v (fun _ => (r_sub (by omega) rfl rfl)) ?_)
          have _f_71 := (((_o0_6.ch0 _cw_16).ch _cw_17 (fun g hg hm => by have _h0 := List.mem_singleton.1 hm; have _h2 := _lo0_6 _ hg; have _h3 := hisv _ hg; omega)).ch0 _cw_70)
          have _f_72 := (((ms.ch0 _cw_16).ch _cw_17 (fun i hm => by have _h1 := List.mem_singleton.1 hm; left; omega)).ch0 _cw_70)
          refine DR_s 3 rfl (by kernel_rfl) rfl rfl (t_index (j := (((vs.length : Nat) : Int) - 2).toNat) _f_71.ls Sv.len el196 sz194 rfl rfl (by omega) (by omega) fun _p77 _y77 _hy77 _a77 => ?_)
          obtain ⟨tm77, us77, ml77, mh77, ht77, _fs77, _rd77, mb77⟩ := RT.get _f_72 _hy77
          obtain ⟨_A77, _n77, _C77⟩ := _y77
          obtain rfl := _fs77.eqn
          have _l77 := _fs77.len
          replace _fs77 : Ls Sv.cs 1 _w_70 ml77 mh77 (.slice _A77 us77.length _C77) us77 := _fs77
          obtain rfl := (top2 (by omega) ht77).symm
          replace _a77 : At _w_70 0 _w_70.heap.size _p77 ([(.slice _A77 us77.length _C77)]) := _a77
          refine DR_s 4 rfl (by kernel_rfl) rfl rfl (t_loadAt0 _a77 (fun i hi => absurd hi List.not_mem_nil) agg194 rfl rfl ?_)
          refine DR_s 5 rfl (by kernel_rfl) rfl rfl (t_v (fun _ => (r_move rfl)) ?_)
          refine DR_s 6 rfl (by kernel_rfl) rfl rfl (t_v (fun _ => (r_move rfl)) ?_)
          refine DR_s 7 rfl (by kernel_rfl) rfl rfl (t_v (fun _ => (r_sub (by omega) rfl rfl)) ?_)
          refine DR_s 8 rfl (by kernel_rfl) rfl rfl (t_index (j := (((vs.length : Nat) : Int) - 1).toNat) _f_71.ls Sv.len el196 sz194 rfl rfl (by omega) (by omega) fun _p82 _y82 _hy82 _a82 => ?_)
          obtain ⟨tm82, us82, ml82, mh82, ht82, _fs82, _rd82, mb82⟩ := RT.get _f_72 _hy82
          obtain ⟨_A82, _n82, _C82⟩ := _y82
          obtain rfl := _fs82.eqn
          have _l82 := _fs82.len
          replace _fs82 : Ls Sv.cs 1 _w_70 ml82 mh82 (.slice _A82 us82.length _C82) us82 := _fs82
          obtain rfl := (top1 (by first | omega | (simp only [List.length_cons]; omega)) ht82).symm
          replace _a82 : At _w_70 0 _w_70.heap.size _p82 ([(.slice _A82 us82.length _C82)]) := _a82
          refine DR_s 9 rfl (by kernel_rfl) rfl rfl (t_loadAt0 _a82 (fun i hi => absurd hi List.not_mem_nil) agg194 rfl rfl ?_)
          refine DR_one 10 (by kernel_rfl) ?_
          refine DO_s rfl rfl rfl ?_
          refine Step.call (r_call (xs := [.tmp 78, .tmp 83]) fk181 rfl) (c_spec_l9Joined _fs77 _rd77 _fs82 _rd82 (wd.length + 1) (mtT wd ta) (mtT wd tb) rfl rfl (mt_tri _ _) (mt_tri _ _) (by omega)) fun _v84 _w_73 _q84 => ?_
          obtain ⟨u84_0, _vs84_0, rfl, _q_u84_0, _lo_u84_0, _od_vs84_0, _sep_vs84_0, _cw_73⟩ := _q84
          have _cw_73z := _cw_73.size
          have E := E.trans _cw_73
          obtain ⟨Au84_0, Cu84_0, eu84_0⟩ := _q_u84_0.val
          subst eu84_0
          have lu84_0 := _q_u84_0.len
          have _hiu84_0 := _q_u84_0.lt
          have _S_74 : Ch [] _w_70 _w_73 := ((Ch.refl _ _).trans _cw_73)
          refine ⟨_S_74, ?_⟩
          refine DR_s 11 rfl (by kernel_rfl) rfl rfl (t_v (fun _ => (r_assign rfl)) ?_)
          refine DR_done (by kernel_rfl) ?_
          refine thn_nrm (_hK_69 _ _ ?_)
          clear _hK_69
          refine W_region ?_
          refine WL_step rfl rfl (r_move rfl) ?_
          refine WL_step rfl rfl (r_move rfl) ?_
          refine WL_step rfl rfl (r_sub (by omega) rfl rfl) ?_
          refine WL_s rfl rfl ?_
          have _f_75 := (_f_71.ch0 _cw_73)
          refine (s_cutO (ys := (vs.take ((((vs.length : Nat) : Int) - 2).toNat))) 0 ((((vs.length : Nat) : Int) - 2).toNat) _f_75 Sv.len el196 sz194 rfl rfl ⟨_, _, rfl, by omega⟩ (by omega) (by omega) rfl fun _v88 _q88 _bb88 _ln88 => ?_)
          obtain ⟨_A88, _C88, _e88⟩ := _q88.val
          subst _e88
          have _l88 := _q88.len
          have hi88 := _q88.lt
          refine WL_step rfl rfl (r_move rfl) ?_
          refine WL_s rfl rfl ?_
          refine s_buildSlice (cs := Sv.cs) (parts := [(0, .tmp 89)]) (⟨none, 0, 0⟩ : Sv) [(⟨Au84_0, (_vs84_0).length, Cu84_0⟩ : Sv)] el196 sz194 zr194 Sv.len (by decide) rfl rfl rfl (by decide) (by decide) rfl fun _v90 _w_76 _q90 _lo90 _cw_76 => ?_
          have _cw_76z := _cw_76.size
          have E := E.trans _cw_76
          obtain ⟨_Av90, _Cv90, _ev90⟩ := _q90.val
          subst _ev90
          have _lv90 := _q90.len
          have _hiv90 := _q90.lt
          refine WL_s rfl rfl ?_
          have _f_78 := (_q88.ch0 _cw_76)
          refine s_append (cs := Sv.cs) el196 sz194 by194 zr194 rfl (by decide) Sv.one _f_78 _q90.ls rfl rfl (by simp only [List.length_singleton, List.length_take, List.length_drop]; omega) (by simp only [List.length_singleton, List.length_take, List.length_drop]; omega) (fun g hg => _lo0_6 g (_bb88 ▸ hg)) (by omega) fun _v91 _w_77 _q91 _lo91 _ap91 _cw_77 => ?_
          have _cw_77z := _cw_77.size
          have E := E.step _cw_77 (fun i hi => .inl (by have _h1 := (fun g hg => _lo0_6 g (_bb88 ▸ hg)) _ hi; omega))
          obtain ⟨_Av91, _Cv91, _ev91⟩ := _q91.val
          subst _ev91
          have _lv91 := _q91.len
          have _hiv91 := _q91.lt
          refine WL_step rfl rfl (r_assign rfl) ?_
          refine WL_nil ?_
          refine inB_nrm ?_
          refine inB_nrm ?_
          refine thn_nrm (_hK_12 _ _ ?_)
          clear _hK_12
          refine W_region ?_
          refine WL_step rfl rfl (r_move rfl) ?_
          refine WL_step rfl rfl (r_add (by omega) rfl rfl) ?_
          refine WL_step rfl rfl (r_assign rfl) ?_
          refine WL_nil ?_
          have _on_79 : Ol Sv.cs 194 1 _w_77 (.slice _Av91 (((vs.take ((((vs.length : Nat) : Int) - 2).toNat)) ++ [(⟨Au84_0, (_vs84_0).length, Cu84_0⟩ : Sv)])).length _Cv91) (((vs.take ((((vs.length : Nat) : Int) - 2).toNat)) ++ [(⟨Au84_0, (_vs84_0).length, Cu84_0⟩ : Sv)])) := by
            have hx := _q91
            exact hx
          have _f_80 := (((_f_72.ch0 _cw_73).ch0 _cw_76).ch _cw_77 (fun i hm => by rw [_bb88] at hm; right; exact hm))
          have _f_81 := ((_q_u84_0.ch0 _cw_76).ch _cw_77 (fun g hg hm => by rw [_bb88] at hm; have _h1 := _lo0_6 _ hm; have _h2 := hisv _ hm; have _h3 := _lo_u84_0 _ hg; have _h4 := _hiu84_0 _ hg; omega))
          have _f_82 := ((_od_vs84_0.ch0 _cw_76).ch _cw_77 (fun i hm => by rw [_bb88] at hm; have _h1 := _lo0_6 _ hm; have _h2 := hisv _ hm; omega))
          exact thn_nrm (Exists.intro ((i + 1), ((vs.take ((((vs.length : Nat) : Int) - 2).toNat)) ++ [(⟨Au84_0, (_vs84_0).length, Cu84_0⟩ : Sv)]), s2, (.slice _Av91 (((vs.take ((((vs.length : Nat) : Int) - 2).toNat)) ++ [(⟨Au84_0, (_vs84_0).length, Cu84_0⟩ : Sv)])).length _Cv91)) ⟨⟨E, (by omega), (by omega), (by rw [es9]; simp; omega), (by rw [es9]; simp; omega), _p2, _on_79, (Lo.down _lo91 (by omega)), (by rw [es9]; exact (RT.add (RT.take _f_80 (k := 2) (by simp)) (v := (⟨Au84_0, (_vs84_0).length, Cu84_0⟩ : Sv)) (Ol.lsR _f_81 (Lo.down _lo_u84_0 (by omega)) (lo := _w_70.heap.size) (hi := _w_73.heap.size) (fun g hg => by have _h1 := _hiu84_0 g hg; omega)) (Od.rdR (_f_82.eq (by rw [em4]))) (by omega) (by omega) (fun g hm => by rcases _ap91 with ea | ea; (rw [ea] at hm; rw [_bb88] at hm; have _h1 := _lo0_6 _ hm; have _h2 := hisv _ hm; omega); (have z2hm := _hiv91 _ hm; rw [ea] at hm; have _z1 := List.mem_singleton.1 hm; omega)) (fun g hm => by rcases _ap91 with ea | ea; (rw [ea] at hm; rw [_bb88] at hm; left; exact hm); (have z2hm := _hiv91 _ hm; rw [ea] at hm; have _z1 := List.mem_singleton.1 hm; right; omega))).eq (by simp_all <;> omega))⟩, Sub.cons rfl (Sub.cons rfl (Sub.cons rfl (Sub.cons rfl (Sub.cons rfl (Sub.cons rfl (Sub.nil _)))))), (by first | omega | (dsimp only; omega))⟩)
        · have _kb_68 := _h72
          have _h72 := bf_d _h72
          refine W_seq fun _K_83 _hK_83 => ?_
          refine W_region ?_
          refine WL_step rfl rfl (r_eql rfl rfl) ?_
          refine WL_step rfl rfl (r_assign rfl) ?_
          refine WL_nil ?_
          refine thn_nrm (_hK_83 _ _ ?_)
          clear _hK_83
          refine W_cond rfl (fun _h92 => ?_) (fun _h92 => ?_)
          · have _kb_84 := _h92
            have _h92 := bt_d _h92
            obtain ⟨ta, tb, r9, _e9, es9⟩ := push_k2 _p1 (by unfold arK; rw [if_pos (by omega)])
            subst _e9
            simp only [List.length_cons] at hl hs
            have em5 := ml5 (w := wd) (a := ta) (b := tb) (y := _y28) (by omega)
            refine W_seq fun _K_85 _hK_85 => ?_
            refine W_drawC [] 12 mixed rfl fun _w_86 _cw_86 => ?_
            have _cw_86z := _cw_86.size
            have E := E.trans _cw_86
            refine DR_s 0 rfl (by kernel_rfl) rfl rfl (t_v (fun _ => (r_move rfl)) ?_)
            refine DR_s 1 rfl (by kernel_rfl) rfl rfl (t_v (fun _ => (r_move rfl)) ?_)
            refine DR_s 2 rfl (by kernel_rfl) rfl rfl (t_v (fun _ => (r_sub (by omega) rfl rfl)) ?_)
            have _f_87 := (((_o0_6.ch0 _cw_16).ch _cw_17 (fun g hg hm => by have _h0 := List.mem_singleton.1 hm; have _h2 := _lo0_6 _ hg; have _h3 := hisv _ hg; omega)).ch0 _cw_86)
            have _f_88 := (((ms.ch0 _cw_16).ch _cw_17 (fun i hm => by have _h1 := List.mem_singleton.1 hm; left; omega)).ch0 _cw_86)
            refine DR_s 3 rfl (by kernel_rfl) rfl rfl (t_index (j := (((vs.length : Nat) : Int) - 2).toNat) _f_87.ls Sv.len el196 sz194 rfl rfl (by omega) (by omega) fun _p97 _y97 _hy97 _a97 => ?_)
            obtain ⟨tm97, us97, ml97, mh97, ht97, _fs97, _rd97, mb97⟩ := RT.get _f_88 _hy97
            obtain ⟨_A97, _n97, _C97⟩ := _y97
            obtain rfl := _fs97.eqn
            have _l97 := _fs97.len
            replace _fs97 : Ls Sv.cs 1 _w_86 ml97 mh97 (.slice _A97 us97.length _C97) us97 := _fs97
            obtain rfl := (top2 (by omega) ht97).symm
            replace _a97 : At _w_86 0 _w_86.heap.size _p97 ([(.slice _A97 us97.length _C97)]) := _a97
            refine DR_s 4 rfl (by kernel_rfl) rfl rfl (t_loadAt0 _a97 (fun i hi => absurd hi List.not_mem_nil) agg194 rfl rfl ?_)
            refine DR_s 5 rfl (by kernel_rfl) rfl rfl (t_v (fun _ => (r_move rfl)) ?_)
            refine DR_s 6 rfl (by kernel_rfl) rfl rfl (t_v (fun _ => (r_move rfl)) ?_)
            refine DR_s 7 rfl (by kernel_rfl) rfl rfl (t_v (fun _ => (r_sub (by omega) rfl rfl)) ?_)
            refine DR_s 8 rfl (by kernel_rfl) rfl rfl (t_index (j := (((vs.length : Nat) : Int) - 1).toNat) _f_87.ls Sv.len el196 sz194 rfl rfl (by omega) (by omega) fun _p102 _y102 _hy102 _a102 => ?_)
            obtain ⟨tm102, us102, ml102, mh102, ht102, _fs102, _rd102, mb102⟩ := RT.get _f_88 _hy102
            obtain ⟨_A102, _n102, _C102⟩ := _y102
            obtain rfl := _fs102.eqn
            have _l102 := _fs102.len
            replace _fs102 : Ls Sv.cs 1 _w_86 ml102 mh102 (.slice _A102 us102.length _C102) us102 := _fs102
            obtain rfl := (top1 (by first | omega | (simp only [List.length_cons]; omega)) ht102).symm
            replace _a102 : At _w_86 0 _w_86.heap.size _p102 ([(.slice _A102 us102.length _C102)]) := _a102
            refine DR_s 9 rfl (by kernel_rfl) rfl rfl (t_loadAt0 _a102 (fun i hi => absurd hi List.not_mem_nil) agg194 rfl rfl ?_)
            refine DR_one 10 (by kernel_rfl) ?_
            refine DO_s rfl rfl rfl ?_
            refine Step.call (r_call (xs := [.tmp 98, .tmp 103]) fk182 rfl) (c_spec_l9Either _fs97 _rd97 _fs102 _rd102 (wd.length + 1) (mtT wd ta) (mtT wd tb) rfl rfl (mt_tri _ _) (mt_tri _ _) (by omega)) fun _v104 _w_89 _q104 => ?_
            obtain ⟨u104_0, _vs104_0, rfl, _q_u104_0, _lo_u104_0, _od_vs104_0, _sep_vs104_0, _cw_89⟩ := _q104
            have _cw_89z := _cw_89.size
            have E := E.trans _cw_89
            obtain ⟨Au104_0, Cu104_0, eu104_0⟩ := _q_u104_0.val
            subst eu104_0
            have lu104_0 := _q_u104_0.len
            have _hiu104_0 := _q_u104_0.lt
            have _S_90 : Ch [] _w_86 _w_89 := ((Ch.refl _ _).trans _cw_89)
            refine ⟨_S_90, ?_⟩
            refine DR_s 11 rfl (by kernel_rfl) rfl rfl (t_v (fun _ => (r_assign rfl)) ?_)
            refine DR_done (by kernel_rfl) ?_
            refine thn_nrm (_hK_85 _ _ ?_)
            clear _hK_85
            refine W_region ?_
            refine WL_step rfl rfl (r_move rfl) ?_
            refine WL_step rfl rfl (r_move rfl) ?_
            refine WL_step rfl rfl (r_sub (by omega) rfl rfl) ?_
            refine WL_s rfl rfl ?_
            have _f_91 := (_f_87.ch0 _cw_89)
            refine (s_cutO (ys := (vs.take ((((vs.length : Nat) : Int) - 2).toNat))) 0 ((((vs.length : Nat) : Int) - 2).toNat) _f_91 Sv.len el196 sz194 rfl rfl ⟨_, _, rfl, by omega⟩ (by omega) (by omega) rfl fun _v108 _q108 _bb108 _ln108 => ?_)
            obtain ⟨_A108, _C108, _e108⟩ := _q108.val
            subst _e108
            have _l108 := _q108.len
            have hi108 := _q108.lt
            refine WL_step rfl rfl (r_move rfl) ?_
            refine WL_s rfl rfl ?_
            refine s_buildSlice (cs := Sv.cs) (parts := [(0, .tmp 109)]) (⟨none, 0, 0⟩ : Sv) [(⟨Au104_0, (_vs104_0).length, Cu104_0⟩ : Sv)] el196 sz194 zr194 Sv.len (by decide) rfl rfl rfl (by decide) (by decide) rfl fun _v110 _w_92 _q110 _lo110 _cw_92 => ?_
            have _cw_92z := _cw_92.size
            have E := E.trans _cw_92
            obtain ⟨_Av110, _Cv110, _ev110⟩ := _q110.val
            subst _ev110
            have _lv110 := _q110.len
            have _hiv110 := _q110.lt
            refine WL_s rfl rfl ?_
            have _f_94 := (_q108.ch0 _cw_92)
            refine s_append (cs := Sv.cs) el196 sz194 by194 zr194 rfl (by decide) Sv.one _f_94 _q110.ls rfl rfl (by simp only [List.length_singleton, List.length_take, List.length_drop]; omega) (by simp only [List.length_singleton, List.length_take, List.length_drop]; omega) (fun g hg => _lo0_6 g (_bb108 ▸ hg)) (by omega) fun _v111 _w_93 _q111 _lo111 _ap111 _cw_93 => ?_
            have _cw_93z := _cw_93.size
            have E := E.step _cw_93 (fun i hi => .inl (by have _h1 := (fun g hg => _lo0_6 g (_bb108 ▸ hg)) _ hi; omega))
            obtain ⟨_Av111, _Cv111, _ev111⟩ := _q111.val
            subst _ev111
            have _lv111 := _q111.len
            have _hiv111 := _q111.lt
            refine WL_step rfl rfl (r_assign rfl) ?_
            refine WL_nil ?_
            refine inB_nrm ?_
            refine inB_nrm ?_
            refine thn_nrm (_hK_12 _ _ ?_)
            clear _hK_12
            refine W_region ?_
            refine WL_step rfl rfl (r_move rfl) ?_
            refine WL_step rfl rfl (r_add (by omega) rfl rfl) ?_
            refine WL_step rfl rfl (r_assign rfl) ?_
            refine WL_nil ?_
            have _on_95 : Ol Sv.cs 194 1 _w_93 (.slice _Av111 (((vs.take ((((vs.length : Nat) : Int) - 2).toNat)) ++ [(⟨Au104_0, (_vs104_0).length, Cu104_0⟩ : Sv)])).length _Cv111) (((vs.take ((((vs.length : Nat) : Int) - 2).toNat)) ++ [(⟨Au104_0, (_vs104_0).length, Cu104_0⟩ : Sv)])) := by
              have hx := _q111
              exact hx
            have _f_96 := (((_f_88.ch0 _cw_89).ch0 _cw_92).ch _cw_93 (fun i hm => by rw [_bb108] at hm; right; exact hm))
            have _f_97 := ((_q_u104_0.ch0 _cw_92).ch _cw_93 (fun g hg hm => by rw [_bb108] at hm; have _h1 := _lo0_6 _ hm; have _h2 := hisv _ hm; have _h3 := _lo_u104_0 _ hg; have _h4 := _hiu104_0 _ hg; omega))
            have _f_98 := ((_od_vs104_0.ch0 _cw_92).ch _cw_93 (fun i hm => by rw [_bb108] at hm; have _h1 := _lo0_6 _ hm; have _h2 := hisv _ hm; omega))
            exact thn_nrm (Exists.intro ((i + 1), ((vs.take ((((vs.length : Nat) : Int) - 2).toNat)) ++ [(⟨Au104_0, (_vs104_0).length, Cu104_0⟩ : Sv)]), s2, (.slice _Av111 (((vs.take ((((vs.length : Nat) : Int) - 2).toNat)) ++ [(⟨Au104_0, (_vs104_0).length, Cu104_0⟩ : Sv)])).length _Cv111)) ⟨⟨E, (by omega), (by omega), (by rw [es9]; simp; omega), (by rw [es9]; simp; omega), _p2, _on_95, (Lo.down _lo111 (by omega)), (by rw [es9]; exact (RT.add (RT.take _f_96 (k := 2) (by simp)) (v := (⟨Au104_0, (_vs104_0).length, Cu104_0⟩ : Sv)) (Ol.lsR _f_97 (Lo.down _lo_u104_0 (by omega)) (lo := _w_86.heap.size) (hi := _w_89.heap.size) (fun g hg => by have _h1 := _hiu104_0 g hg; omega)) (Od.rdR (_f_98.eq (by rw [em5]))) (by omega) (by omega) (fun g hm => by rcases _ap111 with ea | ea; (rw [ea] at hm; rw [_bb108] at hm; have _h1 := _lo0_6 _ hm; have _h2 := hisv _ hm; omega); (have z2hm := _hiv111 _ hm; rw [ea] at hm; have _z1 := List.mem_singleton.1 hm; omega)) (fun g hm => by rcases _ap111 with ea | ea; (rw [ea] at hm; rw [_bb108] at hm; left; exact hm); (have z2hm := _hiv111 _ hm; rw [ea] at hm; have _z1 := List.mem_singleton.1 hm; right; omega))).eq (by simp_all <;> omega))⟩, Sub.cons rfl (Sub.cons rfl (Sub.cons rfl (Sub.cons rfl (Sub.cons rfl (Sub.cons rfl (Sub.nil _)))))), (by first | omega | (dsimp only; omega))⟩)
          · have _kb_84 := _h92
            have _h92 := bf_d _h92
            refine W_seq fun _K_99 _hK_99 => ?_
            refine W_region ?_
            refine WL_step rfl rfl (r_eql rfl rfl) ?_
            refine WL_step rfl rfl (r_assign rfl) ?_
            refine WL_nil ?_
            refine thn_nrm (_hK_99 _ _ ?_)
            clear _hK_99
            refine W_cond rfl (fun _h112 => ?_) (fun _h112 => ?_)
            · have _kb_100 := _h112
              have _h112 := bt_d _h112
              obtain ⟨ta, r9, _e9, es9⟩ := push_k1 _p1 (by unfold arK; rw [if_neg (by omega), if_pos (by omega)])
              subst _e9
              simp only [List.length_cons] at hl hs
              have em6 := ml6 (w := wd) (a := ta) (y := _y28) (by omega)
              refine W_region ?_
              refine WL_step rfl rfl (r_move rfl) ?_
              refine WL_step rfl rfl (r_move rfl) ?_
              refine WL_step rfl rfl (r_sub (by omega) rfl rfl) ?_
              refine WL_step rfl rfl (r_move rfl) ?_
              refine WL_step rfl rfl (r_move rfl) ?_
              refine WL_step rfl rfl (r_sub (by omega) rfl rfl) ?_
              refine WL_s rfl rfl ?_
              have _f_101 := ((_o0_6.ch0 _cw_16).ch _cw_17 (fun g hg hm => by have _h0 := List.mem_singleton.1 hm; have _h2 := _lo0_6 _ hg; have _h3 := hisv _ hg; omega))
              refine (s_index (j := (((vs.length : Nat) : Int) - 1).toNat) _f_101.ls Sv.len el196 sz194 rfl rfl (by omega) (by omega) fun _p120 _y120 _hy120 _a120 => ?_)
              have _f_102 := ((ms.ch0 _cw_16).ch _cw_17 (fun i hm => by have _h1 := List.mem_singleton.1 hm; left; omega))
              obtain ⟨tm120, us120, ml120, mh120, ht120, _fs120, _rd120, mb120⟩ := RT.get _f_102 _hy120
              obtain ⟨_A120, _n120, _C120⟩ := _y120
              obtain rfl := _fs120.eqn
              have _l120 := _fs120.len
              replace _fs120 : Ls Sv.cs 1 _w_17 ml120 mh120 (.slice _A120 us120.length _C120) us120 := _fs120
              obtain rfl := (top1 (by first | omega | (simp only [List.length_cons]; omega)) ht120).symm
              replace _a120 : At _w_17 0 _w_17.heap.size _p120 ([(.slice _A120 us120.length _C120)]) := _a120
              refine WL_step rfl rfl (r_loadAt0 _a120 agg194 rfl rfl) ?_
              refine WL_step rfl rfl (r_move rfl) ?_
              refine WL_step rfl rfl (r_len (by rw [el30]; rfl) rfl) ?_
              refine WL_s rfl rfl ?_
              refine Step.call (r_call (xs := [.tmp 121, .const (Go.Value.int Go.IntKind.i64 0), .tmp 123]) fk183 rfl) (c_spec_l9Repeated _fs120 _rd120 _ _ (wd.length + 1) (mtT wd ta) rfl (mt_tri _ _) (by omega) (by omega)) fun _v124 _w_103 _q124 => ?_
              obtain ⟨u124_0, _vs124_0, rfl, _q_u124_0, _lo_u124_0, _od_vs124_0, _sep_vs124_0, _cw_103⟩ := _q124
              have _cw_103z := _cw_103.size
              have E := E.trans _cw_103
              obtain ⟨Au124_0, Cu124_0, eu124_0⟩ := _q_u124_0.val
              subst eu124_0
              have lu124_0 := _q_u124_0.len
              have _hiu124_0 := _q_u124_0.lt
              refine WL_s rfl rfl ?_
              have _f_104 := (_f_101.ch0 _cw_103)
              refine s_indexO (j := (((vs.length : Nat) : Int) - 1).toNat) _f_104 el196 sz194 rfl rfl (by omega) (by first | omega | (simp; omega)) fun _g125 _o125 _cp125 _q125 => ?_
              refine WL_s rfl rfl ?_
              refine s_storeO (j := (((vs.length : Nat) : Int) - 1).toNat) (⟨Au124_0, (_vs124_0).length, Cu124_0⟩ : Sv) _f_104 _q125 Sv.len sz194 rfl rfl rfl rfl (by first | omega | (simp; omega)) fun _w_105 _o_106 _cw_105 => ?_
              have _cw_105z := _cw_105.size
              have E := E.step _cw_105 (fun i hi => .inl (by have _h1 := _lo0_6 _ hi; omega))
              refine WL_nil ?_
              refine inB_nrm ?_
              refine inB_nrm ?_
              refine thn_nrm (_hK_12 _ _ ?_)
              clear _hK_12
              refine W_region ?_
              refine WL_step rfl rfl (r_move rfl) ?_
              refine WL_step rfl rfl (r_add (by omega) rfl rfl) ?_
              refine WL_step rfl rfl (r_assign rfl) ?_
              refine WL_nil ?_
              have _on_107 : Ol Sv.cs 194 1 _w_105 (.slice Asv (vs).length Csv) ((vs.set ((((vs.length : Nat) : Int) - 1).toNat) (⟨Au124_0, (_vs124_0).length, Cu124_0⟩ : Sv))) := by
                have hx := _o_106
                exact hx
              have _f_108 := ((_f_102.ch0 _cw_103).ch _cw_105 (fun i hm => by right; exact hm))
              have _f_109 := (_q_u124_0.ch _cw_105 (fun g hg hm => by have _h1 := _lo0_6 _ hm; have _h2 := hisv _ hm; have _h3 := _lo_u124_0 _ hg; have _h4 := _hiu124_0 _ hg; omega))
              have _f_110 := (_od_vs124_0.ch _cw_105 (fun i hm => by have _h1 := _lo0_6 _ hm; have _h2 := hisv _ hm; omega))
              exact thn_nrm (Exists.intro ((i + 1), (vs.set ((((vs.length : Nat) : Int) - 1).toNat) (⟨Au124_0, (_vs124_0).length, Cu124_0⟩ : Sv)), s2, (.slice Asv (vs).length Csv)) ⟨⟨E, (by omega), (by omega), (by rw [es9]; simp; omega), (by rw [es9]; simp; omega), _p2, _on_107, (Lo.down _lo0_6 (by omega)), (by rw [es9]; exact (RT.add (RT.take _f_108 (k := 1) (by simp)) (v := (⟨Au124_0, (_vs124_0).length, Cu124_0⟩ : Sv)) (Ol.lsR _f_109 (Lo.down _lo_u124_0 (by omega)) (lo := _w_17.heap.size) (hi := _w_103.heap.size) (fun g hg => by have _h1 := _hiu124_0 g hg; omega)) (Od.rdR (_f_110.eq (by rw [em6]; exact congrArg (fun z => grd (wd.length + 1) (repM (wd.length + 1) (mtT wd ta) 0 z)) (by omega)))) (by omega) (by omega) (fun g hm => by have _h1 := _lo0_6 _ hm; have _h2 := hisv _ hm; omega) (fun g hm => by left; exact hm)).eq (set_last (by omega)))⟩, Sub.cons rfl (Sub.cons rfl (Sub.cons rfl (Sub.cons rfl (Sub.cons rfl (Sub.cons rfl (Sub.nil _)))))), (by first | omega | (dsimp only; omega))⟩)
            · have _kb_100 := _h112
              have _h112 := bf_d _h112
              refine W_seq fun _K_111 _hK_111 => ?_
              refine W_region ?_
              refine WL_step rfl rfl (r_eql rfl rfl) ?_
              refine WL_step rfl rfl (r_assign rfl) ?_
              refine WL_nil ?_
              refine thn_nrm (_hK_111 _ _ ?_)
              clear _hK_111
              refine W_cond rfl (fun _h126 => ?_) (fun _h126 => ?_)
              · have _kb_112 := _h126
                have _h126 := bt_d _h126
                obtain ⟨ta, r9, _e9, es9⟩ := push_k1 _p1 (by unfold arK; rw [if_neg (by omega), if_pos (by omega)])
                subst _e9
                simp only [List.length_cons] at hl hs
                have em7 := ml7 (w := wd) (a := ta) (y := _y28) (by omega)
                have hh9 := push_hi _p1 (by omega)
                refine W_drawC (bl (.slice Asv (vs).length Csv)) 15 mixed rfl fun _w_113 _cw_113 => ?_
                have _cw_113z := _cw_113.size
                have E := E.trans _cw_113
                refine DR_s 0 rfl (by kernel_rfl) rfl rfl (t_v (fun _ => (r_move rfl)) ?_)
                refine DR_s 1 rfl (by kernel_rfl) rfl rfl (t_v (fun _ => (r_move rfl)) ?_)
                refine DR_s 2 rfl (by kernel_rfl) rfl rfl (t_v (fun _ => (r_sub (by omega) rfl rfl)) ?_)
                refine DR_s 3 rfl (by kernel_rfl) rfl rfl (t_v (fun _ => (r_move rfl)) ?_)
                refine DR_s 4 rfl (by kernel_rfl) rfl rfl (t_v (fun _ => (r_move rfl)) ?_)
                refine DR_s 5 rfl (by kernel_rfl) rfl rfl (t_v (fun _ => (r_sub (by omega) rfl rfl)) ?_)
                refine DR_s 8 rfl (by kernel_rfl) rfl rfl (t_v (fun _ => (r_fieldAddr fa126_2 rfl)) ?_)
                have _f_114 := (_m_18.ch0 _cw_113)
                refine DR_s 9 rfl (by kernel_rfl) rfl rfl (t_loadAt _f_114.at_ (fun i hm => by have _h1 := _lo0_6 _ hm; have _h2 := hisv _ hm; omega) agg3 rfl rfl ?_)
                refine DR_s 10 rfl (by kernel_rfl) rfl rfl (t_v (fun _ => (r_fieldAddr fa126_3 rfl)) ?_)
                refine DR_s 11 rfl (by kernel_rfl) rfl rfl (t_loadAt _f_114.at_ (fun i hm => by have _h1 := _lo0_6 _ hm; have _h2 := hisv _ hm; omega) agg3 rfl rfl ?_)
                refine DR_one 6 (by kernel_rfl) ?_
                refine DO_s rfl rfl rfl ?_
                have _f_115 := (((_o0_6.ch0 _cw_16).ch _cw_17 (fun g hg hm => by have _h0 := List.mem_singleton.1 hm; have _h2 := _lo0_6 _ hg; have _h3 := hisv _ hg; omega)).ch0 _cw_113)
                refine (s_index (j := (((vs.length : Nat) : Int) - 1).toNat) _f_115.ls Sv.len el196 sz194 rfl rfl (by omega) (by omega) fun _p134 _y134 _hy134 _a134 => ?_)
                have _f_116 := (((ms.ch0 _cw_16).ch _cw_17 (fun i hm => by have _h1 := List.mem_singleton.1 hm; left; omega)).ch0 _cw_113)
                obtain ⟨tm134, us134, ml134, mh134, ht134, _fs134, _rd134, mb134⟩ := RT.get _f_116 _hy134
                obtain ⟨_A134, _n134, _C134⟩ := _y134
                obtain rfl := _fs134.eqn
                have _l134 := _fs134.len
                replace _fs134 : Ls Sv.cs 1 _w_113 ml134 mh134 (.slice _A134 us134.length _C134) us134 := _fs134
                obtain rfl := (top1 (by first | omega | (simp only [List.length_cons]; omega)) ht134).symm
                replace _a134 : At _w_113 0 _w_113.heap.size _p134 ([(.slice _A134 us134.length _C134)]) := _a134
                refine ⟨(Ch.refl _ _), ?_⟩
                refine DR_one 7 (by kernel_rfl) ?_
                refine DO_s rfl rfl rfl ?_
                refine s_v (r_loadAt0 _a134 agg194 rfl rfl) ?_
                refine ⟨(Ch.refl _ _), ?_⟩
                refine DR_one 12 (by kernel_rfl) ?_
                refine DO_s rfl rfl rfl ?_
                refine Step.call (r_call (xs := [.tmp 135, .tmp 137, .tmp 139]) fk183 rfl) (c_spec_l9Repeated _fs134 _rd134 _ _ (wd.length + 1) (mtT wd ta) rfl (mt_tri _ _) (by omega) (by omega)) fun _v140 _w_117 _q140 => ?_
                obtain ⟨u140_0, _vs140_0, rfl, _q_u140_0, _lo_u140_0, _od_vs140_0, _sep_vs140_0, _cw_117⟩ := _q140
                have _cw_117z := _cw_117.size
                have E := E.trans _cw_117
                obtain ⟨Au140_0, Cu140_0, eu140_0⟩ := _q_u140_0.val
                subst eu140_0
                have lu140_0 := _q_u140_0.len
                have _hiu140_0 := _q_u140_0.lt
                have _S_118 : Ch (bl (.slice Asv (vs).length Csv)) _w_113 _w_117 := ((Ch.refl _ _).trans _cw_117.of_nil)
                refine ⟨_S_118, ?_⟩
                refine DR_one 13 (by kernel_rfl) ?_
                refine DO_s rfl rfl rfl ?_
                have _f_119 := (_f_115.ch0 _cw_117)
                refine s_indexO (j := (((vs.length : Nat) : Int) - 1).toNat) _f_119 el196 sz194 rfl rfl (by omega) (by first | omega | (simp; omega)) fun _g141 _o141 _cp141 _q141 => ?_
                refine ⟨_S_118, ?_⟩
                refine DR_one 14 (by kernel_rfl) ?_
                refine DO_s rfl rfl rfl ?_
                refine s_storeO (j := (((vs.length : Nat) : Int) - 1).toNat) (⟨Au140_0, (_vs140_0).length, Cu140_0⟩ : Sv) _f_119 _q141 Sv.len sz194 rfl rfl rfl rfl (by first | omega | (simp; omega)) fun _w_120 _o_121 _cw_120 => ?_
                have _cw_120z := _cw_120.size
                have E := E.step _cw_120 (fun i hi => .inl (by have _h1 := _lo0_6 _ hi; omega))
                have _S_122 : Ch (bl (.slice Asv (vs).length Csv)) _w_113 _w_120 := (_S_118.step _cw_120 (fun i hm => by exact .inr hm))
                refine ⟨_S_122, ?_⟩
                refine DR_done (by kernel_rfl) ?_
                refine inB_nrm ?_
                refine inB_nrm ?_
                refine thn_nrm (_hK_12 _ _ ?_)
                clear _hK_12
                refine W_region ?_
                refine WL_step rfl rfl (r_move rfl) ?_
                refine WL_step rfl rfl (r_add (by omega) rfl rfl) ?_
                refine WL_step rfl rfl (r_assign rfl) ?_
                refine WL_nil ?_
                have _on_123 : Ol Sv.cs 194 1 _w_120 (.slice Asv (vs).length Csv) ((vs.set ((((vs.length : Nat) : Int) - 1).toNat) (⟨Au140_0, (_vs140_0).length, Cu140_0⟩ : Sv))) := by
                  have hx := _o_121
                  exact hx
                have _f_124 := ((_f_116.ch0 _cw_117).ch _cw_120 (fun i hm => by right; exact hm))
                have _f_125 := (_q_u140_0.ch _cw_120 (fun g hg hm => by have _h1 := _lo0_6 _ hm; have _h2 := hisv _ hm; have _h3 := _lo_u140_0 _ hg; have _h4 := _hiu140_0 _ hg; omega))
                have _f_126 := (_od_vs140_0.ch _cw_120 (fun i hm => by have _h1 := _lo0_6 _ hm; have _h2 := hisv _ hm; omega))
                exact thn_nrm (Exists.intro ((i + 1), (vs.set ((((vs.length : Nat) : Int) - 1).toNat) (⟨Au140_0, (_vs140_0).length, Cu140_0⟩ : Sv)), s2, (.slice Asv (vs).length Csv)) ⟨⟨E, (by omega), (by omega), (by rw [es9]; simp; omega), (by rw [es9]; simp; omega), _p2, _on_123, (Lo.down _lo0_6 (by omega)), (by rw [es9]; exact (RT.add (RT.take _f_124 (k := 1) (by simp)) (v := (⟨Au140_0, (_vs140_0).length, Cu140_0⟩ : Sv)) (Ol.lsR _f_125 (Lo.down _lo_u140_0 (by omega)) (lo := _w_113.heap.size) (hi := _w_117.heap.size) (fun g hg => by have _h1 := _hiu140_0 g hg; omega)) (Od.rdR (_f_126.eq (by rw [em7]))) (by omega) (by omega) (fun g hm => by have _h1 := _lo0_6 _ hm; have _h2 := hisv _ hm; omega) (fun g hm => by left; exact hm)).eq (set_last (by omega)))⟩, Sub.cons rfl (Sub.cons rfl (Sub.cons rfl (Sub.cons rfl (Sub.cons rfl (Sub.cons rfl (Sub.nil _)))))), (by first | omega | (dsimp only; omega))⟩)
              · have _kb_112 := _h126
                have _h126 := bf_d _h126
                have es9 := push_k0 _p1 (by unfold arK; rw [if_neg (by omega), if_neg (by omega)])
                have em0 := ml0 (w := wd) (y := _y28) ⟨by omega, by omega⟩
                refine W_region ?_
                refine WL_step rfl rfl (r_move rfl) ?_
                refine WL_step rfl rfl (r_move rfl) ?_
                refine WL_s rfl rfl ?_
                refine Step.call (r_call (xs := [.tmp 33, .const (Go.Value.bool false)]) fk180 rfl) (c_spec_l9Grid (wd.length + 1) _ (by omega)) fun _v34 _w_127 _q34 => ?_
                obtain ⟨u34_0, _vs34_0, rfl, _q_u34_0, _lo_u34_0, _od_vs34_0, _sep_vs34_0, _cw_127⟩ := _q34
                have _cw_127z := _cw_127.size
                have E := E.trans _cw_127
                obtain ⟨Au34_0, Cu34_0, eu34_0⟩ := _q_u34_0.val
                subst eu34_0
                have lu34_0 := _q_u34_0.len
                have _hiu34_0 := _q_u34_0.lt
                refine WL_s rfl rfl ?_
                refine s_buildSlice (cs := Sv.cs) (parts := [(0, .tmp 34)]) (⟨none, 0, 0⟩ : Sv) [(⟨Au34_0, (_vs34_0).length, Cu34_0⟩ : Sv)] el196 sz194 zr194 Sv.len (by decide) rfl rfl rfl (by decide) (by decide) rfl fun _v35 _w_128 _q35 _lo35 _cw_128 => ?_
                have _cw_128z := _cw_128.size
                have E := E.trans _cw_128
                obtain ⟨_Av35, _Cv35, _ev35⟩ := _q35.val
                subst _ev35
                have _lv35 := _q35.len
                have _hiv35 := _q35.lt
                refine WL_s rfl rfl ?_
                have _f_130 := ((((_o0_6.ch0 _cw_16).ch _cw_17 (fun g hg hm => by have _h0 := List.mem_singleton.1 hm; have _h2 := _lo0_6 _ hg; have _h3 := hisv _ hg; omega)).ch0 _cw_127).ch0 _cw_128)
                refine s_append (cs := Sv.cs) el196 sz194 by194 zr194 rfl (by decide) Sv.one _f_130 _q35.ls rfl rfl (by simp only [List.length_singleton, List.length_take, List.length_drop]; omega) (by simp only [List.length_singleton, List.length_take, List.length_drop]; omega) _lo0_6 (by omega) fun _v36 _w_129 _q36 _lo36 _ap36 _cw_129 => ?_
                have _cw_129z := _cw_129.size
                have E := E.step _cw_129 (fun i hi => .inl (by have _h1 := _lo0_6 _ hi; omega))
                obtain ⟨_Av36, _Cv36, _ev36⟩ := _q36.val
                subst _ev36
                have _lv36 := _q36.len
                have _hiv36 := _q36.lt
                refine WL_step rfl rfl (r_assign rfl) ?_
                refine WL_nil ?_
                refine inB_nrm ?_
                refine inB_nrm ?_
                refine thn_nrm (_hK_12 _ _ ?_)
                clear _hK_12
                refine W_region ?_
                refine WL_step rfl rfl (r_move rfl) ?_
                refine WL_step rfl rfl (r_add (by omega) rfl rfl) ?_
                refine WL_step rfl rfl (r_assign rfl) ?_
                refine WL_nil ?_
                have _on_131 : Ol Sv.cs 194 1 _w_129 (.slice _Av36 ((vs ++ [(⟨Au34_0, (_vs34_0).length, Cu34_0⟩ : Sv)])).length _Cv36) ((vs ++ [(⟨Au34_0, (_vs34_0).length, Cu34_0⟩ : Sv)])) := by
                  have hx := _q36
                  exact hx
                have _f_132 := (((((ms.ch0 _cw_16).ch _cw_17 (fun i hm => by have _h1 := List.mem_singleton.1 hm; left; omega)).ch0 _cw_127).ch0 _cw_128).ch _cw_129 (fun i hm => by right; exact hm))
                have _f_133 := ((_q_u34_0.ch0 _cw_128).ch _cw_129 (fun g hg hm => by have _h1 := _lo0_6 _ hm; have _h2 := hisv _ hm; have _h3 := _lo_u34_0 _ hg; have _h4 := _hiu34_0 _ hg; omega))
                have _f_134 := ((_od_vs34_0.ch0 _cw_128).ch _cw_129 (fun i hm => by have _h1 := _lo0_6 _ hm; have _h2 := hisv _ hm; omega))
                exact thn_nrm (Exists.intro ((i + 1), (vs ++ [(⟨Au34_0, (_vs34_0).length, Cu34_0⟩ : Sv)]), s2, (.slice _Av36 ((vs ++ [(⟨Au34_0, (_vs34_0).length, Cu34_0⟩ : Sv)])).length _Cv36)) ⟨⟨E, (by omega), (by omega), (by rw [es9]; simp; omega), (by rw [es9]; simp; omega), _p2, _on_131, (Lo.down _lo36 (by omega)), (by rw [es9]; exact (RT.add _f_132 (v := (⟨Au34_0, (_vs34_0).length, Cu34_0⟩ : Sv)) (Ol.lsR _f_133 (Lo.down _lo_u34_0 (by omega)) (lo := _w_17.heap.size) (hi := _w_127.heap.size) (fun g hg => by have _h1 := _hiu34_0 g hg; omega)) (Od.rdR (_f_134.eq (by rw [em0]))) (by omega) (by omega) (fun g hm => by rcases _ap36 with ea | ea; (rw [ea] at hm; have _h1 := _lo0_6 _ hm; have _h2 := hisv _ hm; omega); (have z2hm := _hiv36 _ hm; rw [ea] at hm; have _z1 := List.mem_singleton.1 hm; omega)) (fun g hm => by rcases _ap36 with ea | ea; (rw [ea] at hm; left; exact hm); (have z2hm := _hiv36 _ hm; rw [ea] at hm; have _z1 := List.mem_singleton.1 hm; right; omega))).eq (by simp_all <;> omega))⟩, Sub.cons rfl (Sub.cons rfl (Sub.cons rfl (Sub.cons rfl (Sub.cons rfl (Sub.cons rfl (Sub.nil _)))))), (by first | omega | (dsimp only; omega))⟩)
  · have _kb_11 := _h21
    have _h21 := bf_d _h21
    have ef9 := prs_fin _ht hp (by omega)
    subst ef9
    simp only [List.length_cons, List.length_nil] at hl
    refine W_exit (thn_exit (thn_exit (inB_hit ?_)))
    refine thn_nrm (_hK_5 _ _ ?_)
    clear _hK_5
    refine W_seq fun _K_135 _hK_135 => ?_
    refine W_region ?_
    refine WL_step rfl rfl (r_move rfl) ?_
    refine WL_s rfl rfl ?_
    refine (s_index (j := 0) _o0_6.ls Sv.len el196 sz194 rfl rfl rfl (by omega) fun _p143 _y143 _hy143 _a143 => ?_)
    obtain ⟨tm143, us143, ml143, mh143, ht143, _fs143, _rd143, mb143⟩ := RT.get ms _hy143
    obtain ⟨_A143, _n143, _C143⟩ := _y143
    obtain rfl := _fs143.eqn
    have _l143 := _fs143.len
    replace _fs143 : Ls Sv.cs 1 _wr_8 ml143 mh143 (.slice _A143 us143.length _C143) us143 := _fs143
    have _ln143 := _rd143.1
    rw [grd_len] at _ln143
    replace _a143 : At _wr_8 0 _wr_8.heap.size _p143 ([(.slice _A143 us143.length _C143)]) := _a143
    refine WL_step rfl rfl (r_loadAt0 _a143 agg194 rfl rfl) ?_
    refine WL_s rfl rfl ?_
    refine (s_index (j := 0) _fs143 Sv.len el194 sz24 rfl rfl rfl (by omega) fun _p145 _y145 _hy145 _a145 => ?_)
    obtain ⟨_ys145, _hys145, _fs145⟩ := _rd143.get _hy145
    obtain ⟨_A145, _n145, _C145⟩ := _y145
    obtain rfl := _fs145.eqn
    have _l145 := _fs145.len
    replace _fs145 : Ls bcs 1 _wr_8 ml143 mh143 (.slice _A145 _ys145.length _C145) _ys145 := _fs145
    replace _a145 : At _wr_8 ml143 mh143 _p145 ([(.slice _A145 _ys145.length _C145)]) := _a145
    have rl145 := row_len rfl _hys145
    refine WL_step rfl rfl (r_loadAt0 _a145 agg24 rfl rfl) ?_
    refine WL_step rfl rfl (r_move rfl) ?_
    refine WL_step rfl rfl (r_len (by rw [el30]; rfl) rfl) ?_
    refine WL_s rfl rfl ?_
    refine (s_index _fs145 bcs_len el24 sz4 rfl rfl rfl (by omega) fun _p149 _y149 _hy149 _a149 => ?_)
    refine WL_step rfl rfl (r_loadAt0 _a149 agg4 rfl rfl) ?_
    refine WL_step rfl rfl (r_assign rfl) ?_
    refine WL_nil ?_
    refine thn_nrm (_hK_135 _ _ ?_)
    clear _hK_135
    refine W_ret ?_
    clear _hK_9
    exact ret_intro [_] ⟨rfl, trivial⟩ ⟨congrArg Value.bool (fin_mt ht143 _hys145 _hy149), E⟩

/-- spec.MatchesWord -/
theorem c_spec_MatchesWord {w : World} {LL_e _B_e : Nat} {_v_e : Value} {e : List Token} (_h_e : Ls Token.cs 4 w LL_e _B_e _v_e e) {LL_word _B_word : Nat} {_v_word : Value} {word : List Int} (_h_word : Ls ics 1 w LL_word _B_word _v_word word) (hb : e.length ≤ 1048576) :
    Ctr Try.prog 59 #[(.agg #[_v_e]), _v_word] w (fun v w' => v = .bool (mwE e word) ∧ Ch [] w w') := by
  obtain ⟨_A_e, _C_e, _e1_e⟩ := _h_e.val
  subst _e1_e
  have _l_e := _h_e.len
  have _h_e := _h_e.here (by decide)
  obtain ⟨_A_word, _C_word, _e1_word⟩ := _h_word.val
  subst _e1_word
  have _l_word := _h_word.len
  have _h_word := _h_word.here (by decide)
  have E := Ch.refl [] w
  refine Ctr_of_W (N := 17) (vs0 := [(.agg #[(.slice _A_e e.length _C_e)]), (.slice _A_word word.length _C_word)]) Try.func59 rfl rfl rfl ?_
  refine W_seq fun _K_1 _hK_1 => ?_
  refine W_region ?_
  refine WL_s rfl rfl ?_
  refine s_box rfl fun _b2 _w_2 _m2 _cw_2 _e2 => ?_
  have _cw_2z := _cw_2.size
  have E := E.trans _cw_2
  have _z2 := _m2.lt
  replace _m2 : Blk _w_2 _b2 67 [(.slice _A_e e.length _C_e)] := _m2
  refine WL_step rfl rfl (r_assign rfl) ?_
  refine WL_nil ?_
  refine thn_nrm (_hK_1 _ _ ?_)
  clear _hK_1
  refine W_seq fun _K_3 _hK_3 => ?_
  refine W_region ?_
  refine WL_step rfl rfl (r_loadAtA0 _m2.at_ agg67 sz67 rfl) ?_
  refine WL_s rfl rfl ?_
  have _f_4 := (_h_e.ch0 _cw_2)
  refine Step.call (r_call (xs := [.tmp 5]) fk52 rfl) (c_spec_IsValidExpr _f_4 ) fun _v6 _w_5 _q6 => ?_
  obtain ⟨rfl, _cw_5⟩ := _q6
  have _cw_5z := _cw_5.size
  have E := E.trans _cw_5
  refine WL_step rfl rfl (r_move rfl) ?_
  refine WL_split (d := 7) rfl (fun _h7 => ?_) (fun _h7 => ?_)
  · have _kb_6 := _h7
    obtain ⟨_t9, ht9, ok9, f9, _n9⟩ := ivE_y _h7
    refine WL_step rfl rfl (r_move rfl) ?_
    refine WL_s rfl rfl ?_
    have _f_7 := ((_h_word.ch0 _cw_2).ch0 _cw_5)
    refine Step.call (r_call (xs := [.tmp 8]) fk57 rfl) (c_spec_IsWord _f_7 ) fun _v9 _w_8 _q9 => ?_
    obtain ⟨rfl, _cw_8⟩ := _q9
    have _cw_8z := _cw_8.size
    have E := E.trans _cw_8
    refine WL_step rfl rfl (r_pickT rfl rfl) ?_
    refine WL_step rfl rfl (r_move rfl) ?_
    refine WL_split (d := 11) rfl (fun _h11 => ?_) (fun _h11 => ?_)
    · have _kb_9 := _h11
      have _h11 := bt_t _h11
      have _h10 := _h11
      refine WL_step rfl rfl (r_fieldAddr fa67_0 rfl) ?_
      have _f_10 := ((_m2.ch0 _cw_5).ch0 _cw_8)
      refine WL_step rfl rfl (r_loadAt _f_10.at_ agg65 rfl rfl) ?_
      refine WL_step rfl rfl (r_move rfl) ?_
      refine WL_s rfl rfl ?_
      have _f_11 := ((_f_4.ch0 _cw_5).ch0 _cw_8)
      have _f_12 := (_f_7.ch0 _cw_8)
      refine Step.call (r_call (xs := [.tmp 13, .tmp 14]) fk131 rfl) (c_spec_l9Match _f_11 _f_12 _t9 ht9 (by have q := _h10.2; omega) (by omega)) fun _v15 _w_13 _q15 => ?_
      obtain ⟨rfl, _cw_13⟩ := _q15
      have _cw_13z := _cw_13.size
      have E := E.trans _cw_13
      refine WL_step rfl rfl (r_pickT rfl rfl) ?_
      refine WL_step rfl rfl (r_assign rfl) ?_
      refine WL_nil ?_
      refine thn_nrm (_hK_3 _ _ ?_)
      clear _hK_3
      refine W_ret ?_
      exact ret_intro [_] ⟨rfl, trivial⟩ ⟨congrArg Value.bool (by first | (rw [mwE_y _h7 _h10 ht9]; done) | (rw [mwE_n1 _h7]; done) | (rw [mwE_n2 _h11]; done)), E⟩
    · have _kb_9 := _h11
      have _h11 := bf_t _h11
      refine WL_skip rfl rfl ?_
      refine WL_skip rfl rfl ?_
      refine WL_skip rfl rfl ?_
      refine WL_skip rfl rfl ?_
      refine WL_step rfl rfl (r_pickF rfl rfl) ?_
      refine WL_step rfl rfl (r_assign rfl) ?_
      refine WL_nil ?_
      refine thn_nrm (_hK_3 _ _ ?_)
      clear _hK_3
      refine W_ret ?_
      exact ret_intro [_] ⟨rfl, trivial⟩ ⟨congrArg Value.bool (by first | (rw [mwE_y _h7 _h10 ht9]; done) | (rw [mwE_n1 _h7]; done) | (rw [mwE_n2 _h11]; done)), E⟩
  · have _kb_6 := _h7
    refine WL_skip rfl rfl ?_
    refine WL_skip rfl rfl ?_
    refine WL_step rfl rfl (r_pickF rfl rfl) ?_
    refine WL_step rfl rfl (r_move rfl) ?_
    refine WL_skip rfl rfl ?_
    refine WL_skip rfl rfl ?_
    refine WL_skip rfl rfl ?_
    refine WL_skip rfl rfl ?_
    refine WL_step rfl rfl (r_pickF rfl rfl) ?_
    refine WL_step rfl rfl (r_assign rfl) ?_
    refine WL_nil ?_
    refine thn_nrm (_hK_3 _ _ ?_)
    clear _hK_3
    refine W_ret ?_
    exact ret_intro [_] ⟨rfl, trivial⟩ ⟨congrArg Value.bool (by first | (rw [mwE_y _h7 _h10 ht9]; done) | (rw [mwE_n1 _h7]; done) | (rw [mwE_n2 _h11]; done)), E⟩

/-- spec.WordsUpTo -/
theorem c_spec_WordsUpTo {w : World} {LL_e _B_e : Nat} {_v_e : Value} {e : List Token} (_h_e : Ls Token.cs 4 w LL_e _B_e _v_e e) (length : Int) :
    Ctr Try.prog 63 #[(.agg #[_v_e]), (.int .i64 length)] w (fun v w' => ∃ (_u0 : Value) (vs0 : List Sv), v = _u0 ∧ Ol Sv.cs 30 1 w' _u0 vs0 ∧ Lo w.heap.size _u0 ∧ Od ics 3 1 w' w.heap.size w'.heap.size vs0 (wuR e length) ∧ Sep _u0 vs0 ∧ Ch [] w w') := by
  obtain ⟨_A_e, _C_e, _e1_e⟩ := _h_e.val
  subst _e1_e
  have _l_e := _h_e.len
  have _h_e := _h_e.here (by decide)
  have E := Ch.refl [] w
  skip
  refine Ctr_of_W (N := 77) (vs0 := [(.agg #[(.slice _A_e e.length _C_e)]), (.int .i64 length)]) Try.func63 rfl rfl rfl ?_
  refine W_seq fun _K_1 _hK_1 => ?_
  refine W_region ?_
  refine WL_s rfl rfl ?_
  refine s_box rfl fun _b2 _w_2 _m2 _cw_2 _e2 => ?_
  have _cw_2z := _cw_2.size
  have E := E.trans _cw_2
  have _z2 := _m2.lt
  replace _m2 : Blk _w_2 _b2 67 [(.slice _A_e e.length _C_e)] := _m2
  refine WL_step rfl rfl (r_assign rfl) ?_
  refine WL_nil ?_
  refine thn_nrm (_hK_1 _ _ ?_)
  clear _hK_1
  refine W_seq fun _K_3 _hK_3 => ?_
  refine W_region ?_
  refine WL_s rfl rfl ?_
  refine s_buildSlice0 (k := 1) Sv.cs el25 sz30 fun _v12 _w_4 _q12 _lo12 _cw_4 => ?_
  have _cw_4z := _cw_4.size
  have E := E.trans _cw_4
  obtain ⟨_Av12, _Cv12, _ev12⟩ := _q12.val
  subst _ev12
  have _lv12 := _q12.len
  have _hiv12 := _q12.lt
  refine WL_step rfl rfl (r_assign rfl) ?_
  refine WL_nil ?_
  refine thn_nrm (_hK_3 _ _ ?_)
  clear _hK_3
  refine W_seq fun _K_5 _hK_5 => ?_
  refine W_seq fun _K_6 _hK_6 => ?_
  refine W_region ?_
  have _f_7 := (_m2.ch0 _cw_4)
  refine WL_step rfl rfl (r_loadAtA0 _f_7.at_ agg67 sz67 rfl) ?_
  refine WL_s rfl rfl ?_
  have _f_8 := ((_h_e.ch0 _cw_2).ch0 _cw_4)
  refine Step.call (r_call (xs := [.tmp 13]) fk52 rfl) (c_spec_IsValidExpr _f_8 ) fun _v14 _w_9 _q14 => ?_
  obtain ⟨rfl, _cw_9⟩ := _q14
  have _cw_9z := _cw_9.size
  have E := E.trans _cw_9
  refine WL_step rfl rfl (r_not rfl) ?_
  refine WL_step rfl rfl (r_move rfl) ?_
  refine WL_split (d := 16) rfl (fun _h16 => ?_) (fun _h16 => ?_)
  · have _kb_10 := _h16
    have _h16 := bt_n _h16
    refine WL_skip rfl rfl ?_
    refine WL_skip rfl rfl ?_
    refine WL_skip rfl rfl ?_
    refine WL_step rfl rfl (r_pickT rfl rfl) ?_
    refine WL_nil ?_
    refine thn_nrm (_hK_6 _ _ ?_)
    clear _hK_6
    refine W_condT rfl ?_
    refine W_seq fun _K_11 _hK_11 => ?_
    refine W_region ?_
    refine WL_step rfl rfl (r_move rfl) ?_
    refine WL_step rfl rfl (r_assign rfl) ?_
    refine WL_nil ?_
    refine thn_nrm (_hK_11 _ _ ?_)
    clear _hK_11
    refine W_ret (thn_ret ?_)
    clear _hK_5
    have _f_12 := (_q12.ch0 _cw_9)
    exact ret_intro [_] ⟨rfl, trivial⟩ ⟨(.slice _Av12 (([] : List Sv)).length _Cv12), [], rfl, _f_12, (Lo.down _lo12 (by omega)), (Od.nil.eq ((wuS_n (fun q => by first | (rw [_h16] at q; exact Bool.false_ne_true q.1) | exact _h20 q.2 | (have _q2 := q.2; omega))).trans (wu_same _ _))), (fun u hu => by cases hu), E⟩
  · have _kb_10 := _h16
    have _h16 := bf_n _h16
    obtain ⟨_t9, ht9, ok9, f9, _n9⟩ := ivE_y _h16
    have al8 := alphR_len e
    have al9 : (alphR e).length ≤ 400 := by omega
    refine WL_step rfl rfl (r_move rfl) ?_
    refine WL_s rfl rfl ?_
    refine Step.call (r_call (xs := [.tmp 17, .const (Go.Value.int Go.IntKind.i64 0), .const (Go.Value.int Go.IntKind.i64 3)]) fk83 rfl) (c_spec_l1In _ _ _ ) fun _v18 _w_13 _q18 => ?_
    obtain ⟨rfl, _cw_13⟩ := _q18
    have _cw_13z := _cw_13.size
    have E := E.trans _cw_13
    refine WL_step rfl rfl (r_not rfl) ?_
    refine WL_step rfl rfl (r_pickF rfl rfl) ?_
    refine WL_nil ?_
    refine thn_nrm (_hK_6 _ _ ?_)
    clear _hK_6
    refine W_cond rfl (fun _h20 => ?_) (fun _h20 => ?_)
    · have _kb_14 := _h20
      have _h20 := bf_d (bt_n _h20)
      refine W_seq fun _K_15 _hK_15 => ?_
      refine W_region ?_
      refine WL_step rfl rfl (r_move rfl) ?_
      refine WL_step rfl rfl (r_assign rfl) ?_
      refine WL_nil ?_
      refine thn_nrm (_hK_15 _ _ ?_)
      clear _hK_15
      refine W_ret (thn_ret ?_)
      clear _hK_5
      have _f_16 := ((_q12.ch0 _cw_9).ch0 _cw_13)
      exact ret_intro [_] ⟨rfl, trivial⟩ ⟨(.slice _Av12 (([] : List Sv)).length _Cv12), [], rfl, _f_16, (Lo.down _lo12 (by omega)), (Od.nil.eq ((wuS_n (fun q => by first | (rw [_h16] at q; exact Bool.false_ne_true q.1) | exact _h20 q.2 | (have _q2 := q.2; omega))).trans (wu_same _ _))), (fun u hu => by cases hu), E⟩
    · have _kb_14 := _h20
      have _h20 := bt_d (bf_n _h20)
      refine W_skip ?_
      refine thn_nrm (_hK_5 _ _ ?_)
      clear _hK_5
      refine W_seq fun _K_17 _hK_17 => ?_
      refine W_region ?_
      have _f_18 := ((_f_7.ch0 _cw_9).ch0 _cw_13)
      refine WL_step rfl rfl (r_loadAtA0 _f_18.at_ agg67 sz67 rfl) ?_
      refine WL_s rfl rfl ?_
      have _f_19 := ((_f_8.ch0 _cw_9).ch0 _cw_13)
      refine Step.call (r_call (xs := [.tmp 22]) fk133 rfl) (c_spec_Alphabet _f_19 ) fun _v23 _w_20 _q23 => ?_
      obtain ⟨_q23, _lo23, _cw_20⟩ := _q23
      have _cw_20z := _cw_20.size
      have E := E.trans _cw_20
      obtain ⟨_Av23, _Cv23, _ev23⟩ := _q23.val
      subst _ev23
      have _lv23 := _q23.len
      have _hiv23 := _q23.lt
      have lsr23 := Ol.lsR _q23 (lo := _w_13.heap.size) (hi := _w_20.heap.size) _lo23 _hiv23
      refine WL_step rfl rfl (r_assign rfl) ?_
      refine WL_nil ?_
      refine thn_nrm (_hK_17 _ _ ?_)
      clear _hK_17
      refine W_seq fun _K_21 _hK_21 => ?_
      refine W_region ?_
      refine WL_s rfl rfl ?_
      refine s_buildSlice0 (k := 1) ics el30 sz3 fun _v24 _w_22 _q24 _lo24 _cw_22 => ?_
      have _cw_22z := _cw_22.size
      have E := E.trans _cw_22
      obtain ⟨_Av24, _Cv24, _ev24⟩ := _q24.val
      subst _ev24
      have _lv24 := _q24.len
      have _hiv24 := _q24.lt
      refine WL_s rfl rfl ?_
      refine s_buildSlice (cs := Sv.cs) (parts := [(0, .tmp 24)]) (⟨none, 0, 0⟩ : Sv) [(⟨_Av24, (([] : List Int)).length, _Cv24⟩ : Sv)] el25 sz30 zr30 Sv.len (by decide) rfl rfl rfl (by decide) (by decide) rfl fun _v25 _w_23 _q25 _lo25 _cw_23 => ?_
      have _cw_23z := _cw_23.size
      have E := E.trans _cw_23
      obtain ⟨_Av25, _Cv25, _ev25⟩ := _q25.val
      subst _ev25
      have _lv25 := _q25.len
      have _hiv25 := _q25.lt
      have _f_24 := (_q24.ch0 _cw_23)
      have od25 : Od ics 3 1 _w_23 _w_20.heap.size _w_23.heap.size ([(⟨_Av24, (([] : List Int)).length, _Cv24⟩ : Sv)]) ([([] : List Int)]) := Od.snoc (hi := _w_20.heap.size) (vs := []) (xs := []) Od.nil _f_24 (Lo.down _lo24 (by omega)) (fun g hg => by have _h1 := _hiv24 g hg; omega) (by omega) (by omega)
      have spn25 : Sep (.slice _Av25 ([(⟨_Av24, (([] : List Int)).length, _Cv24⟩ : Sv)]).length _Cv25) [(⟨_Av24, (([] : List Int)).length, _Cv24⟩ : Sv)] := fun u hu g hg hm => by rw [List.mem_singleton.1 hu] at hg; have _h1 := _hiv24 _ hg; have _h2 := _lo25 _ hm; omega
      refine WL_step rfl rfl (r_assign rfl) ?_
      refine WL_nil ?_
      refine thn_nrm (_hK_21 _ _ ?_)
      clear _hK_21
      refine W_seq fun _K_25 _hK_25 => ?_
      refine W_seq fun _K_26 _hK_26 => ?_
      refine W_region ?_
      refine WL_step rfl rfl (r_assign rfl) ?_
      refine WL_nil ?_
      refine thn_nrm (_hK_26 _ _ ?_)
      clear _hK_26
      refine W_block ?_
      have _f_27 := (((((_q12.ch0 _cw_9).ch0 _cw_13).ch0 _cw_20).ch0 _cw_22).ch0 _cw_23)
      have _oi_28 : Ol Sv.cs 30 1 _w_23 (.slice _Av12 (([] : List Sv)).length _Cv12) (([] : List Sv)) := by
        have hx := _f_27
        exact hx
      have _oi_29 : Ol Sv.cs 30 1 _w_23 (.slice _Av25 ([(⟨_Av24, (([] : List Int)).length, _Cv24⟩ : Sv)]).length _Cv25) ([(⟨_Av24, (([] : List Int)).length, _Cv24⟩ : Sv)]) := by
        have hx := _q25
        exact hx
      have _f_30 := (((_f_18.ch0 _cw_20).ch0 _cw_22).ch0 _cw_23)
      have _f_31 := (((_f_19.ch0 _cw_20).ch0 _cw_22).ch0 _cw_23)
      have _f_32 := ((lsr23.ch0 _cw_22).ch0 _cw_23)
      refine W_loop (σ := Nat × List Sv × List Sv × Value × Value) (fun ⟨k, vs, ls, ov, lv⟩ => [(1, (.int .i64 length)), (2, (.pointer (some ⟨_b2, 0, none⟩))), (4, (.slice none 0 0)), (5, ov), (6, (.slice _Av23 (alphR e).length _Cv23)), (7, lv), (8, (.int .i64 ((k : Nat) : Int)))]) (fun ⟨k, vs, ls, ov, lv⟩ wx => Ch [] w wx ∧ _w_23.heap.size ≤ wx.heap.size ∧ (k ≤ (length + 1).toNat) ∧ Blk wx _b2 67 [(.slice _A_e e.length _C_e)] ∧ Ls Token.cs 4 wx LL_e w.heap.size (.slice _A_e e.length _C_e) e ∧ Ls ics 1 wx _w_13.heap.size _w_20.heap.size (.slice _Av23 (alphR e).length _Cv23) (alphR e) ∧ Ol Sv.cs 30 1 wx ov vs ∧ Lo _w_2.heap.size ov ∧ Ol Sv.cs 30 1 wx lv ls ∧ Lo _w_22.heap.size lv ∧ Od ics 3 1 wx w.heap.size wx.heap.size vs (wuT (alphR e) _t9 k) ∧ Od ics 3 1 wx w.heap.size wx.heap.size ls (wdL (alphR e) k) ∧ (∀ g ∈ bl ov, g < _w_13.heap.size ∨ _w_20.heap.size ≤ g) ∧ (∀ g ∈ bl lv, g ∉ bl ov) ∧ (Sep ov vs) ∧ (Sep ov ls)) (fun ⟨k, vs, ls, ov, lv⟩ => (length + 1).toNat - k) (0, ([] : List Sv), [(⟨_Av24, (([] : List Int)).length, _Cv24⟩ : Sv)], (.slice _Av12 (([] : List Sv)).length _Cv12), (.slice _Av25 ([(⟨_Av24, (([] : List Int)).length, _Cv24⟩ : Sv)]).length _Cv25)) (Sub.cons rfl (Sub.cons rfl (Sub.cons rfl (Sub.cons rfl (Sub.cons rfl (Sub.cons rfl (Sub.cons rfl (Sub.nil _)))))))) ⟨E, (Nat.le_refl _), (by omega), _f_30, _f_31, _f_32, _oi_28, _lo12, _oi_29, _lo25, Od.nil, (od25.up (by omega) (by omega)), (fun g hm => by have _h1 := _lo12 _ hm; have _h2 := _hiv12 _ hm; omega), (fun g hm hg => by have _h1 := _lo25 _ hm; have _h2 := _hiv25 _ hm; have _h3 := _lo12 _ hg; have _h4 := _hiv12 _ hg; omega), (fun u hu => by cases hu), (Od.sepO od25 (fun g hm => by have _h1 := _lo12 _ hm; have _h2 := _hiv12 _ hm; omega))⟩ ?_
      rintro ⟨k, vs, ls, ov, lv⟩ _wr_33 ⟨E, _zz0, _hk, _F0_0, _F0_1, _F0_2, _o0_5, _lo0_5, _o0_7, _lo0_7, od, ol, gp0_5, _djl0_7_o5, _spl0_5, _spl0_5_ol⟩
      have _E0h := E
      have _E0hz := _E0h.size
      have _F0_0z := _F0_0.lt
      obtain ⟨Aov, Cov, eov⟩ := _o0_5.val
      subst eov
      have lov := _o0_5.len
      have hiov := _o0_5.lt
      obtain ⟨Alv, Clv, elv⟩ := _o0_7.val
      subst elv
      have llv := _o0_7.len
      have hilv := _o0_7.lt
      refine W_seq fun _K_34 _hK_34 => ?_
      refine W_seq fun _K_35 _hK_35 => ?_
      refine W_region ?_
      refine WL_step rfl rfl (r_move rfl) ?_
      refine WL_step rfl rfl (r_move rfl) ?_
      refine WL_step rfl rfl (r_leq rfl rfl) ?_
      refine WL_nil ?_
      refine thn_nrm (_hK_35 _ _ ?_)
      clear _hK_35
      refine W_cond rfl (fun _h28 => ?_) (fun _h28 => ?_)
      · have _kb_36 := _h28
        have _h28 := bt_d _h28
        refine W_skip ?_
        refine thn_nrm (_hK_34 _ _ ?_)
        clear _hK_34
        refine W_seq fun _K_37 _hK_37 => ?_
        refine W_block ?_
        refine W_seq fun _K_38 _hK_38 => ?_
        refine W_region ?_
        refine WL_s rfl rfl ?_
        refine s_buildSlice0 (k := 1) Sv.cs el25 sz30 fun _v31 _w_39 _q31 _lo31 _cw_39 => ?_
        have _cw_39z := _cw_39.size
        have E := E.trans _cw_39
        obtain ⟨_Av31, _Cv31, _ev31⟩ := _q31.val
        subst _ev31
        have _lv31 := _q31.len
        have _hiv31 := _q31.lt
        refine WL_step rfl rfl (r_assign rfl) ?_
        refine WL_nil ?_
        refine thn_nrm (_hK_38 _ _ ?_)
        clear _hK_38
        refine W_seq fun _K_40 _hK_40 => ?_
        refine W_seq fun _K_41 _hK_41 => ?_
        refine W_region ?_
        refine WL_step rfl rfl (r_assign rfl) ?_
        refine WL_nil ?_
        refine thn_nrm (_hK_41 _ _ ?_)
        clear _hK_41
        refine W_block ?_
        have _f_42 := (_o0_5.ch0 _cw_39)
        have _oi_43 : Ol Sv.cs 30 1 _w_39 (.slice Aov (vs).length Cov) (vs) := by
          have hx := _f_42
          exact hx
        have _oi_44 : Ol Sv.cs 30 1 _w_39 (.slice _Av31 (([] : List Sv)).length _Cv31) (([] : List Sv)) := by
          have hx := _q31
          exact hx
        have _f_45 := (od.ch0 _cw_39)
        have _f_46 := (ol.ch0 _cw_39)
        have _f_47 := (_F0_0.ch0 _cw_39)
        have _f_48 := (_F0_1.ch0 _cw_39)
        have _f_49 := (_F0_2.ch0 _cw_39)
        have _f_50 := (_o0_7.ch0 _cw_39)
        refine W_loop (σ := Nat × List Sv × List Sv × Value × Value) (fun ⟨i, us, ns, ow, nv⟩ => [(1, (.int .i64 length)), (2, (.pointer (some ⟨_b2, 0, none⟩))), (4, (.slice none 0 0)), (5, ow), (6, (.slice _Av23 (alphR e).length _Cv23)), (7, (.slice Alv (ls).length Clv)), (8, (.int .i64 ((k : Nat) : Int))), (9, nv), (10, (.int .i64 ((i : Nat) : Int))), (28, (.bool (decide (((k : Nat) : Int) ≤ length))))]) (fun ⟨i, us, ns, ow, nv⟩ wx => Ch [] w wx ∧ _w_39.heap.size ≤ wx.heap.size ∧ (i ≤ (wdL (alphR e) k).length) ∧ Blk wx _b2 67 [(.slice _A_e e.length _C_e)] ∧ Ls Token.cs 4 wx LL_e w.heap.size (.slice _A_e e.length _C_e) e ∧ Ls ics 1 wx _w_13.heap.size _w_20.heap.size (.slice _Av23 (alphR e).length _Cv23) (alphR e) ∧ Ol Sv.cs 30 1 wx (.slice Alv (ls).length Clv) ls ∧ Ol Sv.cs 30 1 wx ow us ∧ Lo _w_2.heap.size ow ∧ Ol Sv.cs 30 1 wx nv ns ∧ Lo _wr_33.heap.size nv ∧ Od ics 3 1 wx w.heap.size wx.heap.size us (wuT (alphR e) _t9 k ++ ((wdL (alphR e) k).take i).filter (fun w : List Int => mtT w _t9 0 w.length)) ∧ Od ics 3 1 wx w.heap.size wx.heap.size ns (((wdL (alphR e) k).take i).flatMap (extW (alphR e))) ∧ Od ics 3 1 wx w.heap.size wx.heap.size ls (wdL (alphR e) k) ∧ (∀ g ∈ bl ow, g ∉ bl (.slice Alv (ls).length Clv)) ∧ (∀ g ∈ bl ow, g < _w_13.heap.size ∨ _w_20.heap.size ≤ g) ∧ (∀ g ∈ bl nv, g ∉ bl (.slice Alv (ls).length Clv)) ∧ (∀ g ∈ bl nv, g ∉ bl ow) ∧ (Sep ow us) ∧ (Sep nv us) ∧ (Sep nv ns) ∧ (Sep ow ns) ∧ (Sep ow ls) ∧ (Sep nv ls)) (fun ⟨i, us, ns, ow, nv⟩ => (wdL (alphR e) k).length - i) (0, vs, ([] : List Sv), (.slice Aov (vs).length Cov), (.slice _Av31 (([] : List Sv)).length _Cv31)) (Sub.cons rfl (Sub.cons rfl (Sub.cons rfl (Sub.cons rfl (Sub.cons rfl (Sub.cons rfl (Sub.cons rfl (Sub.cons rfl (Sub.cons rfl (Sub.cons rfl (Sub.nil _))))))))))) ⟨E, (Nat.le_refl _), (by omega), _f_47, _f_48, _f_49, _f_50, _oi_43, _lo0_5, _oi_44, _lo31, ((_f_45.up (Nat.le_refl _) (by omega)).eq (by simp)), Od.nil, (_f_46.up (Nat.le_refl _) (by omega)), (fun g hm hg => by exact _djl0_7_o5 _ hg hm), (fun g hm => by have _h1 := _lo0_5 _ hm; have _h2 := hiov _ hm; have _h19 := gp0_5 _ hm; omega), (fun g hm hg => by have _h1 := _lo31 _ hm; have _h2 := _hiv31 _ hm; have _h3 := _lo0_7 _ hg; have _h4 := hilv _ hg; omega), (fun g hm hg => by have _h1 := _lo31 _ hm; have _h2 := _hiv31 _ hm; have _h3 := _lo0_5 _ hg; have _h4 := hiov _ hg; have _h39 := gp0_5 _ hg; omega), _spl0_5, (Od.sepO _f_45 (fun g hm => by have _h1 := _lo31 _ hm; have _h2 := _hiv31 _ hm; omega)), (fun u hu => by cases hu), (fun u hu => by cases hu), _spl0_5_ol, (Od.sepO _f_46 (fun g hm => by have _h1 := _lo31 _ hm; have _h2 := _hiv31 _ hm; omega))⟩ ?_
        rintro ⟨i, us, ns, ow, nv⟩ _wr_51 ⟨E, _zz1, hi, _F1_0, _F1_1, _F1_2, _F1_3, _o1_5, _lo1_5, _o1_9, _lo1_9, od, on, ol, _djl1_5_7, gp1_5, _djl1_9_7, _djl1_9_o5, _spl1_5, _spl1_9, _spl1_9_on, _spl1_5_on, _spl1_5_ol, _spl1_9_ol⟩
        have _E1h := E
        have _E1hz := _E1h.size
        have _F1_0z := _F1_0.lt
        obtain ⟨Aow, Cow, eow⟩ := _o1_5.val
        subst eow
        have low := _o1_5.len
        have hiow := _o1_5.lt
        obtain ⟨Anv, Cnv, env⟩ := _o1_9.val
        subst env
        have lnv := _o1_9.len
        have hinv := _o1_9.lt
        have ol9 := ol.1
        refine W_seq fun _K_52 _hK_52 => ?_
        refine W_seq fun _K_53 _hK_53 => ?_
        refine W_region ?_
        refine WL_step rfl rfl (r_move rfl) ?_
        refine WL_step rfl rfl (r_move rfl) ?_
        refine WL_step rfl rfl (r_len (by rw [el25]; rfl) rfl) ?_
        refine WL_step rfl rfl (r_lss rfl rfl) ?_
        refine WL_nil ?_
        refine thn_nrm (_hK_53 _ _ ?_)
        clear _hK_53
        refine W_cond rfl (fun _h35 => ?_) (fun _h35 => ?_)
        · have _kb_54 := _h35
          have _h35 := bt_d _h35
          refine W_skip ?_
          refine thn_nrm (_hK_52 _ _ ?_)
          clear _hK_52
          refine W_seq fun _K_55 _hK_55 => ?_
          refine W_block ?_
          refine W_seq fun _K_56 _hK_56 => ?_
          refine W_seq fun _K_57 _hK_57 => ?_
          refine W_drawC [] 7 mixed rfl fun _w_58 _cw_58 => ?_
          have _cw_58z := _cw_58.size
          have E := E.trans _cw_58
          refine DR_s 0 rfl (by kernel_rfl) rfl rfl (t_v (fun _ => (r_fieldAddr fa67_0 rfl)) ?_)
          have _f_59 := (_F1_0.ch0 _cw_58)
          refine DR_s 1 rfl (by kernel_rfl) rfl rfl (t_loadAt _f_59.at_ (fun i hi => absurd hi List.not_mem_nil) agg65 rfl rfl ?_)
          refine DR_s 2 rfl (by kernel_rfl) rfl rfl (t_v (fun _ => (r_move rfl)) ?_)
          refine DR_s 3 rfl (by kernel_rfl) rfl rfl (t_v (fun _ => (r_move rfl)) ?_)
          have _f_60 := (_F1_3.ch0 _cw_58)
          have _f_61 := (ol.ch0 _cw_58)
          refine DR_s 4 rfl (by kernel_rfl) rfl rfl (t_index _f_60.ls Sv.len el25 sz30 rfl rfl rfl (by omega) fun _p42 _y42 _hy42 _a42 => ?_)
          obtain ⟨_ys42, _hys42, _fs42⟩ := _f_61.get _hy42
          obtain ⟨_A42, _n42, _C42⟩ := _y42
          obtain rfl := _fs42.eqn
          have _l42 := _fs42.len
          replace _fs42 : Ls ics 1 _w_58 0 _w_58.heap.size (.slice _A42 _ys42.length _C42) _ys42 := _fs42
          replace _a42 : At _w_58 0 _w_58.heap.size _p42 ([(.slice _A42 _ys42.length _C42)]) := _a42
          have ba9 := wdL_le (L := alphR e) (k := k) al9 (by omega)
          have bo9 := wuL_le (L := alphR e) (t := _t9) (W := wdL (alphR e) k) (P := fun w : List Int => mtT w _t9 0 w.length) (m := k) (i := i) al9 (by omega)
          have bn9 := flatL_le (L := alphR e) (W := wdL (alphR e) k) (i := i) al9
          have bo8 := od.1
          have bn8 := on.1
          have ym9 := wdL_len (mem_of_get _hys42)
          refine DR_s 5 rfl (by kernel_rfl) rfl rfl (t_loadAt0 _a42 (fun i hi => absurd hi List.not_mem_nil) agg30 rfl rfl ?_)
          refine DR_one 6 (by kernel_rfl) ?_
          refine DO_s rfl rfl rfl ?_
          have _f_62 := (_F1_1.ch0 _cw_58)
          refine Step.call (r_call (xs := [.tmp 39, .tmp 43]) fk131 rfl) (c_spec_l9Match _f_62 _fs42 _t9 ht9 (by omega) (by omega)) fun _v44 _w_63 _q44 => ?_
          obtain ⟨rfl, _cw_63⟩ := _q44
          have _cw_63z := _cw_63.size
          have E := E.trans _cw_63
          have _S_64 : Ch [] _w_58 _w_63 := ((Ch.refl _ _).trans _cw_63)
          refine ⟨_S_64, ?_⟩
          refine DR_done (by kernel_rfl) ?_
          refine thn_nrm (_hK_57 _ _ ?_)
          clear _hK_57
          refine W_cond rfl (fun _h44 => ?_) (fun _h44 => ?_)
          · have _kb_65 := _h44
            refine W_region ?_
            refine WL_step rfl rfl (r_move rfl) ?_
            refine WL_s rfl rfl ?_
            refine s_buildSlice0 (k := 1) ics el30 sz3 fun _v46 _w_66 _q46 _lo46 _cw_66 => ?_
            have _cw_66z := _cw_66.size
            have E := E.trans _cw_66
            obtain ⟨_Av46, _Cv46, _ev46⟩ := _q46.val
            subst _ev46
            have _lv46 := _q46.len
            have _hiv46 := _q46.lt
            refine WL_step rfl rfl (r_move rfl) ?_
            refine WL_step rfl rfl (r_move rfl) ?_
            refine WL_s rfl rfl ?_
            have _f_67 := ((_f_60.ch0 _cw_63).ch0 _cw_66)
            refine (s_index _f_67.ls Sv.len el25 sz30 rfl rfl rfl (by omega) fun _p49 _y49 _hy49 _a49 => ?_)
            have _f_68 := ((_f_61.ch0 _cw_63).ch0 _cw_66)
            obtain ⟨_ys49, _hys49, _fs49⟩ := _f_68.get _hy49
            obtain ⟨_A49, _n49, _C49⟩ := _y49
            obtain rfl := _fs49.eqn
            have _l49 := _fs49.len
            replace _fs49 : Ls ics 1 _w_66 0 _w_66.heap.size (.slice _A49 _ys49.length _C49) _ys49 := _fs49
            replace _a49 : At _w_66 0 _w_66.heap.size _p49 ([(.slice _A49 _ys49.length _C49)]) := _a49
            have ym8 := wdL_len (mem_of_get _hys49)
            refine WL_step rfl rfl (r_loadAt0 _a49 agg30 rfl rfl) ?_
            refine WL_s rfl rfl ?_
            refine s_append (cs := ics) el30 sz3 by3 zr3 rfl (by decide) ics_one _q46 _fs49 rfl rfl (by simp only [List.length_singleton, List.length_nil, List.length_append]; omega) (by simp only [List.length_singleton, List.length_nil, List.length_append]; omega) _lo46 (by omega) fun _v51 _w_69 _q51 _lo51 _ap51 _cw_69 => ?_
            have _cw_69z := _cw_69.size
            have E := E.step _cw_69 (fun i hi => .inl (by have _h1 := _lo46 _ hi; omega))
            replace _q51 : Ol ics 3 1 _w_69 _v51 _ys49 := _q51
            obtain ⟨_Av51, _Cv51, _ev51⟩ := _q51.val
            subst _ev51
            have _lv51 := _q51.len
            have _hiv51 := _q51.lt
            refine WL_s rfl rfl ?_
            refine s_buildSlice (cs := Sv.cs) (parts := [(0, .tmp 51)]) (⟨none, 0, 0⟩ : Sv) [(⟨_Av51, (_ys49).length, _Cv51⟩ : Sv)] el25 sz30 zr30 Sv.len (by decide) rfl rfl rfl (by decide) (by decide) rfl fun _v52 _w_70 _q52 _lo52 _cw_70 => ?_
            have _cw_70z := _cw_70.size
            have E := E.trans _cw_70
            obtain ⟨_Av52, _Cv52, _ev52⟩ := _q52.val
            subst _ev52
            have _lv52 := _q52.len
            have _hiv52 := _q52.lt
            have _f_71 := (_q51.ch0 _cw_70)
            have od52 : Od ics 3 1 _w_70 _w_63.heap.size _w_70.heap.size ([(⟨_Av51, (_ys49).length, _Cv51⟩ : Sv)]) ([_ys49]) := Od.snoc (hi := _w_63.heap.size) (vs := []) (xs := []) Od.nil _f_71 (Lo.down _lo51 (by omega)) (fun g hg => by have _h1 := _hiv51 g hg; omega) (by omega) (by omega)
            have spn52 : Sep (.slice _Av52 ([(⟨_Av51, (_ys49).length, _Cv51⟩ : Sv)]).length _Cv52) [(⟨_Av51, (_ys49).length, _Cv51⟩ : Sv)] := fun u hu g hg hm => by rw [List.mem_singleton.1 hu] at hg; have _h1 := _hiv51 _ hg; have _h2 := _lo52 _ hm; omega
            refine WL_s rfl rfl ?_
            have _f_73 := (((((_o1_5.ch0 _cw_58).ch0 _cw_63).ch0 _cw_66).ch _cw_69 (fun g hg hm => by have _h1 := _lo46 _ hm; have _h2 := _hiv46 _ hm; have _h3 := _lo1_5 _ hg; have _h4 := hiow _ hg; have _h39 := gp1_5 _ hg; omega)).ch0 _cw_70)
            refine s_append (cs := Sv.cs) el25 sz30 by30 zr30 rfl (by decide) Sv.one _f_73 _q52.ls rfl rfl (by simp only [List.length_singleton, List.length_nil, List.length_append]; omega) (by simp only [List.length_singleton, List.length_nil, List.length_append]; omega) _lo1_5 (by omega) fun _v53 _w_72 _q53 _lo53 _ap53 _cw_72 => ?_
            have _cw_72z := _cw_72.size
            have E := E.step _cw_72 (fun i hi => .inl (by have _h1 := _lo1_5 _ hi; omega))
            obtain ⟨_Av53, _Cv53, _ev53⟩ := _q53.val
            subst _ev53
            have _lv53 := _q53.len
            have _hiv53 := _q53.lt
            have _f_75 := ((((((od.ch0 _cw_58).ch0 _cw_63).ch0 _cw_66).ch _cw_69 (fun i hm => by have _h1 := _lo46 _ hm; have _h2 := _hiv46 _ hm; omega)).ch0 _cw_70).chS _cw_72 _spl1_5)
            have _f_76 := (_f_71.ch _cw_72 (fun g hg hm => by rcases _ap51 with ea | ea; (rw [ea] at hg; have _h1 := _lo1_5 _ hm; have _h2 := hiow _ hm; have _h19 := gp1_5 _ hm; have _h3 := _lo46 _ hg; have _h4 := _hiv46 _ hg; omega); (have z2hg := _hiv51 _ hg; rw [ea] at hg; have _z1 := List.mem_singleton.1 hg; have _h1 := _lo1_5 _ hm; have _h2 := hiow _ hm; have _h19 := gp1_5 _ hm; omega)))
            have _od_74 := Od.snoc _f_75 (v := (⟨_Av51, (_ys49).length, _Cv51⟩ : Sv)) _f_76 (Lo.down _lo51 (by omega)) (hi' := _w_72.heap.size) (fun g hg => by have _h1 := _hiv51 g hg; omega) (by omega) (by omega)
            have dja_77 : ∀ g ∈ bl (.slice _Av53 ((us ++ [(⟨_Av51, (_ys49).length, _Cv51⟩ : Sv)])).length _Cv53), g ∉ bl (.slice Alv (ls).length Clv) := (fun g hm hg => by rcases _ap53 with ea | ea; (rw [ea] at hm; exact _djl1_5_7 _ hm hg); (have z2hm := _hiv53 _ hm; rw [ea] at hm; have _z1 := List.mem_singleton.1 hm; have _h3 := _lo0_7 _ hg; have _h4 := hilv _ hg; omega))
            have dja_78 : ∀ g ∈ bl (.slice _Av53 ((us ++ [(⟨_Av51, (_ys49).length, _Cv51⟩ : Sv)])).length _Cv53), g ∉ bl (.slice Anv (ns).length Cnv) := (fun g hm hg => by rcases _ap53 with ea | ea; (rw [ea] at hm; exact _djl1_9_o5 _ hg hm); (have z2hm := _hiv53 _ hm; rw [ea] at hm; have _z1 := List.mem_singleton.1 hm; have _h3 := _lo1_9 _ hg; have _h4 := hinv _ hg; omega))
            have gpa_79 : ∀ g ∈ bl (.slice _Av53 ((us ++ [(⟨_Av51, (_ys49).length, _Cv51⟩ : Sv)])).length _Cv53), g < _w_13.heap.size ∨ _w_20.heap.size ≤ g := (fun g hm => by rcases _ap53 with ea | ea; (rw [ea] at hm; have _h1 := _lo1_5 _ hm; have _h2 := hiow _ hm; have _h19 := gp1_5 _ hm; omega); (have z2hm := _hiv53 _ hm; rw [ea] at hm; have _z1 := List.mem_singleton.1 hm; omega))
            have spa_80 : Sep (.slice _Av53 ((us ++ [(⟨_Av51, (_ys49).length, _Cv51⟩ : Sv)])).length _Cv53) (us ++ [(⟨_Av51, (_ys49).length, _Cv51⟩ : Sv)]) := (fun u hu g hg hm => by rcases List.mem_append.1 hu with hu | hu; (rcases _ap53 with ea | ea; (rw [ea] at hm; exact _spl1_5 _ hu _ hg hm); (have z2hm := _hiv53 _ hm; rw [ea] at hm; have _z1 := List.mem_singleton.1 hm; have _h9 := _f_75.rng hu hg; omega)); (rw [List.mem_singleton.1 hu] at hg; replace hg : g ∈ bl (.slice _Av51 (_ys49).length _Cv51) := hg; rcases _ap51 with ea | ea; (rw [ea] at hg; rcases _ap53 with ea | ea; (rw [ea] at hm; have _h1 := _lo1_5 _ hm; have _h2 := hiow _ hm; have _h19 := gp1_5 _ hm; have _h3 := _lo46 _ hg; have _h4 := _hiv46 _ hg; omega); (have z2hm := _hiv53 _ hm; rw [ea] at hm; have _z1 := List.mem_singleton.1 hm; have _h3 := _lo46 _ hg; have _h4 := _hiv46 _ hg; omega)); (have z2hg := _hiv51 _ hg; rw [ea] at hg; have _z1 := List.mem_singleton.1 hg; rcases _ap53 with ea | ea; (rw [ea] at hm; have _h1 := _lo1_5 _ hm; have _h2 := hiow _ hm; have _h19 := gp1_5 _ hm; omega); (have z2hm := _hiv53 _ hm; rw [ea] at hm; have _z1 := List.mem_singleton.1 hm; omega))))
            have spa_81 : Sep (.slice Anv (ns).length Cnv) (us ++ [(⟨_Av51, (_ys49).length, _Cv51⟩ : Sv)]) := (fun u hu g hg hm => by rcases List.mem_append.1 hu with hu | hu; (exact _spl1_9 _ hu _ hg hm); (rw [List.mem_singleton.1 hu] at hg; replace hg : g ∈ bl (.slice _Av51 (_ys49).length _Cv51) := hg; rcases _ap51 with ea | ea; (rw [ea] at hg; have _h1 := _lo1_9 _ hm; have _h2 := hinv _ hm; have _h3 := _lo46 _ hg; have _h4 := _hiv46 _ hg; omega); (have z2hg := _hiv51 _ hg; rw [ea] at hg; have _z1 := List.mem_singleton.1 hg; have _h1 := _lo1_9 _ hm; have _h2 := hinv _ hm; omega)))
            have _f_83 := ((((((on.ch0 _cw_58).ch0 _cw_63).ch0 _cw_66).ch _cw_69 (fun i hm => by have _h1 := _lo46 _ hm; have _h2 := _hiv46 _ hm; omega)).ch0 _cw_70).chS _cw_72 _spl1_5_on)
            have spa_82 : Sep (.slice _Av53 ((us ++ [(⟨_Av51, (_ys49).length, _Cv51⟩ : Sv)])).length _Cv53) ns := (fun u hu g hg hm => by rcases _ap53 with ea | ea; (rw [ea] at hm; exact _spl1_5_on _ hu _ hg hm); (have z2hm := _hiv53 _ hm; rw [ea] at hm; have _z1 := List.mem_singleton.1 hm; have _h9 := _f_83.rng hu hg; omega))
            have _f_85 := (((_f_68.ch _cw_69 (fun i hm => by have _h1 := _lo46 _ hm; have _h2 := _hiv46 _ hm; omega)).ch0 _cw_70).chS _cw_72 _spl1_5_ol)
            have spa_84 : Sep (.slice _Av53 ((us ++ [(⟨_Av51, (_ys49).length, _Cv51⟩ : Sv)])).length _Cv53) ls := (fun u hu g hg hm => by rcases _ap53 with ea | ea; (rw [ea] at hm; exact _spl1_5_ol _ hu _ hg hm); (have z2hm := _hiv53 _ hm; rw [ea] at hm; have _z1 := List.mem_singleton.1 hm; have _h9 := _f_85.rng hu hg; omega))
            refine WL_step rfl rfl (r_assign rfl) ?_
            refine WL_nil ?_
            refine thn_nrm (_hK_56 _ _ ?_)
            clear _hK_56
            refine W_seq fun _K_86 _hK_86 => ?_
            refine W_region ?_
            refine WL_step rfl rfl (r_assign rfl) ?_
            refine WL_nil ?_
            refine thn_nrm (_hK_86 _ _ ?_)
            clear _hK_86
            refine W_block ?_
            have _f_87 := ((((((_o1_9.ch0 _cw_58).ch0 _cw_63).ch0 _cw_66).ch _cw_69 (fun g hg hm => by have _h1 := _lo46 _ hm; have _h2 := _hiv46 _ hm; have _h3 := _lo1_9 _ hg; have _h4 := hinv _ hg; omega)).ch0 _cw_70).ch _cw_72 (fun g hg hm => by exact _djl1_9_o5 _ hg hm))
            have _oi_88 : Ol Sv.cs 30 1 _w_72 (.slice Anv (ns).length Cnv) (ns) := by
              have hx := _f_87
              exact hx
            have _f_89 := (((((_f_59.ch0 _cw_63).ch0 _cw_66).ch _cw_69 (fun hm => by have _h1 := _lo46 _ hm; have _h2 := _hiv46 _ hm; omega)).ch0 _cw_70).ch _cw_72 (fun hm => by have _h1 := _lo1_5 _ hm; have _h2 := hiow _ hm; have _h19 := gp1_5 _ hm; omega))
            have _f_90 := (((((_f_62.ch0 _cw_63).ch0 _cw_66).ch _cw_69 (fun i hi => by have _h1 := _lo46 _ hi; omega)).ch0 _cw_70).ch _cw_72 (fun i hm => by have _h1 := _lo1_5 _ hm; have _h2 := hiow _ hm; have _h19 := gp1_5 _ hm; omega))
            have _f_91 := ((((((_F1_2.ch0 _cw_58).ch0 _cw_63).ch0 _cw_66).ch _cw_69 (fun i hi => by have _h1 := _lo46 _ hi; omega)).ch0 _cw_70).ch _cw_72 (fun i hm => by have _h1 := _lo1_5 _ hm; have _h2 := hiow _ hm; have _h19 := gp1_5 _ hm; omega))
            have _f_92 := (((_f_67.ch _cw_69 (fun g hg hm => by have _h1 := _lo46 _ hm; have _h2 := _hiv46 _ hm; have _h3 := _lo0_7 _ hg; have _h4 := hilv _ hg; omega)).ch0 _cw_70).ch _cw_72 (fun g hg hm => by exact _djl1_5_7 _ hm hg))
            refine W_loop (σ := Nat × List Sv × Value) (fun ⟨j, ms, nw⟩ => [(1, (.int .i64 length)), (2, (.pointer (some ⟨_b2, 0, none⟩))), (4, (.slice none 0 0)), (5, (.slice _Av53 ((us ++ [(⟨_Av51, (_ys49).length, _Cv51⟩ : Sv)])).length _Cv53)), (6, (.slice _Av23 (alphR e).length _Cv23)), (7, (.slice Alv (ls).length Clv)), (8, (.int .i64 ((k : Nat) : Int))), (9, nw), (10, (.int .i64 ((i : Nat) : Int))), (11, (.int .i64 ((j : Nat) : Int))), (28, (.bool (decide (((k : Nat) : Int) ≤ length)))), (35, (.bool (decide (((i : Nat) : Int) < ((ls.length : Nat) : Int))))), (44, (.bool (mtT _ys42 _t9 0 _ys42.length)))]) (fun ⟨j, ms, nw⟩ wx => Ch [] w wx ∧ _w_72.heap.size ≤ wx.heap.size ∧ (j ≤ (alphR e).length) ∧ Blk wx _b2 67 [(.slice _A_e e.length _C_e)] ∧ Ls Token.cs 4 wx LL_e w.heap.size (.slice _A_e e.length _C_e) e ∧ Ls ics 1 wx _w_13.heap.size _w_20.heap.size (.slice _Av23 (alphR e).length _Cv23) (alphR e) ∧ Ol Sv.cs 30 1 wx (.slice Alv (ls).length Clv) ls ∧ Ol Sv.cs 30 1 wx (.slice _Av53 ((us ++ [(⟨_Av51, (_ys49).length, _Cv51⟩ : Sv)])).length _Cv53) (us ++ [(⟨_Av51, (_ys49).length, _Cv51⟩ : Sv)]) ∧ Ol Sv.cs 30 1 wx nw ms ∧ Lo _wr_33.heap.size nw ∧ Od ics 3 1 wx w.heap.size wx.heap.size ms (((wdL (alphR e) k).take i).flatMap (extW (alphR e)) ++ (extW (alphR e) _ys42).take j) ∧ Od ics 3 1 wx w.heap.size wx.heap.size (us ++ [(⟨_Av51, (_ys49).length, _Cv51⟩ : Sv)]) ((wuT (alphR e) _t9 k ++ ((wdL (alphR e) k).take i).filter (fun w : List Int => mtT w _t9 0 w.length)) ++ [_ys49]) ∧ Od ics 3 1 wx w.heap.size wx.heap.size ls (wdL (alphR e) k) ∧ (∀ g ∈ bl nw, g ∉ bl (.slice Alv (ls).length Clv)) ∧ (∀ g ∈ bl nw, g ∉ bl (.slice _Av53 ((us ++ [(⟨_Av51, (_ys49).length, _Cv51⟩ : Sv)])).length _Cv53)) ∧ (Sep nw ms) ∧ (Sep (.slice _Av53 ((us ++ [(⟨_Av51, (_ys49).length, _Cv51⟩ : Sv)])).length _Cv53) ms) ∧ (Sep nw (us ++ [(⟨_Av51, (_ys49).length, _Cv51⟩ : Sv)])) ∧ (Sep nw ls)) (fun ⟨j, ms, nw⟩ => (alphR e).length - j) (0, ns, (.slice Anv (ns).length Cnv)) (Sub.cons rfl (Sub.cons rfl (Sub.cons rfl (Sub.cons rfl (Sub.cons rfl (Sub.cons rfl (Sub.cons rfl (Sub.cons rfl (Sub.cons rfl (Sub.cons rfl (Sub.cons rfl (Sub.cons rfl (Sub.cons rfl (Sub.nil _)))))))))))))) ⟨E, (Nat.le_refl _), (by omega), _f_89, _f_90, _f_91, _f_92, _q53, _oi_88, _lo1_9, ((_f_83.up (Nat.le_refl _) (by omega)).eq (by simp)), (_od_74.up (Nat.le_refl _) (by omega)), (_f_85.up (Nat.le_refl _) (by omega)), (fun g hm hg => by exact _djl1_9_7 _ hm hg), (fun g hm hg => by exact dja_78 _ hg hm), _spl1_9_on, spa_82, spa_81, _spl1_9_ol⟩ ?_
            rintro ⟨j, ms, nw⟩ _wr_93 ⟨E, _zz2, hj, _F2_0, _F2_1, _F2_2, _F2_3, _F2_4, _o2_9, _lo2_9, on, od, ol, _djl2_9_7, _djl2_9_5, _spl2_9, spc2_5_on, _spl2_9_od, _spl2_9_ol⟩
            have _E2h := E
            have _E2hz := _E2h.size
            have _F2_0z := _F2_0.lt
            obtain ⟨Anw, Cnw, enw⟩ := _o2_9.val
            subst enw
            have lnw := _o2_9.len
            have hinw := _o2_9.lt
            refine W_seq fun _K_94 _hK_94 => ?_
            refine W_seq fun _K_95 _hK_95 => ?_
            refine W_region ?_
            refine WL_step rfl rfl (r_move rfl) ?_
            refine WL_step rfl rfl (r_move rfl) ?_
            refine WL_step rfl rfl (r_len (by rw [el30]; rfl) rfl) ?_
            refine WL_step rfl rfl (r_lss rfl rfl) ?_
            refine WL_nil ?_
            refine thn_nrm (_hK_95 _ _ ?_)
            clear _hK_95
            refine W_cond rfl (fun _h57 => ?_) (fun _h57 => ?_)
            · have _kb_96 := _h57
              have _h57 := bt_d _h57
              refine W_skip ?_
              refine thn_nrm (_hK_94 _ _ ?_)
              clear _hK_94
              refine W_seq fun _K_97 _hK_97 => ?_
              refine W_block ?_
              obtain ⟨go860, hgo860, lso860⟩ := Ol.lsE _F2_3 (by omega)
              refine W_drawC (bl (.slice Anw (ms).length Cnw)) 16 mixed rfl fun _w_98 _cw_98 => ?_
              have _cw_98z := _cw_98.size
              have E := E.trans _cw_98
              refine DR_s 0 rfl (by kernel_rfl) rfl rfl (t_v (fun _ => (r_move rfl)) ?_)
              refine DR_s 2 rfl (by kernel_rfl) rfl rfl (t_v (fun _ => (r_move rfl)) ?_)
              refine DR_s 3 rfl (by kernel_rfl) rfl rfl (t_v (fun _ => (r_move rfl)) ?_)
              have _f_99 := (lso860.ch0 _cw_98)
              have _f_100 := (ol.ch0 _cw_98)
              refine DR_s 4 rfl (by kernel_rfl) rfl rfl (t_index _f_99 Sv.len el25 sz30 rfl rfl rfl (by omega) fun _p64 _y64 _hy64 _a64 => ?_)
              obtain ⟨_ys64, _hys64, _fs64⟩ := _f_100.get _hy64
              obtain ⟨_A64, _n64, _C64⟩ := _y64
              obtain rfl := _fs64.eqn
              have _l64 := _fs64.len
              replace _fs64 : Ls ics 1 _w_98 0 _w_98.heap.size (.slice _A64 _ys64.length _C64) _ys64 := _fs64
              replace _a64 : At _w_98 go860 (go860 + 1) _p64 ([(.slice _A64 _ys64.length _C64)]) := _a64
              have bn7 := flatJ_le (L := alphR e) (W := wdL (alphR e) k) (i := i) (j := j) (y := _ys42) al9
              have bn6 := on.1
              have ym9 := wdL_len (mem_of_get _hys64)
              refine DR_s 5 rfl (by kernel_rfl) rfl rfl (t_loadAt0 _a64 (fun i hm => ne_blk (_djl2_9_7 i hm) hgo860) agg30 rfl rfl ?_)
              refine DR_s 7 rfl (by kernel_rfl) rfl rfl (t_v (fun _ => (r_move rfl)) ?_)
              refine DR_s 8 rfl (by kernel_rfl) rfl rfl (t_v (fun _ => (r_move rfl)) ?_)
              have _f_101 := (_F2_2.ch0 _cw_98)
              refine DR_s 9 rfl (by kernel_rfl) rfl rfl (t_index _f_101 ics_len el30 sz3 rfl rfl rfl (by omega) fun _p69 _y69 _hy69 _a69 => ?_)
              refine DR_s 10 rfl (by kernel_rfl) rfl rfl (t_loadAt0 _a69 (fun i hm => by have _h1 := _lo2_9 _ hm; have _h2 := hinw _ hm; omega) agg3 rfl rfl ?_)
              refine DR_two 1 11 (by kernel_rfl) ?_ ?_
              · refine DO_s rfl rfl rfl ?_
                refine s_buildSlice0 (k := 1) ics el30 sz3 fun _v61 _w_102 _q61 _lo61 _cw_102 => ?_
                have _cw_102z := _cw_102.size
                have E := E.trans _cw_102
                obtain ⟨_Av61, _Cv61, _ev61⟩ := _q61.val
                subst _ev61
                have _lv61 := _q61.len
                have _hiv61 := _q61.lt
                have _S_103 : Ch (bl (.slice Anw (ms).length Cnw)) _w_98 _w_102 := ((Ch.refl _ _).trans _cw_102.of_nil)
                refine ⟨_S_103, ?_⟩
                refine DR_two 6 11 (by kernel_rfl) ?_ ?_
                · refine DO_s rfl rfl rfl ?_
                  have _f_105 := (_fs64.ch0 _cw_102)
                  refine s_append (cs := ics) el30 sz3 by3 zr3 rfl (by decide) ics_one _q61 _f_105 rfl rfl (by simp only [List.length_singleton, List.length_nil, List.length_append]; omega) (by simp only [List.length_singleton, List.length_nil, List.length_append]; omega) _lo61 (by omega) fun _v66 _w_104 _q66 _lo66 _ap66 _cw_104 => ?_
                  have _cw_104z := _cw_104.size
                  have E := E.step _cw_104 (fun i hi => .inl (by have _h1 := _lo61 _ hi; omega))
                  replace _q66 : Ol ics 3 1 _w_104 _v66 _ys64 := _q66
                  obtain ⟨_Av66, _Cv66, _ev66⟩ := _q66.val
                  subst _ev66
                  have _lv66 := _q66.len
                  have _hiv66 := _q66.lt
                  have _S_106 : Ch (bl (.slice Anw (ms).length Cnw)) _w_98 _w_104 := (_S_103.step _cw_104 (fun i hm => by left; have _h1 := _lo61 _ hm; have _h2 := _hiv61 _ hm; omega))
                  refine ⟨_S_106, ?_⟩
                  refine DR_one 11 (by kernel_rfl) ?_
                  refine DO_s rfl rfl rfl ?_
                  refine s_buildSlice (cs := ics) (parts := [(0, .tmp 70)]) (0 : Int) [_y69] el30 sz3 zr3 ics_len (by decide) rfl rfl rfl (by decide) (by decide) rfl fun _v71 _w_107 _q71 _lo71 _cw_107 => ?_
                  have _cw_107z := _cw_107.size
                  have E := E.trans _cw_107
                  obtain ⟨_Av71, _Cv71, _ev71⟩ := _q71.val
                  subst _ev71
                  have _lv71 := _q71.len
                  have _hiv71 := _q71.lt
                  have _S_108 : Ch (bl (.slice Anw (ms).length Cnw)) _w_98 _w_107 := (_S_106.trans _cw_107.of_nil)
                  refine ⟨_S_108, ?_⟩
                  refine DR_one 12 (by kernel_rfl) ?_
                  refine DO_s rfl rfl rfl ?_
                  have _f_110 := (_q66.ch0 _cw_107)
                  refine s_append (cs := ics) el30 sz3 by3 zr3 rfl (by decide) ics_one _f_110 _q71.ls rfl rfl (by simp only [List.length_singleton, List.length_nil, List.length_append]; omega) (by simp only [List.length_singleton, List.length_nil, List.length_append]; omega) _lo66 (by omega) fun _v72 _w_109 _q72 _lo72 _ap72 _cw_109 => ?_
                  have _cw_109z := _cw_109.size
                  have E := E.step _cw_109 (fun i hi => .inl (by have _h1 := _lo66 _ hi; omega))
                  obtain ⟨_Av72, _Cv72, _ev72⟩ := _q72.val
                  subst _ev72
                  have _lv72 := _q72.len
                  have _hiv72 := _q72.lt
                  have _S_111 : Ch (bl (.slice Anw (ms).length Cnw)) _w_98 _w_109 := (_S_108.step _cw_109 (fun i hm => by rcases _ap66 with ea | ea; (rw [ea] at hm; left; have _h1 := _lo61 _ hm; have _h2 := _hiv61 _ hm; omega); (have z2hm := _hiv66 _ hm; rw [ea] at hm; have _z1 := List.mem_singleton.1 hm; left; omega)))
                  refine ⟨_S_111, ?_⟩
                  refine DR_one 13 (by kernel_rfl) ?_
                  refine DO_s rfl rfl rfl ?_
                  refine s_buildSlice (cs := Sv.cs) (parts := [(0, .tmp 72)]) (⟨none, 0, 0⟩ : Sv) [(⟨_Av72, ((_ys64 ++ [_y69])).length, _Cv72⟩ : Sv)] el25 sz30 zr30 Sv.len (by decide) rfl rfl rfl (by decide) (by decide) rfl fun _v73 _w_112 _q73 _lo73 _cw_112 => ?_
                  have _cw_112z := _cw_112.size
                  have E := E.trans _cw_112
                  obtain ⟨_Av73, _Cv73, _ev73⟩ := _q73.val
                  subst _ev73
                  have _lv73 := _q73.len
                  have _hiv73 := _q73.lt
                  have _f_113 := (_q72.ch0 _cw_112)
                  have od73 : Od ics 3 1 _w_112 _w_98.heap.size _w_112.heap.size ([(⟨_Av72, ((_ys64 ++ [_y69])).length, _Cv72⟩ : Sv)]) ([(_ys64 ++ [_y69])]) := Od.snoc (hi := _w_98.heap.size) (vs := []) (xs := []) Od.nil _f_113 (Lo.down _lo72 (by omega)) (fun g hg => by have _h1 := _hiv72 g hg; omega) (by omega) (by omega)
                  have spn73 : Sep (.slice _Av73 ([(⟨_Av72, ((_ys64 ++ [_y69])).length, _Cv72⟩ : Sv)]).length _Cv73) [(⟨_Av72, ((_ys64 ++ [_y69])).length, _Cv72⟩ : Sv)] := fun u hu g hg hm => by rw [List.mem_singleton.1 hu] at hg; have _h1 := _hiv72 _ hg; have _h2 := _lo73 _ hm; omega
                  have _S_114 : Ch (bl (.slice Anw (ms).length Cnw)) _w_98 _w_112 := (_S_111.trans _cw_112.of_nil)
                  refine ⟨_S_114, ?_⟩
                  refine DR_one 14 (by kernel_rfl) ?_
                  refine DO_s rfl rfl rfl ?_
                  have _f_116 := ((((((_o2_9.ch0 _cw_98).ch0 _cw_102).ch _cw_104 (fun g hg hm => by have _h1 := _lo61 _ hm; have _h2 := _hiv61 _ hm; have _h3 := _lo2_9 _ hg; have _h4 := hinw _ hg; omega)).ch0 _cw_107).ch _cw_109 (fun g hg hm => by rcases _ap66 with ea | ea; (rw [ea] at hm; have _h1 := _lo61 _ hm; have _h2 := _hiv61 _ hm; have _h3 := _lo2_9 _ hg; have _h4 := hinw _ hg; omega); (have z2hm := _hiv66 _ hm; rw [ea] at hm; have _z1 := List.mem_singleton.1 hm; have _h3 := _lo2_9 _ hg; have _h4 := hinw _ hg; omega))).ch0 _cw_112)
                  refine s_append (cs := Sv.cs) el25 sz30 by30 zr30 rfl (by decide) Sv.one _f_116 _q73.ls rfl rfl (by simp only [List.length_singleton, List.length_nil, List.length_append]; omega) (by simp only [List.length_singleton, List.length_nil, List.length_append]; omega) _lo2_9 (by omega) fun _v74 _w_115 _q74 _lo74 _ap74 _cw_115 => ?_
                  have _cw_115z := _cw_115.size
                  have E := E.step _cw_115 (fun i hi => .inl (by have _h1 := _lo2_9 _ hi; omega))
                  obtain ⟨_Av74, _Cv74, _ev74⟩ := _q74.val
                  subst _ev74
                  have _lv74 := _q74.len
                  have _hiv74 := _q74.lt
                  have _S_117 : Ch (bl (.slice Anw (ms).length Cnw)) _w_98 _w_115 := (_S_114.step _cw_115 (fun i hm => by exact .inr hm))
                  refine ⟨_S_117, ?_⟩
                  refine DR_s 15 rfl (by kernel_rfl) rfl rfl (t_v (fun _ => (r_assign rfl)) ?_)
                  refine DR_done (by kernel_rfl) ?_
                  refine inB_nrm ?_
                  refine thn_nrm (_hK_97 _ _ ?_)
                  clear _hK_97
                  refine W_region ?_
                  refine WL_step rfl rfl (r_move rfl) ?_
                  refine WL_step rfl rfl (r_add (by omega) rfl rfl) ?_
                  refine WL_step rfl rfl (r_assign rfl) ?_
                  refine WL_nil ?_
                  have _on_118 : Ol Sv.cs 30 1 _w_115 (.slice _Av74 ((ms ++ [(⟨_Av72, ((_ys64 ++ [_y69])).length, _Cv72⟩ : Sv)])).length _Cv74) ((ms ++ [(⟨_Av72, ((_ys64 ++ [_y69])).length, _Cv72⟩ : Sv)])) := by
                    have hx := _q74
                    exact hx
                  have _f_119 := (((((((on.ch0 _cw_98).ch0 _cw_102).ch _cw_104 (fun i hm => by have _h1 := _lo61 _ hm; have _h2 := _hiv61 _ hm; omega)).ch0 _cw_107).ch _cw_109 (fun i hm => by rcases _ap66 with ea | ea; (rw [ea] at hm; have _h1 := _lo61 _ hm; have _h2 := _hiv61 _ hm; omega); (have z2hm := _hiv66 _ hm; rw [ea] at hm; have _z1 := List.mem_singleton.1 hm; omega))).ch0 _cw_112).chS _cw_115 _spl2_9)
                  have _f_120 := (_f_113.ch _cw_115 (fun g hg hm => by rcases _ap72 with ea | ea; (rw [ea] at hg; rcases _ap66 with ea | ea; (rw [ea] at hg; have _h1 := _lo2_9 _ hm; have _h2 := hinw _ hm; have _h3 := _lo61 _ hg; have _h4 := _hiv61 _ hg; omega); (have z2hg := _hiv66 _ hg; rw [ea] at hg; have _z1 := List.mem_singleton.1 hg; have _h1 := _lo2_9 _ hm; have _h2 := hinw _ hm; omega)); (have z2hg := _hiv72 _ hg; rw [ea] at hg; have _z1 := List.mem_singleton.1 hg; have _h1 := _lo2_9 _ hm; have _h2 := hinw _ hm; omega)))
                  have _f_121 := (((((((od.ch0 _cw_98).ch0 _cw_102).ch _cw_104 (fun i hm => by have _h1 := _lo61 _ hm; have _h2 := _hiv61 _ hm; omega)).ch0 _cw_107).ch _cw_109 (fun i hm => by rcases _ap66 with ea | ea; (rw [ea] at hm; have _h1 := _lo61 _ hm; have _h2 := _hiv61 _ hm; omega); (have z2hm := _hiv66 _ hm; rw [ea] at hm; have _z1 := List.mem_singleton.1 hm; omega))).ch0 _cw_112).chS _cw_115 _spl2_9_od)
                  have _f_122 := ((((((_f_100.ch0 _cw_102).ch _cw_104 (fun i hm => by have _h1 := _lo61 _ hm; have _h2 := _hiv61 _ hm; omega)).ch0 _cw_107).ch _cw_109 (fun i hm => by rcases _ap66 with ea | ea; (rw [ea] at hm; have _h1 := _lo61 _ hm; have _h2 := _hiv61 _ hm; omega); (have z2hm := _hiv66 _ hm; rw [ea] at hm; have _z1 := List.mem_singleton.1 hm; omega))).ch0 _cw_112).chS _cw_115 _spl2_9_ol)
                  have _f_123 := (((((((_F2_0.ch0 _cw_98).ch0 _cw_102).ch _cw_104 (fun hm => by have _h1 := _lo61 _ hm; have _h2 := _hiv61 _ hm; omega)).ch0 _cw_107).ch _cw_109 (fun hm => by rcases _ap66 with ea | ea; (rw [ea] at hm; have _h1 := _lo61 _ hm; have _h2 := _hiv61 _ hm; omega); (have z2hm := _hiv66 _ hm; rw [ea] at hm; have _z1 := List.mem_singleton.1 hm; omega))).ch0 _cw_112).ch _cw_115 (fun hm => by have _h1 := _lo2_9 _ hm; have _h2 := hinw _ hm; omega))
                  have _f_124 := (((((((_F2_1.ch0 _cw_98).ch0 _cw_102).ch _cw_104 (fun i hi => by have _h1 := _lo61 _ hi; omega)).ch0 _cw_107).ch _cw_109 (fun i hi => by have _h1 := _lo66 _ hi; omega)).ch0 _cw_112).ch _cw_115 (fun i hi => by have _h1 := _lo2_9 _ hi; omega))
                  have _f_125 := ((((((_f_101.ch0 _cw_102).ch _cw_104 (fun i hi => by have _h1 := _lo61 _ hi; omega)).ch0 _cw_107).ch _cw_109 (fun i hi => by have _h1 := _lo66 _ hi; omega)).ch0 _cw_112).ch _cw_115 (fun i hi => by have _h1 := _lo2_9 _ hi; omega))
                  have _f_126 := (((((((_F2_3.ch0 _cw_98).ch0 _cw_102).ch _cw_104 (fun g hg hm => by have _h1 := _lo61 _ hm; have _h2 := _hiv61 _ hm; have _h3 := _lo0_7 _ hg; have _h4 := hilv _ hg; omega)).ch0 _cw_107).ch _cw_109 (fun g hg hm => by rcases _ap66 with ea | ea; (rw [ea] at hm; have _h1 := _lo61 _ hm; have _h2 := _hiv61 _ hm; have _h3 := _lo0_7 _ hg; have _h4 := hilv _ hg; omega); (have z2hm := _hiv66 _ hm; rw [ea] at hm; have _z1 := List.mem_singleton.1 hm; have _h3 := _lo0_7 _ hg; have _h4 := hilv _ hg; omega))).ch0 _cw_112).ch _cw_115 (fun g hg hm => by exact _djl2_9_7 _ hm hg))
                  have _f_127 := (((((((_F2_4.ch0 _cw_98).ch0 _cw_102).ch _cw_104 (fun g hg hm => by have _h1 := _lo61 _ hm; have _h2 := _hiv61 _ hm; have _h3 := _lo53 _ hg; have _h4 := _hiv53 _ hg; have _h39 := gpa_79 _ hg; omega)).ch0 _cw_107).ch _cw_109 (fun g hg hm => by rcases _ap66 with ea | ea; (rw [ea] at hm; have _h1 := _lo61 _ hm; have _h2 := _hiv61 _ hm; have _h3 := _lo53 _ hg; have _h4 := _hiv53 _ hg; have _h39 := gpa_79 _ hg; omega); (have z2hm := _hiv66 _ hm; rw [ea] at hm; have _z1 := List.mem_singleton.1 hm; have _h3 := _lo53 _ hg; have _h4 := _hiv53 _ hg; have _h39 := gpa_79 _ hg; omega))).ch0 _cw_112).ch _cw_115 (fun g hg hm => by exact _djl2_9_5 _ hm hg))
                  exact thn_nrm (Exists.intro ((j + 1), (ms ++ [(⟨_Av72, ((_ys64 ++ [_y69])).length, _Cv72⟩ : Sv)]), (.slice _Av74 ((ms ++ [(⟨_Av72, ((_ys64 ++ [_y69])).length, _Cv72⟩ : Sv)])).length _Cv74)) ⟨⟨E, (by omega), (by omega), _f_123, _f_124, _f_125, _f_126, _f_127, _on_118, (Lo.down _lo74 (by omega)), ((Od.snoc _f_119 (v := (⟨_Av72, ((_ys64 ++ [_y69])).length, _Cv72⟩ : Sv)) _f_120 (Lo.down _lo72 (by omega)) (fun g hg => by have _h1 := _hiv72 g hg; omega) (by omega) (by omega)).eq (ext_stepL _hys42 _hys64 _hy69)), (_f_121.up (Nat.le_refl _) (by omega)), (_f_122.up (Nat.le_refl _) (by omega)), (fun g hm hg => by rcases _ap74 with ea | ea; (rw [ea] at hm; exact _djl2_9_7 _ hm hg); (have z2hm := _hiv74 _ hm; rw [ea] at hm; have _z1 := List.mem_singleton.1 hm; have _h3 := _lo0_7 _ hg; have _h4 := hilv _ hg; omega)), (fun g hm hg => by rcases _ap74 with ea | ea; (rw [ea] at hm; exact _djl2_9_5 _ hm hg); (have z2hm := _hiv74 _ hm; rw [ea] at hm; have _z1 := List.mem_singleton.1 hm; have _h3 := _lo53 _ hg; have _h4 := _hiv53 _ hg; have _h39 := gpa_79 _ hg; omega)), (fun u hu g hg hm => by rcases List.mem_append.1 hu with hu | hu; (rcases _ap74 with ea | ea; (rw [ea] at hm; exact _spl2_9 _ hu _ hg hm); (have z2hm := _hiv74 _ hm; rw [ea] at hm; have _z1 := List.mem_singleton.1 hm; have _h9 := _f_119.rng hu hg; omega)); (rw [List.mem_singleton.1 hu] at hg; replace hg : g ∈ bl (.slice _Av72 ((_ys64 ++ [_y69])).length _Cv72) := hg; rcases _ap72 with ea | ea; (rw [ea] at hg; rcases _ap66 with ea | ea; (rw [ea] at hg; rcases _ap74 with ea | ea; (rw [ea] at hm; have _h1 := _lo2_9 _ hm; have _h2 := hinw _ hm; have _h3 := _lo61 _ hg; have _h4 := _hiv61 _ hg; omega); (have z2hm := _hiv74 _ hm; rw [ea] at hm; have _z1 := List.mem_singleton.1 hm; have _h3 := _lo61 _ hg; have _h4 := _hiv61 _ hg; omega)); (have z2hg := _hiv66 _ hg; rw [ea] at hg; have _z1 := List.mem_singleton.1 hg; rcases _ap74 with ea | ea; (rw [ea] at hm; have _h1 := _lo2_9 _ hm; have _h2 := hinw _ hm; omega); (have z2hm := _hiv74 _ hm; rw [ea] at hm; have _z1 := List.mem_singleton.1 hm; omega))); (have z2hg := _hiv72 _ hg; rw [ea] at hg; have _z1 := List.mem_singleton.1 hg; rcases _ap74 with ea | ea; (rw [ea] at hm; have _h1 := _lo2_9 _ hm; have _h2 := hinw _ hm; omega); (have z2hm := _hiv74 _ hm; rw [ea] at hm; have _z1 := List.mem_singleton.1 hm; omega)))), (fun u hu g hg hm => by rcases List.mem_append.1 hu with hu | hu; (exact spc2_5_on _ hu _ hg hm); (rw [List.mem_singleton.1 hu] at hg; replace hg : g ∈ bl (.slice _Av72 ((_ys64 ++ [_y69])).length _Cv72) := hg; rcases _ap72 with ea | ea; (rw [ea] at hg; rcases _ap66 with ea | ea; (rw [ea] at hg; have _h1 := _lo53 _ hm; have _h2 := _hiv53 _ hm; have _h19 := gpa_79 _ hm; have _h3 := _lo61 _ hg; have _h4 := _hiv61 _ hg; omega); (have z2hg := _hiv66 _ hg; rw [ea] at hg; have _z1 := List.mem_singleton.1 hg; have _h1 := _lo53 _ hm; have _h2 := _hiv53 _ hm; have _h19 := gpa_79 _ hm; omega)); (have z2hg := _hiv72 _ hg; rw [ea] at hg; have _z1 := List.mem_singleton.1 hg; have _h1 := _lo53 _ hm; have _h2 := _hiv53 _ hm; have _h19 := gpa_79 _ hm; omega))), (fun u hu g hg hm => by rcases _ap74 with ea | ea; (rw [ea] at hm; exact _spl2_9_od _ hu _ hg hm); (have z2hm := _hiv74 _ hm; rw [ea] at hm; have _z1 := List.mem_singleton.1 hm; have _h9 := _f_121.rng hu hg; omega)), (fun u hu g hg hm => by rcases _ap74 with ea | ea; (rw [ea] at hm; exact _spl2_9_ol _ hu _ hg hm); (have z2hm := _hiv74 _ hm; rw [ea] at hm; have _z1 := List.mem_singleton.1 hm; have _h9 := _f_122.rng hu hg; omega))⟩, Sub.cons rfl (Sub.cons rfl (Sub.cons rfl (Sub.cons rfl (Sub.cons rfl (Sub.cons rfl (Sub.cons rfl (Sub.cons rfl (Sub.cons rfl (Sub.cons rfl (Sub.cons rfl (Sub.cons rfl (Sub.cons rfl (Sub.nil _))))))))))))), (by first | omega | (dsimp only; omega))⟩)
                · refine DO_s rfl rfl rfl ?_
                  refine s_buildSlice (cs := ics) (parts := [(0, .tmp 70)]) (0 : Int) [_y69] el30 sz3 zr3 ics_len (by decide) rfl rfl rfl (by decide) (by decide) rfl fun _v71 _w_128 _q71 _lo71 _cw_128 => ?_
                  have _cw_128z := _cw_128.size
                  have E := E.trans _cw_128
                  obtain ⟨_Av71, _Cv71, _ev71⟩ := _q71.val
                  subst _ev71
                  have _lv71 := _q71.len
                  have _hiv71 := _q71.lt
                  have _S_129 : Ch (bl (.slice Anw (ms).length Cnw)) _w_98 _w_128 := (_S_103.trans _cw_128.of_nil)
                  refine ⟨_S_129, ?_⟩
                  refine DR_one 6 (by kernel_rfl) ?_
                  refine DO_s rfl rfl rfl ?_
                  have _f_131 := (_q61.ch0 _cw_128)
                  have _f_132 := ((_fs64.ch0 _cw_102).ch0 _cw_128)
                  refine s_append (cs := ics) el30 sz3 by3 zr3 rfl (by decide) ics_one _f_131 _f_132 rfl rfl (by simp only [List.length_singleton, List.length_nil, List.length_append]; omega) (by simp only [List.length_singleton, List.length_nil, List.length_append]; omega) _lo61 (by omega) fun _v66 _w_130 _q66 _lo66 _ap66 _cw_130 => ?_
                  have _cw_130z := _cw_130.size
                  have E := E.step _cw_130 (fun i hi => .inl (by have _h1 := _lo61 _ hi; omega))
                  replace _q66 : Ol ics 3 1 _w_130 _v66 _ys64 := _q66
                  obtain ⟨_Av66, _Cv66, _ev66⟩ := _q66.val
                  subst _ev66
                  have _lv66 := _q66.len
                  have _hiv66 := _q66.lt
                  have _S_133 : Ch (bl (.slice Anw (ms).length Cnw)) _w_98 _w_130 := (_S_129.step _cw_130 (fun i hm => by left; have _h1 := _lo61 _ hm; have _h2 := _hiv61 _ hm; omega))
                  refine ⟨_S_133, ?_⟩
                  refine DR_one 12 (by kernel_rfl) ?_
                  refine DO_s rfl rfl rfl ?_
                  have _f_135 := (_q71.ch _cw_130 (fun g hg hm => by have _h1 := _lo61 _ hm; have _h2 := _hiv61 _ hm; have _h3 := _lo71 _ hg; have _h4 := _hiv71 _ hg; omega))
                  refine s_append (cs := ics) el30 sz3 by3 zr3 rfl (by decide) ics_one _q66 _f_135.ls rfl rfl (by simp only [List.length_singleton, List.length_nil, List.length_append]; omega) (by simp only [List.length_singleton, List.length_nil, List.length_append]; omega) _lo66 (by omega) fun _v72 _w_134 _q72 _lo72 _ap72 _cw_134 => ?_
                  have _cw_134z := _cw_134.size
                  have E := E.step _cw_134 (fun i hi => .inl (by have _h1 := _lo66 _ hi; omega))
                  obtain ⟨_Av72, _Cv72, _ev72⟩ := _q72.val
                  subst _ev72
                  have _lv72 := _q72.len
                  have _hiv72 := _q72.lt
                  have _S_136 : Ch (bl (.slice Anw (ms).length Cnw)) _w_98 _w_134 := (_S_133.step _cw_134 (fun i hm => by rcases _ap66 with ea | ea; (rw [ea] at hm; left; have _h1 := _lo61 _ hm; have _h2 := _hiv61 _ hm; omega); (have z2hm := _hiv66 _ hm; rw [ea] at hm; have _z1 := List.mem_singleton.1 hm; left; omega)))
                  refine ⟨_S_136, ?_⟩
                  refine DR_one 13 (by kernel_rfl) ?_
                  refine DO_s rfl rfl rfl ?_
                  refine s_buildSlice (cs := Sv.cs) (parts := [(0, .tmp 72)]) (⟨none, 0, 0⟩ : Sv) [(⟨_Av72, ((_ys64 ++ [_y69])).length, _Cv72⟩ : Sv)] el25 sz30 zr30 Sv.len (by decide) rfl rfl rfl (by decide) (by decide) rfl fun _v73 _w_137 _q73 _lo73 _cw_137 => ?_
                  have _cw_137z := _cw_137.size
                  have E := E.trans _cw_137
                  obtain ⟨_Av73, _Cv73, _ev73⟩ := _q73.val
                  subst _ev73
                  have _lv73 := _q73.len
                  have _hiv73 := _q73.lt
                  have _f_138 := (_q72.ch0 _cw_137)
                  have od73 : Od ics 3 1 _w_137 _w_98.heap.size _w_137.heap.size ([(⟨_Av72, ((_ys64 ++ [_y69])).length, _Cv72⟩ : Sv)]) ([(_ys64 ++ [_y69])]) := Od.snoc (hi := _w_98.heap.size) (vs := []) (xs := []) Od.nil _f_138 (Lo.down _lo72 (by omega)) (fun g hg => by have _h1 := _hiv72 g hg; omega) (by omega) (by omega)
                  have spn73 : Sep (.slice _Av73 ([(⟨_Av72, ((_ys64 ++ [_y69])).length, _Cv72⟩ : Sv)]).length _Cv73) [(⟨_Av72, ((_ys64 ++ [_y69])).length, _Cv72⟩ : Sv)] := fun u hu g hg hm => by rw [List.mem_singleton.1 hu] at hg; have _h1 := _hiv72 _ hg; have _h2 := _lo73 _ hm; omega
                  have _S_139 : Ch (bl (.slice Anw (ms).length Cnw)) _w_98 _w_137 := (_S_136.trans _cw_137.of_nil)
                  refine ⟨_S_139, ?_⟩
                  refine DR_one 14 (by kernel_rfl) ?_
                  refine DO_s rfl rfl rfl ?_
                  have _f_141 := ((((((_o2_9.ch0 _cw_98).ch0 _cw_102).ch0 _cw_128).ch _cw_130 (fun g hg hm => by have _h1 := _lo61 _ hm; have _h2 := _hiv61 _ hm; have _h3 := _lo2_9 _ hg; have _h4 := hinw _ hg; omega)).ch _cw_134 (fun g hg hm => by rcases _ap66 with ea | ea; (rw [ea] at hm; have _h1 := _lo61 _ hm; have _h2 := _hiv61 _ hm; have _h3 := _lo2_9 _ hg; have _h4 := hinw _ hg; omega); (have z2hm := _hiv66 _ hm; rw [ea] at hm; have _z1 := List.mem_singleton.1 hm; have _h3 := _lo2_9 _ hg; have _h4 := hinw _ hg; omega))).ch0 _cw_137)
                  refine s_append (cs := Sv.cs) el25 sz30 by30 zr30 rfl (by decide) Sv.one _f_141 _q73.ls rfl rfl (by simp only [List.length_singleton, List.length_nil, List.length_append]; omega) (by simp only [List.length_singleton, List.length_nil, List.length_append]; omega) _lo2_9 (by omega) fun _v74 _w_140 _q74 _lo74 _ap74 _cw_140 => ?_
                  have _cw_140z := _cw_140.size
                  have E := E.step _cw_140 (fun i hi => .inl (by have _h1 := _lo2_9 _ hi; omega))
                  obtain ⟨_Av74, _Cv74, _ev74⟩ := _q74.val
                  subst _ev74
                  have _lv74 := _q74.len
                  have _hiv74 := _q74.lt
                  have _S_142 : Ch (bl (.slice Anw (ms).length Cnw)) _w_98 _w_140 := (_S_139.step _cw_140 (fun i hm => by exact .inr hm))
                  refine ⟨_S_142, ?_⟩
                  refine DR_s 15 rfl (by kernel_rfl) rfl rfl (t_v (fun _ => (r_assign rfl)) ?_)
                  refine DR_done (by kernel_rfl) ?_
                  refine inB_nrm ?_
                  refine thn_nrm (_hK_97 _ _ ?_)
                  clear _hK_97
                  refine W_region ?_
                  refine WL_step rfl rfl (r_move rfl) ?_
                  refine WL_step rfl rfl (r_add (by omega) rfl rfl) ?_
                  refine WL_step rfl rfl (r_assign rfl) ?_
                  refine WL_nil ?_
                  have _on_143 : Ol Sv.cs 30 1 _w_140 (.slice _Av74 ((ms ++ [(⟨_Av72, ((_ys64 ++ [_y69])).length, _Cv72⟩ : Sv)])).length _Cv74) ((ms ++ [(⟨_Av72, ((_ys64 ++ [_y69])).length, _Cv72⟩ : Sv)])) := by
                    have hx := _q74
                    exact hx
                  have _f_144 := (((((((on.ch0 _cw_98).ch0 _cw_102).ch0 _cw_128).ch _cw_130 (fun i hm => by have _h1 := _lo61 _ hm; have _h2 := _hiv61 _ hm; omega)).ch _cw_134 (fun i hm => by rcases _ap66 with ea | ea; (rw [ea] at hm; have _h1 := _lo61 _ hm; have _h2 := _hiv61 _ hm; omega); (have z2hm := _hiv66 _ hm; rw [ea] at hm; have _z1 := List.mem_singleton.1 hm; omega))).ch0 _cw_137).chS _cw_140 _spl2_9)
                  have _f_145 := (_f_138.ch _cw_140 (fun g hg hm => by rcases _ap72 with ea | ea; (rw [ea] at hg; rcases _ap66 with ea | ea; (rw [ea] at hg; have _h1 := _lo2_9 _ hm; have _h2 := hinw _ hm; have _h3 := _lo61 _ hg; have _h4 := _hiv61 _ hg; omega); (have z2hg := _hiv66 _ hg; rw [ea] at hg; have _z1 := List.mem_singleton.1 hg; have _h1 := _lo2_9 _ hm; have _h2 := hinw _ hm; omega)); (have z2hg := _hiv72 _ hg; rw [ea] at hg; have _z1 := List.mem_singleton.1 hg; have _h1 := _lo2_9 _ hm; have _h2 := hinw _ hm; omega)))
                  have _f_146 := (((((((od.ch0 _cw_98).ch0 _cw_102).ch0 _cw_128).ch _cw_130 (fun i hm => by have _h1 := _lo61 _ hm; have _h2 := _hiv61 _ hm; omega)).ch _cw_134 (fun i hm => by rcases _ap66 with ea | ea; (rw [ea] at hm; have _h1 := _lo61 _ hm; have _h2 := _hiv61 _ hm; omega); (have z2hm := _hiv66 _ hm; rw [ea] at hm; have _z1 := List.mem_singleton.1 hm; omega))).ch0 _cw_137).chS _cw_140 _spl2_9_od)
                  have _f_147 := ((((((_f_100.ch0 _cw_102).ch0 _cw_128).ch _cw_130 (fun i hm => by have _h1 := _lo61 _ hm; have _h2 := _hiv61 _ hm; omega)).ch _cw_134 (fun i hm => by rcases _ap66 with ea | ea; (rw [ea] at hm; have _h1 := _lo61 _ hm; have _h2 := _hiv61 _ hm; omega); (have z2hm := _hiv66 _ hm; rw [ea] at hm; have _z1 := List.mem_singleton.1 hm; omega))).ch0 _cw_137).chS _cw_140 _spl2_9_ol)
                  have _f_148 := (((((((_F2_0.ch0 _cw_98).ch0 _cw_102).ch0 _cw_128).ch _cw_130 (fun hm => by have _h1 := _lo61 _ hm; have _h2 := _hiv61 _ hm; omega)).ch _cw_134 (fun hm => by rcases _ap66 with ea | ea; (rw [ea] at hm; have _h1 := _lo61 _ hm; have _h2 := _hiv61 _ hm; omega); (have z2hm := _hiv66 _ hm; rw [ea] at hm; have _z1 := List.mem_singleton.1 hm; omega))).ch0 _cw_137).ch _cw_140 (fun hm => by have _h1 := _lo2_9 _ hm; have _h2 := hinw _ hm; omega))
                  have _f_149 := (((((((_F2_1.ch0 _cw_98).ch0 _cw_102).ch0 _cw_128).ch _cw_130 (fun i hi => by have _h1 := _lo61 _ hi; omega)).ch _cw_134 (fun i hi => by have _h1 := _lo66 _ hi; omega)).ch0 _cw_137).ch _cw_140 (fun i hi => by have _h1 := _lo2_9 _ hi; omega))
                  have _f_150 := ((((((_f_101.ch0 _cw_102).ch0 _cw_128).ch _cw_130 (fun i hi => by have _h1 := _lo61 _ hi; omega)).ch _cw_134 (fun i hi => by have _h1 := _lo66 _ hi; omega)).ch0 _cw_137).ch _cw_140 (fun i hi => by have _h1 := _lo2_9 _ hi; omega))
                  have _f_151 := (((((((_F2_3.ch0 _cw_98).ch0 _cw_102).ch0 _cw_128).ch _cw_130 (fun g hg hm => by have _h1 := _lo61 _ hm; have _h2 := _hiv61 _ hm; have _h3 := _lo0_7 _ hg; have _h4 := hilv _ hg; omega)).ch _cw_134 (fun g hg hm => by rcases _ap66 with ea | ea; (rw [ea] at hm; have _h1 := _lo61 _ hm; have _h2 := _hiv61 _ hm; have _h3 := _lo0_7 _ hg; have _h4 := hilv _ hg; omega); (have z2hm := _hiv66 _ hm; rw [ea] at hm; have _z1 := List.mem_singleton.1 hm; have _h3 := _lo0_7 _ hg; have _h4 := hilv _ hg; omega))).ch0 _cw_137).ch _cw_140 (fun g hg hm => by exact _djl2_9_7 _ hm hg))
                  have _f_152 := (((((((_F2_4.ch0 _cw_98).ch0 _cw_102).ch0 _cw_128).ch _cw_130 (fun g hg hm => by have _h1 := _lo61 _ hm; have _h2 := _hiv61 _ hm; have _h3 := _lo53 _ hg; have _h4 := _hiv53 _ hg; have _h39 := gpa_79 _ hg; omega)).ch _cw_134 (fun g hg hm => by rcases _ap66 with ea | ea; (rw [ea] at hm; have _h1 := _lo61 _ hm; have _h2 := _hiv61 _ hm; have _h3 := _lo53 _ hg; have _h4 := _hiv53 _ hg; have _h39 := gpa_79 _ hg; omega); (have z2hm := _hiv66 _ hm; rw [ea] at hm; have _z1 := List.mem_singleton.1 hm; have _h3 := _lo53 _ hg; have _h4 := _hiv53 _ hg; have _h39 := gpa_79 _ hg; omega))).ch0 _cw_137).ch _cw_140 (fun g hg hm => by exact _djl2_9_5 _ hm hg))
                  exact thn_nrm (Exists.intro ((j + 1), (ms ++ [(⟨_Av72, ((_ys64 ++ [_y69])).length, _Cv72⟩ : Sv)]), (.slice _Av74 ((ms ++ [(⟨_Av72, ((_ys64 ++ [_y69])).length, _Cv72⟩ : Sv)])).length _Cv74)) ⟨⟨E, (by omega), (by omega), _f_148, _f_149, _f_150, _f_151, _f_152, _on_143, (Lo.down _lo74 (by omega)), ((Od.snoc _f_144 (v := (⟨_Av72, ((_ys64 ++ [_y69])).length, _Cv72⟩ : Sv)) _f_145 (Lo.down _lo72 (by omega)) (fun g hg => by have _h1 := _hiv72 g hg; omega) (by omega) (by omega)).eq (ext_stepL _hys42 _hys64 _hy69)), (_f_146.up (Nat.le_refl _) (by omega)), (_f_147.up (Nat.le_refl _) (by omega)), (fun g hm hg => by rcases _ap74 with ea | ea; (rw [ea] at hm; exact _djl2_9_7 _ hm hg); (have z2hm := _hiv74 _ hm; rw [ea] at hm; have _z1 := List.mem_singleton.1 hm; have _h3 := _lo0_7 _ hg; have _h4 := hilv _ hg; omega)), (fun g hm hg => by rcases _ap74 with ea | ea; (rw [ea] at hm; exact _djl2_9_5 _ hm hg); (have z2hm := _hiv74 _ hm; rw [ea] at hm; have _z1 := List.mem_singleton.1 hm; have _h3 := _lo53 _ hg; have _h4 := _hiv53 _ hg; have _h39 := gpa_79 _ hg; omega)), (fun u hu g hg hm => by rcases List.mem_append.1 hu with hu | hu; (rcases _ap74 with ea | ea; (rw [ea] at hm; exact _spl2_9 _ hu _ hg hm); (have z2hm := _hiv74 _ hm; rw [ea] at hm; have _z1 := List.mem_singleton.1 hm; have _h9 := _f_144.rng hu hg; omega)); (rw [List.mem_singleton.1 hu] at hg; replace hg : g ∈ bl (.slice _Av72 ((_ys64 ++ [_y69])).length _Cv72) := hg; rcases _ap72 with ea | ea; (rw [ea] at hg; rcases _ap66 with ea | ea; (rw [ea] at hg; rcases _ap74 with ea | ea; (rw [ea] at hm; have _h1 := _lo2_9 _ hm; have _h2 := hinw _ hm; have _h3 := _lo61 _ hg; have _h4 := _hiv61 _ hg; omega); (have z2hm := _hiv74 _ hm; rw [ea] at hm; have _z1 := List.mem_singleton.1 hm; have _h3 := _lo61 _ hg; have _h4 := _hiv61 _ hg; omega)); (have z2hg := _hiv66 _ hg; rw [ea] at hg; have _z1 := List.mem_singleton.1 hg; rcases _ap74 with ea | ea; (rw [ea] at hm; have _h1 := _lo2_9 _ hm; have _h2 := hinw _ hm; omega); (have z2hm := _hiv74 _ hm; rw [ea] at hm; have _z1 := List.mem_singleton.1 hm; omega))); (have z2hg := _hiv72 _ hg; rw [ea] at hg; have _z1 := List.mem_singleton.1 hg; rcases _ap74 with ea | ea; (rw [ea] at hm; have _h1 := _lo2_9 _ hm; have _h2 := hinw _ hm; omega); (have z2hm := _hiv74 _ hm; rw [ea] at hm; have _z1 := List.mem_singleton.1 hm; omega)))), (fun u hu g hg hm => by rcases List.mem_append.1 hu with hu | hu; (exact spc2_5_on _ hu _ hg hm); (rw [List.mem_singleton.1 hu] at hg; replace hg : g ∈ bl (.slice _Av72 ((_ys64 ++ [_y69])).length _Cv72) := hg; rcases _ap72 with ea | ea; (rw [ea] at hg; rcases _ap66 with ea | ea; (rw [ea] at hg; have _h1 := _lo53 _ hm; have _h2 := _hiv53 _ hm; have _h19 := gpa_79 _ hm; have _h3 := _lo61 _ hg; have _h4 := _hiv61 _ hg; omega); (have z2hg := _hiv66 _ hg; rw [ea] at hg; have _z1 := List.mem_singleton.1 hg; have _h1 := _lo53 _ hm; have _h2 := _hiv53 _ hm; have _h19 := gpa_79 _ hm; omega)); (have z2hg := _hiv72 _ hg; rw [ea] at hg; have _z1 := List.mem_singleton.1 hg; have _h1 := _lo53 _ hm; have _h2 := _hiv53 _ hm; have _h19 := gpa_79 _ hm; omega))), (fun u hu g hg hm => by rcases _ap74 with ea | ea; (rw [ea] at hm; exact _spl2_9_od _ hu _ hg hm); (have z2hm := _hiv74 _ hm; rw [ea] at hm; have _z1 := List.mem_singleton.1 hm; have _h9 := _f_146.rng hu hg; omega)), (fun u hu g hg hm => by rcases _ap74 with ea | ea; (rw [ea] at hm; exact _spl2_9_ol _ hu _ hg hm); (have z2hm := _hiv74 _ hm; rw [ea] at hm; have _z1 := List.mem_singleton.1 hm; have _h9 := _f_147.rng hu hg; omega))⟩, Sub.cons rfl (Sub.cons rfl (Sub.cons rfl (Sub.cons rfl (Sub.cons rfl (Sub.cons rfl (Sub.cons rfl (Sub.cons rfl (Sub.cons rfl (Sub.cons rfl (Sub.cons rfl (Sub.cons rfl (Sub.cons rfl (Sub.nil _))))))))))))), (by first | omega | (dsimp only; omega))⟩)
              · refine DO_s rfl rfl rfl ?_
                refine s_buildSlice (cs := ics) (parts := [(0, .tmp 70)]) (0 : Int) [_y69] el30 sz3 zr3 ics_len (by decide) rfl rfl rfl (by decide) (by decide) rfl fun _v71 _w_153 _q71 _lo71 _cw_153 => ?_
                have _cw_153z := _cw_153.size
                have E := E.trans _cw_153
                obtain ⟨_Av71, _Cv71, _ev71⟩ := _q71.val
                subst _ev71
                have _lv71 := _q71.len
                have _hiv71 := _q71.lt
                have _S_154 : Ch (bl (.slice Anw (ms).length Cnw)) _w_98 _w_153 := ((Ch.refl _ _).trans _cw_153.of_nil)
                refine ⟨_S_154, ?_⟩
                refine DR_one 1 (by kernel_rfl) ?_
                refine DO_s rfl rfl rfl ?_
                refine s_buildSlice0 (k := 1) ics el30 sz3 fun _v61 _w_155 _q61 _lo61 _cw_155 => ?_
                have _cw_155z := _cw_155.size
                have E := E.trans _cw_155
                obtain ⟨_Av61, _Cv61, _ev61⟩ := _q61.val
                subst _ev61
                have _lv61 := _q61.len
                have _hiv61 := _q61.lt
                have _S_156 : Ch (bl (.slice Anw (ms).length Cnw)) _w_98 _w_155 := (_S_154.trans _cw_155.of_nil)
                refine ⟨_S_156, ?_⟩
                refine DR_one 6 (by kernel_rfl) ?_
                refine DO_s rfl rfl rfl ?_
                have _f_158 := ((_fs64.ch0 _cw_153).ch0 _cw_155)
                refine s_append (cs := ics) el30 sz3 by3 zr3 rfl (by decide) ics_one _q61 _f_158 rfl rfl (by simp only [List.length_singleton, List.length_nil, List.length_append]; omega) (by simp only [List.length_singleton, List.length_nil, List.length_append]; omega) _lo61 (by omega) fun _v66 _w_157 _q66 _lo66 _ap66 _cw_157 => ?_
                have _cw_157z := _cw_157.size
                have E := E.step _cw_157 (fun i hi => .inl (by have _h1 := _lo61 _ hi; omega))
                replace _q66 : Ol ics 3 1 _w_157 _v66 _ys64 := _q66
                obtain ⟨_Av66, _Cv66, _ev66⟩ := _q66.val
                subst _ev66
                have _lv66 := _q66.len
                have _hiv66 := _q66.lt
                have _S_159 : Ch (bl (.slice Anw (ms).length Cnw)) _w_98 _w_157 := (_S_156.step _cw_157 (fun i hm => by left; have _h1 := _lo61 _ hm; have _h2 := _hiv61 _ hm; omega))
                refine ⟨_S_159, ?_⟩
                refine DR_one 12 (by kernel_rfl) ?_
                refine DO_s rfl rfl rfl ?_
                have _f_161 := ((_q71.ch0 _cw_155).ch _cw_157 (fun g hg hm => by have _h1 := _lo61 _ hm; have _h2 := _hiv61 _ hm; have _h3 := _lo71 _ hg; have _h4 := _hiv71 _ hg; omega))
                refine s_append (cs := ics) el30 sz3 by3 zr3 rfl (by decide) ics_one _q66 _f_161.ls rfl rfl (by simp only [List.length_singleton, List.length_nil, List.length_append]; omega) (by simp only [List.length_singleton, List.length_nil, List.length_append]; omega) _lo66 (by omega) fun _v72 _w_160 _q72 _lo72 _ap72 _cw_160 => ?_
                have _cw_160z := _cw_160.size
                have E := E.step _cw_160 (fun i hi => .inl (by have _h1 := _lo66 _ hi; omega))
                obtain ⟨_Av72, _Cv72, _ev72⟩ := _q72.val
                subst _ev72
                have _lv72 := _q72.len
                have _hiv72 := _q72.lt
                have _S_162 : Ch (bl (.slice Anw (ms).length Cnw)) _w_98 _w_160 := (_S_159.step _cw_160 (fun i hm => by rcases _ap66 with ea | ea; (rw [ea] at hm; left; have _h1 := _lo61 _ hm; have _h2 := _hiv61 _ hm; omega); (have z2hm := _hiv66 _ hm; rw [ea] at hm; have _z1 := List.mem_singleton.1 hm; left; omega)))
                refine ⟨_S_162, ?_⟩
                refine DR_one 13 (by kernel_rfl) ?_
                refine DO_s rfl rfl rfl ?_
                refine s_buildSlice (cs := Sv.cs) (parts := [(0, .tmp 72)]) (⟨none, 0, 0⟩ : Sv) [(⟨_Av72, ((_ys64 ++ [_y69])).length, _Cv72⟩ : Sv)] el25 sz30 zr30 Sv.len (by decide) rfl rfl rfl (by decide) (by decide) rfl fun _v73 _w_163 _q73 _lo73 _cw_163 => ?_
                have _cw_163z := _cw_163.size
                have E := E.trans _cw_163
                obtain ⟨_Av73, _Cv73, _ev73⟩ := _q73.val
                subst _ev73
                have _lv73 := _q73.len
                have _hiv73 := _q73.lt
                have _f_164 := (_q72.ch0 _cw_163)
                have od73 : Od ics 3 1 _w_163 _w_153.heap.size _w_163.heap.size ([(⟨_Av72, ((_ys64 ++ [_y69])).length, _Cv72⟩ : Sv)]) ([(_ys64 ++ [_y69])]) := Od.snoc (hi := _w_153.heap.size) (vs := []) (xs := []) Od.nil _f_164 (Lo.down _lo72 (by omega)) (fun g hg => by have _h1 := _hiv72 g hg; omega) (by omega) (by omega)
                have spn73 : Sep (.slice _Av73 ([(⟨_Av72, ((_ys64 ++ [_y69])).length, _Cv72⟩ : Sv)]).length _Cv73) [(⟨_Av72, ((_ys64 ++ [_y69])).length, _Cv72⟩ : Sv)] := fun u hu g hg hm => by rw [List.mem_singleton.1 hu] at hg; have _h1 := _hiv72 _ hg; have _h2 := _lo73 _ hm; omega
                have _S_165 : Ch (bl (.slice Anw (ms).length Cnw)) _w_98 _w_163 := (_S_162.trans _cw_163.of_nil)
                refine ⟨_S_165, ?_⟩
                refine DR_one 14 (by kernel_rfl) ?_
                refine DO_s rfl rfl rfl ?_
                have _f_167 := ((((((_o2_9.ch0 _cw_98).ch0 _cw_153).ch0 _cw_155).ch _cw_157 (fun g hg hm => by have _h1 := _lo61 _ hm; have _h2 := _hiv61 _ hm; have _h3 := _lo2_9 _ hg; have _h4 := hinw _ hg; omega)).ch _cw_160 (fun g hg hm => by rcases _ap66 with ea | ea; (rw [ea] at hm; have _h1 := _lo61 _ hm; have _h2 := _hiv61 _ hm; have _h3 := _lo2_9 _ hg; have _h4 := hinw _ hg; omega); (have z2hm := _hiv66 _ hm; rw [ea] at hm; have _z1 := List.mem_singleton.1 hm; have _h3 := _lo2_9 _ hg; have _h4 := hinw _ hg; omega))).ch0 _cw_163)
                refine s_append (cs := Sv.cs) el25 sz30 by30 zr30 rfl (by decide) Sv.one _f_167 _q73.ls rfl rfl (by simp only [List.length_singleton, List.length_nil, List.length_append]; omega) (by simp only [List.length_singleton, List.length_nil, List.length_append]; omega) _lo2_9 (by omega) fun _v74 _w_166 _q74 _lo74 _ap74 _cw_166 => ?_
                have _cw_166z := _cw_166.size
                have E := E.step _cw_166 (fun i hi => .inl (by have _h1 := _lo2_9 _ hi; omega))
                obtain ⟨_Av74, _Cv74, _ev74⟩ := _q74.val
                subst _ev74
                have _lv74 := _q74.len
                have _hiv74 := _q74.lt
                have _S_168 : Ch (bl (.slice Anw (ms).length Cnw)) _w_98 _w_166 := (_S_165.step _cw_166 (fun i hm => by exact .inr hm))
                refine ⟨_S_168, ?_⟩
                refine DR_s 15 rfl (by kernel_rfl) rfl rfl (t_v (fun _ => (r_assign rfl)) ?_)
                refine DR_done (by kernel_rfl) ?_
                refine inB_nrm ?_
                refine thn_nrm (_hK_97 _ _ ?_)
                clear _hK_97
                refine W_region ?_
                refine WL_step rfl rfl (r_move rfl) ?_
                refine WL_step rfl rfl (r_add (by omega) rfl rfl) ?_
                refine WL_step rfl rfl (r_assign rfl) ?_
                refine WL_nil ?_
                have _on_169 : Ol Sv.cs 30 1 _w_166 (.slice _Av74 ((ms ++ [(⟨_Av72, ((_ys64 ++ [_y69])).length, _Cv72⟩ : Sv)])).length _Cv74) ((ms ++ [(⟨_Av72, ((_ys64 ++ [_y69])).length, _Cv72⟩ : Sv)])) := by
                  have hx := _q74
                  exact hx
                have _f_170 := (((((((on.ch0 _cw_98).ch0 _cw_153).ch0 _cw_155).ch _cw_157 (fun i hm => by have _h1 := _lo61 _ hm; have _h2 := _hiv61 _ hm; omega)).ch _cw_160 (fun i hm => by rcases _ap66 with ea | ea; (rw [ea] at hm; have _h1 := _lo61 _ hm; have _h2 := _hiv61 _ hm; omega); (have z2hm := _hiv66 _ hm; rw [ea] at hm; have _z1 := List.mem_singleton.1 hm; omega))).ch0 _cw_163).chS _cw_166 _spl2_9)
                have _f_171 := (_f_164.ch _cw_166 (fun g hg hm => by rcases _ap72 with ea | ea; (rw [ea] at hg; rcases _ap66 with ea | ea; (rw [ea] at hg; have _h1 := _lo2_9 _ hm; have _h2 := hinw _ hm; have _h3 := _lo61 _ hg; have _h4 := _hiv61 _ hg; omega); (have z2hg := _hiv66 _ hg; rw [ea] at hg; have _z1 := List.mem_singleton.1 hg; have _h1 := _lo2_9 _ hm; have _h2 := hinw _ hm; omega)); (have z2hg := _hiv72 _ hg; rw [ea] at hg; have _z1 := List.mem_singleton.1 hg; have _h1 := _lo2_9 _ hm; have _h2 := hinw _ hm; omega)))
                have _f_172 := (((((((od.ch0 _cw_98).ch0 _cw_153).ch0 _cw_155).ch _cw_157 (fun i hm => by have _h1 := _lo61 _ hm; have _h2 := _hiv61 _ hm; omega)).ch _cw_160 (fun i hm => by rcases _ap66 with ea | ea; (rw [ea] at hm; have _h1 := _lo61 _ hm; have _h2 := _hiv61 _ hm; omega); (have z2hm := _hiv66 _ hm; rw [ea] at hm; have _z1 := List.mem_singleton.1 hm; omega))).ch0 _cw_163).chS _cw_166 _spl2_9_od)
                have _f_173 := ((((((_f_100.ch0 _cw_153).ch0 _cw_155).ch _cw_157 (fun i hm => by have _h1 := _lo61 _ hm; have _h2 := _hiv61 _ hm; omega)).ch _cw_160 (fun i hm => by rcases _ap66 with ea | ea; (rw [ea] at hm; have _h1 := _lo61 _ hm; have _h2 := _hiv61 _ hm; omega); (have z2hm := _hiv66 _ hm; rw [ea] at hm; have _z1 := List.mem_singleton.1 hm; omega))).ch0 _cw_163).chS _cw_166 _spl2_9_ol)
                have _f_174 := (((((((_F2_0.ch0 _cw_98).ch0 _cw_153).ch0 _cw_155).ch _cw_157 (fun hm => by have _h1 := _lo61 _ hm; have _h2 := _hiv61 _ hm; omega)).ch _cw_160 (fun hm => by rcases _ap66 with ea | ea; (rw [ea] at hm; have _h1 := _lo61 _ hm; have _h2 := _hiv61 _ hm; omega); (have z2hm := _hiv66 _ hm; rw [ea] at hm; have _z1 := List.mem_singleton.1 hm; omega))).ch0 _cw_163).ch _cw_166 (fun hm => by have _h1 := _lo2_9 _ hm; have _h2 := hinw _ hm; omega))
                have _f_175 := (((((((_F2_1.ch0 _cw_98).ch0 _cw_153).ch0 _cw_155).ch _cw_157 (fun i hi => by have _h1 := _lo61 _ hi; omega)).ch _cw_160 (fun i hi => by have _h1 := _lo66 _ hi; omega)).ch0 _cw_163).ch _cw_166 (fun i hi => by have _h1 := _lo2_9 _ hi; omega))
                have _f_176 := ((((((_f_101.ch0 _cw_153).ch0 _cw_155).ch _cw_157 (fun i hi => by have _h1 := _lo61 _ hi; omega)).ch _cw_160 (fun i hi => by have _h1 := _lo66 _ hi; omega)).ch0 _cw_163).ch _cw_166 (fun i hi => by have _h1 := _lo2_9 _ hi; omega))
                have _f_177 := (((((((_F2_3.ch0 _cw_98).ch0 _cw_153).ch0 _cw_155).ch _cw_157 (fun g hg hm => by have _h1 := _lo61 _ hm; have _h2 := _hiv61 _ hm; have _h3 := _lo0_7 _ hg; have _h4 := hilv _ hg; omega)).ch _cw_160 (fun g hg hm => by rcases _ap66 with ea | ea; (rw [ea] at hm; have _h1 := _lo61 _ hm; have _h2 := _hiv61 _ hm; have _h3 := _lo0_7 _ hg; have _h4 := hilv _ hg; omega); (have z2hm := _hiv66 _ hm; rw [ea] at hm; have _z1 := List.mem_singleton.1 hm; have _h3 := _lo0_7 _ hg; have _h4 := hilv _ hg; omega))).ch0 _cw_163).ch _cw_166 (fun g hg hm => by exact _djl2_9_7 _ hm hg))
                have _f_178 := (((((((_F2_4.ch0 _cw_98).ch0 _cw_153).ch0 _cw_155).ch _cw_157 (fun g hg hm => by have _h1 := _lo61 _ hm; have _h2 := _hiv61 _ hm; have _h3 := _lo53 _ hg; have _h4 := _hiv53 _ hg; have _h39 := gpa_79 _ hg; omega)).ch _cw_160 (fun g hg hm => by rcases _ap66 with ea | ea; (rw [ea] at hm; have _h1 := _lo61 _ hm; have _h2 := _hiv61 _ hm; have _h3 := _lo53 _ hg; have _h4 := _hiv53 _ hg; have _h39 := gpa_79 _ hg; omega); (have z2hm := _hiv66 _ hm; rw [ea] at hm; have _z1 := List.mem_singleton.1 hm; have _h3 := _lo53 _ hg; have _h4 := _hiv53 _ hg; have _h39 := gpa_79 _ hg; omega))).ch0 _cw_163).ch _cw_166 (fun g hg hm => by exact _djl2_9_5 _ hm hg))
                exact thn_nrm (Exists.intro ((j + 1), (ms ++ [(⟨_Av72, ((_ys64 ++ [_y69])).length, _Cv72⟩ : Sv)]), (.slice _Av74 ((ms ++ [(⟨_Av72, ((_ys64 ++ [_y69])).length, _Cv72⟩ : Sv)])).length _Cv74)) ⟨⟨E, (by omega), (by omega), _f_174, _f_175, _f_176, _f_177, _f_178, _on_169, (Lo.down _lo74 (by omega)), ((Od.snoc _f_170 (v := (⟨_Av72, ((_ys64 ++ [_y69])).length, _Cv72⟩ : Sv)) _f_171 (Lo.down _lo72 (by omega)) (fun g hg => by have _h1 := _hiv72 g hg; omega) (by omega) (by omega)).eq (ext_stepL _hys42 _hys64 _hy69)), (_f_172.up (Nat.le_refl _) (by omega)), (_f_173.up (Nat.le_refl _) (by omega)), (fun g hm hg => by rcases _ap74 with ea | ea; (rw [ea] at hm; exact _djl2_9_7 _ hm hg); (have z2hm := _hiv74 _ hm; rw [ea] at hm; have _z1 := List.mem_singleton.1 hm; have _h3 := _lo0_7 _ hg; have _h4 := hilv _ hg; omega)), (fun g hm hg => by rcases _ap74 with ea | ea; (rw [ea] at hm; exact _djl2_9_5 _ hm hg); (have z2hm := _hiv74 _ hm; rw [ea] at hm; have _z1 := List.mem_singleton.1 hm; have _h3 := _lo53 _ hg; have _h4 := _hiv53 _ hg; have _h39 := gpa_79 _ hg; omega)), (fun u hu g hg hm => by rcases List.mem_append.1 hu with hu | hu; (rcases _ap74 with ea | ea; (rw [ea] at hm; exact _spl2_9 _ hu _ hg hm); (have z2hm := _hiv74 _ hm; rw [ea] at hm; have _z1 := List.mem_singleton.1 hm; have _h9 := _f_170.rng hu hg; omega)); (rw [List.mem_singleton.1 hu] at hg; replace hg : g ∈ bl (.slice _Av72 ((_ys64 ++ [_y69])).length _Cv72) := hg; rcases _ap72 with ea | ea; (rw [ea] at hg; rcases _ap66 with ea | ea; (rw [ea] at hg; rcases _ap74 with ea | ea; (rw [ea] at hm; have _h1 := _lo2_9 _ hm; have _h2 := hinw _ hm; have _h3 := _lo61 _ hg; have _h4 := _hiv61 _ hg; omega); (have z2hm := _hiv74 _ hm; rw [ea] at hm; have _z1 := List.mem_singleton.1 hm; have _h3 := _lo61 _ hg; have _h4 := _hiv61 _ hg; omega)); (have z2hg := _hiv66 _ hg; rw [ea] at hg; have _z1 := List.mem_singleton.1 hg; rcases _ap74 with ea | ea; (rw [ea] at hm; have _h1 := _lo2_9 _ hm; have _h2 := hinw _ hm; omega); (have z2hm := _hiv74 _ hm; rw [ea] at hm; have _z1 := List.mem_singleton.1 hm; omega))); (have z2hg := _hiv72 _ hg; rw [ea] at hg; have _z1 := List.mem_singleton.1 hg; rcases _ap74 with ea | ea; (rw [ea] at hm; have _h1 := _lo2_9 _ hm; have _h2 := hinw _ hm; omega); (have z2hm := _hiv74 _ hm; rw [ea] at hm; have _z1 := List.mem_singleton.1 hm; omega)))), (fun u hu g hg hm => by rcases List.mem_append.1 hu with hu | hu; (exact spc2_5_on _ hu _ hg hm); (rw [List.mem_singleton.1 hu] at hg; replace hg : g ∈ bl (.slice _Av72 ((_ys64 ++ [_y69])).length _Cv72) := hg; rcases _ap72 with ea | ea; (rw [ea] at hg; rcases _ap66 with ea | ea; (rw [ea] at hg; have _h1 := _lo53 _ hm; have _h2 := _hiv53 _ hm; have _h19 := gpa_79 _ hm; have _h3 := _lo61 _ hg; have _h4 := _hiv61 _ hg; omega); (have z2hg := _hiv66 _ hg; rw [ea] at hg; have _z1 := List.mem_singleton.1 hg; have _h1 := _lo53 _ hm; have _h2 := _hiv53 _ hm; have _h19 := gpa_79 _ hm; omega)); (have z2hg := _hiv72 _ hg; rw [ea] at hg; have _z1 := List.mem_singleton.1 hg; have _h1 := _lo53 _ hm; have _h2 := _hiv53 _ hm; have _h19 := gpa_79 _ hm; omega))), (fun u hu g hg hm => by rcases _ap74 with ea | ea; (rw [ea] at hm; exact _spl2_9_od _ hu _ hg hm); (have z2hm := _hiv74 _ hm; rw [ea] at hm; have _z1 := List.mem_singleton.1 hm; have _h9 := _f_172.rng hu hg; omega)), (fun u hu g hg hm => by rcases _ap74 with ea | ea; (rw [ea] at hm; exact _spl2_9_ol _ hu _ hg hm); (have z2hm := _hiv74 _ hm; rw [ea] at hm; have _z1 := List.mem_singleton.1 hm; have _h9 := _f_173.rng hu hg; omega))⟩, Sub.cons rfl (Sub.cons rfl (Sub.cons rfl (Sub.cons rfl (Sub.cons rfl (Sub.cons rfl (Sub.cons rfl (Sub.cons rfl (Sub.cons rfl (Sub.cons rfl (Sub.cons rfl (Sub.cons rfl (Sub.cons rfl (Sub.nil _))))))))))))), (by first | omega | (dsimp only; omega))⟩)
            · have _kb_96 := _h57
              have _h57 := bf_d _h57
              refine W_exit (thn_exit (thn_exit (inB_hit ?_)))
              refine inB_nrm ?_
              refine thn_nrm (_hK_55 _ _ ?_)
              clear _hK_55
              refine W_region ?_
              refine WL_step rfl rfl (r_move rfl) ?_
              refine WL_step rfl rfl (r_add (by omega) rfl rfl) ?_
              refine WL_step rfl rfl (r_assign rfl) ?_
              refine WL_nil ?_
              have _on_179 : Ol Sv.cs 30 1 _wr_93 (.slice _Av53 ((us ++ [(⟨_Av51, (_ys49).length, _Cv51⟩ : Sv)])).length _Cv53) ((us ++ [(⟨_Av51, (_ys49).length, _Cv51⟩ : Sv)])) := by
                have hx := _F2_4
                exact hx
              have _on_180 : Ol Sv.cs 30 1 _wr_93 (.slice Anw (ms).length Cnw) (ms) := by
                have hx := _o2_9
                exact hx
              exact thn_nrm (Exists.intro ((i + 1), (us ++ [(⟨_Av51, (_ys49).length, _Cv51⟩ : Sv)]), ms, (.slice _Av53 ((us ++ [(⟨_Av51, (_ys49).length, _Cv51⟩ : Sv)])).length _Cv53), (.slice Anw (ms).length Cnw)) ⟨⟨E, (by omega), (by omega), _F2_0, _F2_1, _F2_2, _F2_3, _on_179, (Lo.down _lo53 (by omega)), _on_180, (Lo.down _lo2_9 (by omega)), ((od.up (Nat.le_refl _) (by omega)).eq (by have _q9 := get_uniq _hys42 _hys49; subst _q9; rw [take_snoc _hys42, List.filter_append]; simp [_h44])), ((on.up (Nat.le_refl _) (by omega)).eq (ext_allL _hys42 (by omega))), (ol.up (Nat.le_refl _) (by omega)), (fun g hm hg => by exact dja_77 _ hm hg), (fun g hm => by have _h1 := _lo53 _ hm; have _h2 := _hiv53 _ hm; have _h19 := gpa_79 _ hm; omega), (fun g hm hg => by exact _djl2_9_7 _ hm hg), (fun g hm hg => by exact _djl2_9_5 _ hm hg), (fun u hu g hg hm => by exact spa_80 _ hu _ hg hm), (fun u hu g hg hm => by exact _spl2_9_od _ hu _ hg hm), (fun u hu g hg hm => by exact _spl2_9 _ hu _ hg hm), (fun u hu g hg hm => by exact spc2_5_on _ hu _ hg hm), (fun u hu g hg hm => by exact spa_84 _ hu _ hg hm), (fun u hu g hg hm => by exact _spl2_9_ol _ hu _ hg hm)⟩, Sub.cons rfl (Sub.cons rfl (Sub.cons rfl (Sub.cons rfl (Sub.cons rfl (Sub.cons rfl (Sub.cons rfl (Sub.cons rfl (Sub.cons rfl (Sub.cons rfl (Sub.nil _)))))))))), (by first | omega | (dsimp only; omega))⟩)
          · have _kb_65 := _h44
            refine W_skip ?_
            refine thn_nrm (_hK_56 _ _ ?_)
            clear _hK_56
            refine W_seq fun _K_181 _hK_181 => ?_
            refine W_region ?_
            refine WL_step rfl rfl (r_assign rfl) ?_
            refine WL_nil ?_
            refine thn_nrm (_hK_181 _ _ ?_)
            clear _hK_181
            refine W_block ?_
            have _f_182 := ((_o1_9.ch0 _cw_58).ch0 _cw_63)
            have _oi_183 : Ol Sv.cs 30 1 _w_63 (.slice Anv (ns).length Cnv) (ns) := by
              have hx := _f_182
              exact hx
            have _f_184 := ((on.ch0 _cw_58).ch0 _cw_63)
            have _f_185 := ((od.ch0 _cw_58).ch0 _cw_63)
            have _f_186 := (_f_61.ch0 _cw_63)
            have _f_187 := (_f_59.ch0 _cw_63)
            have _f_188 := (_f_62.ch0 _cw_63)
            have _f_189 := ((_F1_2.ch0 _cw_58).ch0 _cw_63)
            have _f_190 := (_f_60.ch0 _cw_63)
            have _f_191 := ((_o1_5.ch0 _cw_58).ch0 _cw_63)
            refine W_loop (σ := Nat × List Sv × Value) (fun ⟨j, ms, nw⟩ => [(1, (.int .i64 length)), (2, (.pointer (some ⟨_b2, 0, none⟩))), (4, (.slice none 0 0)), (5, (.slice Aow (us).length Cow)), (6, (.slice _Av23 (alphR e).length _Cv23)), (7, (.slice Alv (ls).length Clv)), (8, (.int .i64 ((k : Nat) : Int))), (9, nw), (10, (.int .i64 ((i : Nat) : Int))), (11, (.int .i64 ((j : Nat) : Int))), (28, (.bool (decide (((k : Nat) : Int) ≤ length)))), (35, (.bool (decide (((i : Nat) : Int) < ((ls.length : Nat) : Int))))), (44, (.bool (mtT _ys42 _t9 0 _ys42.length)))]) (fun ⟨j, ms, nw⟩ wx => Ch [] w wx ∧ _w_63.heap.size ≤ wx.heap.size ∧ (j ≤ (alphR e).length) ∧ Blk wx _b2 67 [(.slice _A_e e.length _C_e)] ∧ Ls Token.cs 4 wx LL_e w.heap.size (.slice _A_e e.length _C_e) e ∧ Ls ics 1 wx _w_13.heap.size _w_20.heap.size (.slice _Av23 (alphR e).length _Cv23) (alphR e) ∧ Ol Sv.cs 30 1 wx (.slice Alv (ls).length Clv) ls ∧ Ol Sv.cs 30 1 wx (.slice Aow (us).length Cow) us ∧ Ol Sv.cs 30 1 wx nw ms ∧ Lo _wr_33.heap.size nw ∧ Od ics 3 1 wx w.heap.size wx.heap.size ms (((wdL (alphR e) k).take i).flatMap (extW (alphR e)) ++ (extW (alphR e) _ys42).take j) ∧ Od ics 3 1 wx w.heap.size wx.heap.size us (wuT (alphR e) _t9 k ++ ((wdL (alphR e) k).take i).filter (fun w : List Int => mtT w _t9 0 w.length)) ∧ Od ics 3 1 wx w.heap.size wx.heap.size ls (wdL (alphR e) k) ∧ (∀ g ∈ bl nw, g ∉ bl (.slice Alv (ls).length Clv)) ∧ (∀ g ∈ bl nw, g ∉ bl (.slice Aow (us).length Cow)) ∧ (Sep nw ms) ∧ (Sep (.slice Aow (us).length Cow) ms) ∧ (Sep nw us) ∧ (Sep nw ls)) (fun ⟨j, ms, nw⟩ => (alphR e).length - j) (0, ns, (.slice Anv (ns).length Cnv)) (Sub.cons rfl (Sub.cons rfl (Sub.cons rfl (Sub.cons rfl (Sub.cons rfl (Sub.cons rfl (Sub.cons rfl (Sub.cons rfl (Sub.cons rfl (Sub.cons rfl (Sub.cons rfl (Sub.cons rfl (Sub.cons rfl (Sub.nil _)))))))))))))) ⟨E, (Nat.le_refl _), (by omega), _f_187, _f_188, _f_189, _f_190, _f_191, _oi_183, _lo1_9, ((_f_184.up (Nat.le_refl _) (by omega)).eq (by simp)), (_f_185.up (Nat.le_refl _) (by omega)), (_f_186.up (Nat.le_refl _) (by omega)), (fun g hm hg => by exact _djl1_9_7 _ hm hg), (fun g hm hg => by exact _djl1_9_o5 _ hm hg), _spl1_9_on, _spl1_5_on, _spl1_9, _spl1_9_ol⟩ ?_
            rintro ⟨j, ms, nw⟩ _wr_192 ⟨E, _zz2, hj, _F2_0, _F2_1, _F2_2, _F2_3, _F2_4, _o2_9, _lo2_9, on, od, ol, _djl2_9_7, _djl2_9_5, _spl2_9, spc2_5_on, _spl2_9_od, _spl2_9_ol⟩
            have _E2h := E
            have _E2hz := _E2h.size
            have _F2_0z := _F2_0.lt
            obtain ⟨Anw, Cnw, enw⟩ := _o2_9.val
            subst enw
            have lnw := _o2_9.len
            have hinw := _o2_9.lt
            refine W_seq fun _K_193 _hK_193 => ?_
            refine W_seq fun _K_194 _hK_194 => ?_
            refine W_region ?_
            refine WL_step rfl rfl (r_move rfl) ?_
            refine WL_step rfl rfl (r_move rfl) ?_
            refine WL_step rfl rfl (r_len (by rw [el30]; rfl) rfl) ?_
            refine WL_step rfl rfl (r_lss rfl rfl) ?_
            refine WL_nil ?_
            refine thn_nrm (_hK_194 _ _ ?_)
            clear _hK_194
            refine W_cond rfl (fun _h57 => ?_) (fun _h57 => ?_)
            · have _kb_195 := _h57
              have _h57 := bt_d _h57
              refine W_skip ?_
              refine thn_nrm (_hK_193 _ _ ?_)
              clear _hK_193
              refine W_seq fun _K_196 _hK_196 => ?_
              refine W_block ?_
              obtain ⟨go860, hgo860, lso860⟩ := Ol.lsE _F2_3 (by omega)
              refine W_drawC (bl (.slice Anw (ms).length Cnw)) 16 mixed rfl fun _w_197 _cw_197 => ?_
              have _cw_197z := _cw_197.size
              have E := E.trans _cw_197
              refine DR_s 0 rfl (by kernel_rfl) rfl rfl (t_v (fun _ => (r_move rfl)) ?_)
              refine DR_s 2 rfl (by kernel_rfl) rfl rfl (t_v (fun _ => (r_move rfl)) ?_)
              refine DR_s 3 rfl (by kernel_rfl) rfl rfl (t_v (fun _ => (r_move rfl)) ?_)
              have _f_198 := (lso860.ch0 _cw_197)
              have _f_199 := (ol.ch0 _cw_197)
              refine DR_s 4 rfl (by kernel_rfl) rfl rfl (t_index _f_198 Sv.len el25 sz30 rfl rfl rfl (by omega) fun _p64 _y64 _hy64 _a64 => ?_)
              obtain ⟨_ys64, _hys64, _fs64⟩ := _f_199.get _hy64
              obtain ⟨_A64, _n64, _C64⟩ := _y64
              obtain rfl := _fs64.eqn
              have _l64 := _fs64.len
              replace _fs64 : Ls ics 1 _w_197 0 _w_197.heap.size (.slice _A64 _ys64.length _C64) _ys64 := _fs64
              replace _a64 : At _w_197 go860 (go860 + 1) _p64 ([(.slice _A64 _ys64.length _C64)]) := _a64
              have bn7 := flatJ_le (L := alphR e) (W := wdL (alphR e) k) (i := i) (j := j) (y := _ys42) al9
              have bn6 := on.1
              have ym9 := wdL_len (mem_of_get _hys64)
              refine DR_s 5 rfl (by kernel_rfl) rfl rfl (t_loadAt0 _a64 (fun i hm => ne_blk (_djl2_9_7 i hm) hgo860) agg30 rfl rfl ?_)
              refine DR_s 7 rfl (by kernel_rfl) rfl rfl (t_v (fun _ => (r_move rfl)) ?_)
              refine DR_s 8 rfl (by kernel_rfl) rfl rfl (t_v (fun _ => (r_move rfl)) ?_)
              have _f_200 := (_F2_2.ch0 _cw_197)
              refine DR_s 9 rfl (by kernel_rfl) rfl rfl (t_index _f_200 ics_len el30 sz3 rfl rfl rfl (by omega) fun _p69 _y69 _hy69 _a69 => ?_)
              refine DR_s 10 rfl (by kernel_rfl) rfl rfl (t_loadAt0 _a69 (fun i hm => by have _h1 := _lo2_9 _ hm; have _h2 := hinw _ hm; omega) agg3 rfl rfl ?_)
              refine DR_two 1 11 (by kernel_rfl) ?_ ?_
              · refine DO_s rfl rfl rfl ?_
                refine s_buildSlice0 (k := 1) ics el30 sz3 fun _v61 _w_201 _q61 _lo61 _cw_201 => ?_
                have _cw_201z := _cw_201.size
                have E := E.trans _cw_201
                obtain ⟨_Av61, _Cv61, _ev61⟩ := _q61.val
                subst _ev61
                have _lv61 := _q61.len
                have _hiv61 := _q61.lt
                have _S_202 : Ch (bl (.slice Anw (ms).length Cnw)) _w_197 _w_201 := ((Ch.refl _ _).trans _cw_201.of_nil)
                refine ⟨_S_202, ?_⟩
                refine DR_two 6 11 (by kernel_rfl) ?_ ?_
                · refine DO_s rfl rfl rfl ?_
                  have _f_204 := (_fs64.ch0 _cw_201)
                  refine s_append (cs := ics) el30 sz3 by3 zr3 rfl (by decide) ics_one _q61 _f_204 rfl rfl (by simp only [List.length_singleton, List.length_nil, List.length_append]; omega) (by simp only [List.length_singleton, List.length_nil, List.length_append]; omega) _lo61 (by omega) fun _v66 _w_203 _q66 _lo66 _ap66 _cw_203 => ?_
                  have _cw_203z := _cw_203.size
                  have E := E.step _cw_203 (fun i hi => .inl (by have _h1 := _lo61 _ hi; omega))
                  replace _q66 : Ol ics 3 1 _w_203 _v66 _ys64 := _q66
                  obtain ⟨_Av66, _Cv66, _ev66⟩ := _q66.val
                  subst _ev66
                  have _lv66 := _q66.len
                  have _hiv66 := _q66.lt
                  have _S_205 : Ch (bl (.slice Anw (ms).length Cnw)) _w_197 _w_203 := (_S_202.step _cw_203 (fun i hm => by left; have _h1 := _lo61 _ hm; have _h2 := _hiv61 _ hm; omega))
                  refine ⟨_S_205, ?_⟩
                  refine DR_one 11 (by kernel_rfl) ?_
                  refine DO_s rfl rfl rfl ?_
                  refine s_buildSlice (cs := ics) (parts := [(0, .tmp 70)]) (0 : Int) [_y69] el30 sz3 zr3 ics_len (by decide) rfl rfl rfl (by decide) (by decide) rfl fun _v71 _w_206 _q71 _lo71 _cw_206 => ?_
                  have _cw_206z := _cw_206.size
                  have E := E.trans _cw_206
                  obtain ⟨_Av71, _Cv71, _ev71⟩ := _q71.val
                  subst _ev71
                  have _lv71 := _q71.len
                  have _hiv71 := _q71.lt
                  have _S_207 : Ch (bl (.slice Anw (ms).length Cnw)) _w_197 _w_206 := (_S_205.trans _cw_206.of_nil)
                  refine ⟨_S_207, ?_⟩
                  refine DR_one 12 (by kernel_rfl) ?_
                  refine DO_s rfl rfl rfl ?_
                  have _f_209 := (_q66.ch0 _cw_206)
                  refine s_append (cs := ics) el30 sz3 by3 zr3 rfl (by decide) ics_one _f_209 _q71.ls rfl rfl (by simp only [List.length_singleton, List.length_nil, List.length_append]; omega) (by simp only [List.length_singleton, List.length_nil, List.length_append]; omega) _lo66 (by omega) fun _v72 _w_208 _q72 _lo72 _ap72 _cw_208 => ?_
                  have _cw_208z := _cw_208.size
                  have E := E.step _cw_208 (fun i hi => .inl (by have _h1 := _lo66 _ hi; omega))
                  obtain ⟨_Av72, _Cv72, _ev72⟩ := _q72.val
                  subst _ev72
                  have _lv72 := _q72.len
                  have _hiv72 := _q72.lt
                  have _S_210 : Ch (bl (.slice Anw (ms).length Cnw)) _w_197 _w_208 := (_S_207.step _cw_208 (fun i hm => by rcases _ap66 with ea | ea; (rw [ea] at hm; left; have _h1 := _lo61 _ hm; have _h2 := _hiv61 _ hm; omega); (have z2hm := _hiv66 _ hm; rw [ea] at hm; have _z1 := List.mem_singleton.1 hm; left; omega)))
                  refine ⟨_S_210, ?_⟩
                  refine DR_one 13 (by kernel_rfl) ?_
                  refine DO_s rfl rfl rfl ?_
                  refine s_buildSlice (cs := Sv.cs) (parts := [(0, .tmp 72)]) (⟨none, 0, 0⟩ : Sv) [(⟨_Av72, ((_ys64 ++ [_y69])).length, _Cv72⟩ : Sv)] el25 sz30 zr30 Sv.len (by decide) rfl rfl rfl (by decide) (by decide) rfl fun _v73 _w_211 _q73 _lo73 _cw_211 => ?_
                  have _cw_211z := _cw_211.size
                  have E := E.trans _cw_211
                  obtain ⟨_Av73, _Cv73, _ev73⟩ := _q73.val
                  subst _ev73
                  have _lv73 := _q73.len
                  have _hiv73 := _q73.lt
                  have _f_212 := (_q72.ch0 _cw_211)
                  have od73 : Od ics 3 1 _w_211 _w_197.heap.size _w_211.heap.size ([(⟨_Av72, ((_ys64 ++ [_y69])).length, _Cv72⟩ : Sv)]) ([(_ys64 ++ [_y69])]) := Od.snoc (hi := _w_197.heap.size) (vs := []) (xs := []) Od.nil _f_212 (Lo.down _lo72 (by omega)) (fun g hg => by have _h1 := _hiv72 g hg; omega) (by omega) (by omega)
                  have spn73 : Sep (.slice _Av73 ([(⟨_Av72, ((_ys64 ++ [_y69])).length, _Cv72⟩ : Sv)]).length _Cv73) [(⟨_Av72, ((_ys64 ++ [_y69])).length, _Cv72⟩ : Sv)] := fun u hu g hg hm => by rw [List.mem_singleton.1 hu] at hg; have _h1 := _hiv72 _ hg; have _h2 := _lo73 _ hm; omega
                  have _S_213 : Ch (bl (.slice Anw (ms).length Cnw)) _w_197 _w_211 := (_S_210.trans _cw_211.of_nil)
                  refine ⟨_S_213, ?_⟩
                  refine DR_one 14 (by kernel_rfl) ?_
                  refine DO_s rfl rfl rfl ?_
                  have _f_215 := ((((((_o2_9.ch0 _cw_197).ch0 _cw_201).ch _cw_203 (fun g hg hm => by have _h1 := _lo61 _ hm; have _h2 := _hiv61 _ hm; have _h3 := _lo2_9 _ hg; have _h4 := hinw _ hg; omega)).ch0 _cw_206).ch _cw_208 (fun g hg hm => by rcases _ap66 with ea | ea; (rw [ea] at hm; have _h1 := _lo61 _ hm; have _h2 := _hiv61 _ hm; have _h3 := _lo2_9 _ hg; have _h4 := hinw _ hg; omega); (have z2hm := _hiv66 _ hm; rw [ea] at hm; have _z1 := List.mem_singleton.1 hm; have _h3 := _lo2_9 _ hg; have _h4 := hinw _ hg; omega))).ch0 _cw_211)
                  refine s_append (cs := Sv.cs) el25 sz30 by30 zr30 rfl (by decide) Sv.one _f_215 _q73.ls rfl rfl (by simp only [List.length_singleton, List.length_nil, List.length_append]; omega) (by simp only [List.length_singleton, List.length_nil, List.length_append]; omega) _lo2_9 (by omega) fun _v74 _w_214 _q74 _lo74 _ap74 _cw_214 => ?_
                  have _cw_214z := _cw_214.size
                  have E := E.step _cw_214 (fun i hi => .inl (by have _h1 := _lo2_9 _ hi; omega))
                  obtain ⟨_Av74, _Cv74, _ev74⟩ := _q74.val
                  subst _ev74
                  have _lv74 := _q74.len
                  have _hiv74 := _q74.lt
                  have _S_216 : Ch (bl (.slice Anw (ms).length Cnw)) _w_197 _w_214 := (_S_213.step _cw_214 (fun i hm => by exact .inr hm))
                  refine ⟨_S_216, ?_⟩
                  refine DR_s 15 rfl (by kernel_rfl) rfl rfl (t_v (fun _ => (r_assign rfl)) ?_)
                  refine DR_done (by kernel_rfl) ?_
                  refine inB_nrm ?_
                  refine thn_nrm (_hK_196 _ _ ?_)
                  clear _hK_196
                  refine W_region ?_
                  refine WL_step rfl rfl (r_move rfl) ?_
                  refine WL_step rfl rfl (r_add (by omega) rfl rfl) ?_
                  refine WL_step rfl rfl (r_assign rfl) ?_
                  refine WL_nil ?_
                  have _on_217 : Ol Sv.cs 30 1 _w_214 (.slice _Av74 ((ms ++ [(⟨_Av72, ((_ys64 ++ [_y69])).length, _Cv72⟩ : Sv)])).length _Cv74) ((ms ++ [(⟨_Av72, ((_ys64 ++ [_y69])).length, _Cv72⟩ : Sv)])) := by
                    have hx := _q74
                    exact hx
                  have _f_218 := (((((((on.ch0 _cw_197).ch0 _cw_201).ch _cw_203 (fun i hm => by have _h1 := _lo61 _ hm; have _h2 := _hiv61 _ hm; omega)).ch0 _cw_206).ch _cw_208 (fun i hm => by rcases _ap66 with ea | ea; (rw [ea] at hm; have _h1 := _lo61 _ hm; have _h2 := _hiv61 _ hm; omega); (have z2hm := _hiv66 _ hm; rw [ea] at hm; have _z1 := List.mem_singleton.1 hm; omega))).ch0 _cw_211).chS _cw_214 _spl2_9)
                  have _f_219 := (_f_212.ch _cw_214 (fun g hg hm => by rcases _ap72 with ea | ea; (rw [ea] at hg; rcases _ap66 with ea | ea; (rw [ea] at hg; have _h1 := _lo2_9 _ hm; have _h2 := hinw _ hm; have _h3 := _lo61 _ hg; have _h4 := _hiv61 _ hg; omega); (have z2hg := _hiv66 _ hg; rw [ea] at hg; have _z1 := List.mem_singleton.1 hg; have _h1 := _lo2_9 _ hm; have _h2 := hinw _ hm; omega)); (have z2hg := _hiv72 _ hg; rw [ea] at hg; have _z1 := List.mem_singleton.1 hg; have _h1 := _lo2_9 _ hm; have _h2 := hinw _ hm; omega)))
                  have _f_220 := (((((((od.ch0 _cw_197).ch0 _cw_201).ch _cw_203 (fun i hm => by have _h1 := _lo61 _ hm; have _h2 := _hiv61 _ hm; omega)).ch0 _cw_206).ch _cw_208 (fun i hm => by rcases _ap66 with ea | ea; (rw [ea] at hm; have _h1 := _lo61 _ hm; have _h2 := _hiv61 _ hm; omega); (have z2hm := _hiv66 _ hm; rw [ea] at hm; have _z1 := List.mem_singleton.1 hm; omega))).ch0 _cw_211).chS _cw_214 _spl2_9_od)
                  have _f_221 := ((((((_f_199.ch0 _cw_201).ch _cw_203 (fun i hm => by have _h1 := _lo61 _ hm; have _h2 := _hiv61 _ hm; omega)).ch0 _cw_206).ch _cw_208 (fun i hm => by rcases _ap66 with ea | ea; (rw [ea] at hm; have _h1 := _lo61 _ hm; have _h2 := _hiv61 _ hm; omega); (have z2hm := _hiv66 _ hm; rw [ea] at hm; have _z1 := List.mem_singleton.1 hm; omega))).ch0 _cw_211).chS _cw_214 _spl2_9_ol)
                  have _f_222 := (((((((_F2_0.ch0 _cw_197).ch0 _cw_201).ch _cw_203 (fun hm => by have _h1 := _lo61 _ hm; have _h2 := _hiv61 _ hm; omega)).ch0 _cw_206).ch _cw_208 (fun hm => by rcases _ap66 with ea | ea; (rw [ea] at hm; have _h1 := _lo61 _ hm; have _h2 := _hiv61 _ hm; omega); (have z2hm := _hiv66 _ hm; rw [ea] at hm; have _z1 := List.mem_singleton.1 hm; omega))).ch0 _cw_211).ch _cw_214 (fun hm => by have _h1 := _lo2_9 _ hm; have _h2 := hinw _ hm; omega))
                  have _f_223 := (((((((_F2_1.ch0 _cw_197).ch0 _cw_201).ch _cw_203 (fun i hi => by have _h1 := _lo61 _ hi; omega)).ch0 _cw_206).ch _cw_208 (fun i hi => by have _h1 := _lo66 _ hi; omega)).ch0 _cw_211).ch _cw_214 (fun i hi => by have _h1 := _lo2_9 _ hi; omega))
                  have _f_224 := ((((((_f_200.ch0 _cw_201).ch _cw_203 (fun i hi => by have _h1 := _lo61 _ hi; omega)).ch0 _cw_206).ch _cw_208 (fun i hi => by have _h1 := _lo66 _ hi; omega)).ch0 _cw_211).ch _cw_214 (fun i hi => by have _h1 := _lo2_9 _ hi; omega))
                  have _f_225 := (((((((_F2_3.ch0 _cw_197).ch0 _cw_201).ch _cw_203 (fun g hg hm => by have _h1 := _lo61 _ hm; have _h2 := _hiv61 _ hm; have _h3 := _lo0_7 _ hg; have _h4 := hilv _ hg; omega)).ch0 _cw_206).ch _cw_208 (fun g hg hm => by rcases _ap66 with ea | ea; (rw [ea] at hm; have _h1 := _lo61 _ hm; have _h2 := _hiv61 _ hm; have _h3 := _lo0_7 _ hg; have _h4 := hilv _ hg; omega); (have z2hm := _hiv66 _ hm; rw [ea] at hm; have _z1 := List.mem_singleton.1 hm; have _h3 := _lo0_7 _ hg; have _h4 := hilv _ hg; omega))).ch0 _cw_211).ch _cw_214 (fun g hg hm => by exact _djl2_9_7 _ hm hg))
                  have _f_226 := (((((((_F2_4.ch0 _cw_197).ch0 _cw_201).ch _cw_203 (fun g hg hm => by have _h1 := _lo61 _ hm; have _h2 := _hiv61 _ hm; have _h3 := _lo1_5 _ hg; have _h4 := hiow _ hg; have _h39 := gp1_5 _ hg; omega)).ch0 _cw_206).ch _cw_208 (fun g hg hm => by rcases _ap66 with ea | ea; (rw [ea] at hm; have _h1 := _lo61 _ hm; have _h2 := _hiv61 _ hm; have _h3 := _lo1_5 _ hg; have _h4 := hiow _ hg; have _h39 := gp1_5 _ hg; omega); (have z2hm := _hiv66 _ hm; rw [ea] at hm; have _z1 := List.mem_singleton.1 hm; have _h3 := _lo1_5 _ hg; have _h4 := hiow _ hg; have _h39 := gp1_5 _ hg; omega))).ch0 _cw_211).ch _cw_214 (fun g hg hm => by exact _djl2_9_5 _ hm hg))
                  exact thn_nrm (Exists.intro ((j + 1), (ms ++ [(⟨_Av72, ((_ys64 ++ [_y69])).length, _Cv72⟩ : Sv)]), (.slice _Av74 ((ms ++ [(⟨_Av72, ((_ys64 ++ [_y69])).length, _Cv72⟩ : Sv)])).length _Cv74)) ⟨⟨E, (by omega), (by omega), _f_222, _f_223, _f_224, _f_225, _f_226, _on_217, (Lo.down _lo74 (by omega)), ((Od.snoc _f_218 (v := (⟨_Av72, ((_ys64 ++ [_y69])).length, _Cv72⟩ : Sv)) _f_219 (Lo.down _lo72 (by omega)) (fun g hg => by have _h1 := _hiv72 g hg; omega) (by omega) (by omega)).eq (ext_stepL _hys42 _hys64 _hy69)), (_f_220.up (Nat.le_refl _) (by omega)), (_f_221.up (Nat.le_refl _) (by omega)), (fun g hm hg => by rcases _ap74 with ea | ea; (rw [ea] at hm; exact _djl2_9_7 _ hm hg); (have z2hm := _hiv74 _ hm; rw [ea] at hm; have _z1 := List.mem_singleton.1 hm; have _h3 := _lo0_7 _ hg; have _h4 := hilv _ hg; omega)), (fun g hm hg => by rcases _ap74 with ea | ea; (rw [ea] at hm; exact _djl2_9_5 _ hm hg); (have z2hm := _hiv74 _ hm; rw [ea] at hm; have _z1 := List.mem_singleton.1 hm; have _h3 := _lo1_5 _ hg; have _h4 := hiow _ hg; have _h39 := gp1_5 _ hg; omega)), (fun u hu g hg hm => by rcases List.mem_append.1 hu with hu | hu; (rcases _ap74 with ea | ea; (rw [ea] at hm; exact _spl2_9 _ hu _ hg hm); (have z2hm := _hiv74 _ hm; rw [ea] at hm; have _z1 := List.mem_singleton.1 hm; have _h9 := _f_218.rng hu hg; omega)); (rw [List.mem_singleton.1 hu] at hg; replace hg : g ∈ bl (.slice _Av72 ((_ys64 ++ [_y69])).length _Cv72) := hg; rcases _ap72 with ea | ea; (rw [ea] at hg; rcases _ap66 with ea | ea; (rw [ea] at hg; rcases _ap74 with ea | ea; (rw [ea] at hm; have _h1 := _lo2_9 _ hm; have _h2 := hinw _ hm; have _h3 := _lo61 _ hg; have _h4 := _hiv61 _ hg; omega); (have z2hm := _hiv74 _ hm; rw [ea] at hm; have _z1 := List.mem_singleton.1 hm; have _h3 := _lo61 _ hg; have _h4 := _hiv61 _ hg; omega)); (have z2hg := _hiv66 _ hg; rw [ea] at hg; have _z1 := List.mem_singleton.1 hg; rcases _ap74 with ea | ea; (rw [ea] at hm; have _h1 := _lo2_9 _ hm; have _h2 := hinw _ hm; omega); (have z2hm := _hiv74 _ hm; rw [ea] at hm; have _z1 := List.mem_singleton.1 hm; omega))); (have z2hg := _hiv72 _ hg; rw [ea] at hg; have _z1 := List.mem_singleton.1 hg; rcases _ap74 with ea | ea; (rw [ea] at hm; have _h1 := _lo2_9 _ hm; have _h2 := hinw _ hm; omega); (have z2hm := _hiv74 _ hm; rw [ea] at hm; have _z1 := List.mem_singleton.1 hm; omega)))), (fun u hu g hg hm => by rcases List.mem_append.1 hu with hu | hu; (exact spc2_5_on _ hu _ hg hm); (rw [List.mem_singleton.1 hu] at hg; replace hg : g ∈ bl (.slice _Av72 ((_ys64 ++ [_y69])).length _Cv72) := hg; rcases _ap72 with ea | ea; (rw [ea] at hg; rcases _ap66 with ea | ea; (rw [ea] at hg; have _h1 := _lo1_5 _ hm; have _h2 := hiow _ hm; have _h19 := gp1_5 _ hm; have _h3 := _lo61 _ hg; have _h4 := _hiv61 _ hg; omega); (have z2hg := _hiv66 _ hg; rw [ea] at hg; have _z1 := List.mem_singleton.1 hg; have _h1 := _lo1_5 _ hm; have _h2 := hiow _ hm; have _h19 := gp1_5 _ hm; omega)); (have z2hg := _hiv72 _ hg; rw [ea] at hg; have _z1 := List.mem_singleton.1 hg; have _h1 := _lo1_5 _ hm; have _h2 := hiow _ hm; have _h19 := gp1_5 _ hm; omega))), (fun u hu g hg hm => by rcases _ap74 with ea | ea; (rw [ea] at hm; exact _spl2_9_od _ hu _ hg hm); (have z2hm := _hiv74 _ hm; rw [ea] at hm; have _z1 := List.mem_singleton.1 hm; have _h9 := _f_220.rng hu hg; omega)), (fun u hu g hg hm => by rcases _ap74 with ea | ea; (rw [ea] at hm; exact _spl2_9_ol _ hu _ hg hm); (have z2hm := _hiv74 _ hm; rw [ea] at hm; have _z1 := List.mem_singleton.1 hm; have _h9 := _f_221.rng hu hg; omega))⟩, Sub.cons rfl (Sub.cons rfl (Sub.cons rfl (Sub.cons rfl (Sub.cons rfl (Sub.cons rfl (Sub.cons rfl (Sub.cons rfl (Sub.cons rfl (Sub.cons rfl (Sub.cons rfl (Sub.cons rfl (Sub.cons rfl (Sub.nil _))))))))))))), (by first | omega | (dsimp only; omega))⟩)
                · refine DO_s rfl rfl rfl ?_
                  refine s_buildSlice (cs := ics) (parts := [(0, .tmp 70)]) (0 : Int) [_y69] el30 sz3 zr3 ics_len (by decide) rfl rfl rfl (by decide) (by decide) rfl fun _v71 _w_227 _q71 _lo71 _cw_227 => ?_
                  have _cw_227z := _cw_227.size
                  have E := E.trans _cw_227
                  obtain ⟨_Av71, _Cv71, _ev71⟩ := _q71.val
                  subst _ev71
                  have _lv71 := _q71.len
                  have _hiv71 := _q71.lt
                  have _S_228 : Ch (bl (.slice Anw (ms).length Cnw)) _w_197 _w_227 := (_S_202.trans _cw_227.of_nil)
                  refine ⟨_S_228, ?_⟩
                  refine DR_one 6 (by kernel_rfl) ?_
                  refine DO_s rfl rfl rfl ?_
                  have _f_230 := (_q61.ch0 _cw_227)
                  have _f_231 := ((_fs64.ch0 _cw_201).ch0 _cw_227)
                  refine s_append (cs := ics) el30 sz3 by3 zr3 rfl (by decide) ics_one _f_230 _f_231 rfl rfl (by simp only [List.length_singleton, List.length_nil, List.length_append]; omega) (by simp only [List.length_singleton, List.length_nil, List.length_append]; omega) _lo61 (by omega) fun _v66 _w_229 _q66 _lo66 _ap66 _cw_229 => ?_
                  have _cw_229z := _cw_229.size
                  have E := E.step _cw_229 (fun i hi => .inl (by have _h1 := _lo61 _ hi; omega))
                  replace _q66 : Ol ics 3 1 _w_229 _v66 _ys64 := _q66
                  obtain ⟨_Av66, _Cv66, _ev66⟩ := _q66.val
                  subst _ev66
                  have _lv66 := _q66.len
                  have _hiv66 := _q66.lt
                  have _S_232 : Ch (bl (.slice Anw (ms).length Cnw)) _w_197 _w_229 := (_S_228.step _cw_229 (fun i hm => by left; have _h1 := _lo61 _ hm; have _h2 := _hiv61 _ hm; omega))
                  refine ⟨_S_232, ?_⟩
                  refine DR_one 12 (by kernel_rfl) ?_
                  refine DO_s rfl rfl rfl ?_
                  have _f_234 := (_q71.ch _cw_229 (fun g hg hm => by have _h1 := _lo61 _ hm; have _h2 := _hiv61 _ hm; have _h3 := _lo71 _ hg; have _h4 := _hiv71 _ hg; omega))
                  refine s_append (cs := ics) el30 sz3 by3 zr3 rfl (by decide) ics_one _q66 _f_234.ls rfl rfl (by simp only [List.length_singleton, List.length_nil, List.length_append]; omega) (by simp only [List.length_singleton, List.length_nil, List.length_append]; omega) _lo66 (by omega) fun _v72 _w_233 _q72 _lo72 _ap72 _cw_233 => ?_
                  have _cw_233z := _cw_233.size
                  have E := E.step _cw_233 (fun i hi => .inl (by have _h1 := _lo66 _ hi; omega))
                  obtain ⟨_Av72, _Cv72, _ev72⟩ := _q72.val
                  subst _ev72
                  have _lv72 := _q72.len
                  have _hiv72 := _q72.lt
                  have _S_235 : Ch (bl (.slice Anw (ms).length Cnw)) _w_197 _w_233 := (_S_232.step _cw_233 (fun i hm => by rcases _ap66 with ea | ea; (rw [ea] at hm; left; have _h1 := _lo61 _ hm; have _h2 := _hiv61 _ hm; omega); (have z2hm := _hiv66 _ hm; rw [ea] at hm; have _z1 := List.mem_singleton.1 hm; left; omega)))
                  refine ⟨_S_235, ?_⟩
                  refine DR_one 13 (by kernel_rfl) ?_
                  refine DO_s rfl rfl rfl ?_
                  refine s_buildSlice (cs := Sv.cs) (parts := [(0, .tmp 72)]) (⟨none, 0, 0⟩ : Sv) [(⟨_Av72, ((_ys64 ++ [_y69])).length, _Cv72⟩ : Sv)] el25 sz30 zr30 Sv.len (by decide) rfl rfl rfl (by decide) (by decide) rfl fun _v73 _w_236 _q73 _lo73 _cw_236 => ?_
                  have _cw_236z := _cw_236.size
                  have E := E.trans _cw_236
                  obtain ⟨_Av73, _Cv73, _ev73⟩ := _q73.val
                  subst _ev73
                  have _lv73 := _q73.len
                  have _hiv73 := _q73.lt
                  have _f_237 := (_q72.ch0 _cw_236)
                  have od73 : Od ics 3 1 _w_236 _w_197.heap.size _w_236.heap.size ([(⟨_Av72, ((_ys64 ++ [_y69])).length, _Cv72⟩ : Sv)]) ([(_ys64 ++ [_y69])]) := Od.snoc (hi := _w_197.heap.size) (vs := []) (xs := []) Od.nil _f_237 (Lo.down _lo72 (by omega)) (fun g hg => by have _h1 := _hiv72 g hg; omega) (by omega) (by omega)
                  have spn73 : Sep (.slice _Av73 ([(⟨_Av72, ((_ys64 ++ [_y69])).length, _Cv72⟩ : Sv)]).length _Cv73) [(⟨_Av72, ((_ys64 ++ [_y69])).length, _Cv72⟩ : Sv)] := fun u hu g hg hm => by rw [List.mem_singleton.1 hu] at hg; have _h1 := _hiv72 _ hg; have _h2 := _lo73 _ hm; omega
                  have _S_238 : Ch (bl (.slice Anw (ms).length Cnw)) _w_197 _w_236 := (_S_235.trans _cw_236.of_nil)
                  refine ⟨_S_238, ?_⟩
                  refine DR_one 14 (by kernel_rfl) ?_
                  refine DO_s rfl rfl rfl ?_
                  have _f_240 := ((((((_o2_9.ch0 _cw_197).ch0 _cw_201).ch0 _cw_227).ch _cw_229 (fun g hg hm => by have _h1 := _lo61 _ hm; have _h2 := _hiv61 _ hm; have _h3 := _lo2_9 _ hg; have _h4 := hinw _ hg; omega)).ch _cw_233 (fun g hg hm => by rcases _ap66 with ea | ea; (rw [ea] at hm; have _h1 := _lo61 _ hm; have _h2 := _hiv61 _ hm; have _h3 := _lo2_9 _ hg; have _h4 := hinw _ hg; omega); (have z2hm := _hiv66 _ hm; rw [ea] at hm; have _z1 := List.mem_singleton.1 hm; have _h3 := _lo2_9 _ hg; have _h4 := hinw _ hg; omega))).ch0 _cw_236)
                  refine s_append (cs := Sv.cs) el25 sz30 by30 zr30 rfl (by decide) Sv.one _f_240 _q73.ls rfl rfl (by simp only [List.length_singleton, List.length_nil, List.length_append]; omega) (by simp only [List.length_singleton, List.length_nil, List.length_append]; omega) _lo2_9 (by omega) fun _v74 _w_239 _q74 _lo74 _ap74 _cw_239 => ?_
                  have _cw_239z := _cw_239.size
                  have E := E.step _cw_239 (fun i hi => .inl (by have _h1 := _lo2_9 _ hi; omega))
                  obtain ⟨_Av74, _Cv74, _ev74⟩ := _q74.val
                  subst _ev74
                  have _lv74 := _q74.len
                  have _hiv74 := _q74.lt
                  have _S_241 : Ch (bl (.slice Anw (ms).length Cnw)) _w_197 _w_239 := (_S_238.step _cw_239 (fun i hm => by exact .inr hm))
                  refine ⟨_S_241, ?_⟩
                  refine DR_s 15 rfl (by kernel_rfl) rfl rfl (t_v (fun _ => (r_assign rfl)) ?_)
                  refine DR_done (by kernel_rfl) ?_
                  refine inB_nrm ?_
                  refine thn_nrm (_hK_196 _ _ ?_)
                  clear _hK_196
                  refine W_region ?_
                  refine WL_step rfl rfl (r_move rfl) ?_
                  refine WL_step rfl rfl (r_add (by omega) rfl rfl) ?_
                  refine WL_step rfl rfl (r_assign rfl) ?_
                  refine WL_nil ?_
                  have _on_242 : Ol Sv.cs 30 1 _w_239 (.slice _Av74 ((ms ++ [(⟨_Av72, ((_ys64 ++ [_y69])).length, _Cv72⟩ : Sv)])).length _Cv74) ((ms ++ [(⟨_Av72, ((_ys64 ++ [_y69])).length, _Cv72⟩ : Sv)])) := by
                    have hx := _q74
                    exact hx
                  have _f_243 := (((((((on.ch0 _cw_197).ch0 _cw_201).ch0 _cw_227).ch _cw_229 (fun i hm => by have _h1 := _lo61 _ hm; have _h2 := _hiv61 _ hm; omega)).ch _cw_233 (fun i hm => by rcases _ap66 with ea | ea; (rw [ea] at hm; have _h1 := _lo61 _ hm; have _h2 := _hiv61 _ hm; omega); (have z2hm := _hiv66 _ hm; rw [ea] at hm; have _z1 := List.mem_singleton.1 hm; omega))).ch0 _cw_236).chS _cw_239 _spl2_9)
                  have _f_244 := (_f_237.ch _cw_239 (fun g hg hm => by rcases _ap72 with ea | ea; (rw [ea] at hg; rcases _ap66 with ea | ea; (rw [ea] at hg; have _h1 := _lo2_9 _ hm; have _h2 := hinw _ hm; have _h3 := _lo61 _ hg; have _h4 := _hiv61 _ hg; omega); (have z2hg := _hiv66 _ hg; rw [ea] at hg; have _z1 := List.mem_singleton.1 hg; have _h1 := _lo2_9 _ hm; have _h2 := hinw _ hm; omega)); (have z2hg := _hiv72 _ hg; rw [ea] at hg; have _z1 := List.mem_singleton.1 hg; have _h1 := _lo2_9 _ hm; have _h2 := hinw _ hm; omega)))
                  have _f_245 := (((((((od.ch0 _cw_197).ch0 _cw_201).ch0 _cw_227).ch _cw_229 (fun i hm => by have _h1 := _lo61 _ hm; have _h2 := _hiv61 _ hm; omega)).ch _cw_233 (fun i hm => by rcases _ap66 with ea | ea; (rw [ea] at hm; have _h1 := _lo61 _ hm; have _h2 := _hiv61 _ hm; omega); (have z2hm := _hiv66 _ hm; rw [ea] at hm; have _z1 := List.mem_singleton.1 hm; omega))).ch0 _cw_236).chS _cw_239 _spl2_9_od)
                  have _f_246 := ((((((_f_199.ch0 _cw_201).ch0 _cw_227).ch _cw_229 (fun i hm => by have _h1 := _lo61 _ hm; have _h2 := _hiv61 _ hm; omega)).ch _cw_233 (fun i hm => by rcases _ap66 with ea | ea; (rw [ea] at hm; have _h1 := _lo61 _ hm; have _h2 := _hiv61 _ hm; omega); (have z2hm := _hiv66 _ hm; rw [ea] at hm; have _z1 := List.mem_singleton.1 hm; omega))).ch0 _cw_236).chS _cw_239 _spl2_9_ol)
                  have _f_247 := (((((((_F2_0.ch0 _cw_197).ch0 _cw_201).ch0 _cw_227).ch _cw_229 (fun hm => by have _h1 := _lo61 _ hm; have _h2 := _hiv61 _ hm; omega)).ch _cw_233 (fun hm => by rcases _ap66 with ea | ea; (rw [ea] at hm; have _h1 := _lo61 _ hm; have _h2 := _hiv61 _ hm; omega); (have z2hm := _hiv66 _ hm; rw [ea] at hm; have _z1 := List.mem_singleton.1 hm; omega))).ch0 _cw_236).ch _cw_239 (fun hm => by have _h1 := _lo2_9 _ hm; have _h2 := hinw _ hm; omega))
                  have _f_248 := (((((((_F2_1.ch0 _cw_197).ch0 _cw_201).ch0 _cw_227).ch _cw_229 (fun i hi => by have _h1 := _lo61 _ hi; omega)).ch _cw_233 (fun i hi => by have _h1 := _lo66 _ hi; omega)).ch0 _cw_236).ch _cw_239 (fun i hi => by have _h1 := _lo2_9 _ hi; omega))
                  have _f_249 := ((((((_f_200.ch0 _cw_201).ch0 _cw_227).ch _cw_229 (fun i hi => by have _h1 := _lo61 _ hi; omega)).ch _cw_233 (fun i hi => by have _h1 := _lo66 _ hi; omega)).ch0 _cw_236).ch _cw_239 (fun i hi => by have _h1 := _lo2_9 _ hi; omega))
                  have _f_250 := (((((((_F2_3.ch0 _cw_197).ch0 _cw_201).ch0 _cw_227).ch _cw_229 (fun g hg hm => by have _h1 := _lo61 _ hm; have _h2 := _hiv61 _ hm; have _h3 := _lo0_7 _ hg; have _h4 := hilv _ hg; omega)).ch _cw_233 (fun g hg hm => by rcases _ap66 with ea | ea; (rw [ea] at hm; have _h1 := _lo61 _ hm; have _h2 := _hiv61 _ hm; have _h3 := _lo0_7 _ hg; have _h4 := hilv _ hg; omega); (have z2hm := _hiv66 _ hm; rw [ea] at hm; have _z1 := List.mem_singleton.1 hm; have _h3 := _lo0_7 _ hg; have _h4 := hilv _ hg; omega))).ch0 _cw_236).ch _cw_239 (fun g hg hm => by exact _djl2_9_7 _ hm hg))
                  have _f_251 := (((((((_F2_4.ch0 _cw_197).ch0 _cw_201).ch0 _cw_227).ch _cw_229 (fun g hg hm => by have _h1 := _lo61 _ hm; have _h2 := _hiv61 _ hm; have _h3 := _lo1_5 _ hg; have _h4 := hiow _ hg; have _h39 := gp1_5 _ hg; omega)).ch _cw_233 (fun g hg hm => by rcases _ap66 with ea | ea; (rw [ea] at hm; have _h1 := _lo61 _ hm; have _h2 := _hiv61 _ hm; have _h3 := _lo1_5 _ hg; have _h4 := hiow _ hg; have _h39 := gp1_5 _ hg; omega); (have z2hm := _hiv66 _ hm; rw [ea] at hm; have _z1 := List.mem_singleton.1 hm; have _h3 := _lo1_5 _ hg; have _h4 := hiow _ hg; have _h39 := gp1_5 _ hg; omega))).ch0 _cw_236).ch _cw_239 (fun g hg hm => by exact _djl2_9_5 _ hm hg))
                  exact thn_nrm (Exists.intro ((j + 1), (ms ++ [(⟨_Av72, ((_ys64 ++ [_y69])).length, _Cv72⟩ : Sv)]), (.slice _Av74 ((ms ++ [(⟨_Av72, ((_ys64 ++ [_y69])).length, _Cv72⟩ : Sv)])).length _Cv74)) ⟨⟨E, (by omega), (by omega), _f_247, _f_248, _f_249, _f_250, _f_251, _on_242, (Lo.down _lo74 (by omega)), ((Od.snoc _f_243 (v := (⟨_Av72, ((_ys64 ++ [_y69])).length, _Cv72⟩ : Sv)) _f_244 (Lo.down _lo72 (by omega)) (fun g hg => by have _h1 := _hiv72 g hg; omega) (by omega) (by omega)).eq (ext_stepL _hys42 _hys64 _hy69)), (_f_245.up (Nat.le_refl _) (by omega)), (_f_246.up (Nat.le_refl _) (by omega)), (fun g hm hg => by rcases _ap74 with ea | ea; (rw [ea] at hm; exact _djl2_9_7 _ hm hg); (have z2hm := _hiv74 _ hm; rw [ea] at hm; have _z1 := List.mem_singleton.1 hm; have _h3 := _lo0_7 _ hg; have _h4 := hilv _ hg; omega)), (fun g hm hg => by rcases _ap74 with ea | ea; (rw [ea] at hm; exact _djl2_9_5 _ hm hg); (have z2hm := _hiv74 _ hm; rw [ea] at hm; have _z1 := List.mem_singleton.1 hm; have _h3 := _lo1_5 _ hg; have _h4 := hiow _ hg; have _h39 := gp1_5 _ hg; omega)), (fun u hu g hg hm => by rcases List.mem_append.1 hu with hu | hu; (rcases _ap74 with ea | ea; (rw [ea] at hm; exact _spl2_9 _ hu _ hg hm); (have z2hm := _hiv74 _ hm; rw [ea] at hm; have _z1 := List.mem_singleton.1 hm; have _h9 := _f_243.rng hu hg; omega)); (rw [List.mem_singleton.1 hu] at hg; replace hg : g ∈ bl (.slice _Av72 ((_ys64 ++ [_y69])).length _Cv72) := hg; rcases _ap72 with ea | ea; (rw [ea] at hg; rcases _ap66 with ea | ea; (rw [ea] at hg; rcases _ap74 with ea | ea; (rw [ea] at hm; have _h1 := _lo2_9 _ hm; have _h2 := hinw _ hm; have _h3 := _lo61 _ hg; have _h4 := _hiv61 _ hg; omega); (have z2hm := _hiv74 _ hm; rw [ea] at hm; have _z1 := List.mem_singleton.1 hm; have _h3 := _lo61 _ hg; have _h4 := _hiv61 _ hg; omega)); (have z2hg := _hiv66 _ hg; rw [ea] at hg; have _z1 := List.mem_singleton.1 hg; rcases _ap74 with ea | ea; (rw [ea] at hm; have _h1 := _lo2_9 _ hm; have _h2 := hinw _ hm; omega); (have z2hm := _hiv74 _ hm; rw [ea] at hm; have _z1 := List.mem_singleton.1 hm; omega))); (have z2hg := _hiv72 _ hg; rw [ea] at hg; have _z1 := List.mem_singleton.1 hg; rcases _ap74 with ea | ea; (rw [ea] at hm; have _h1 := _lo2_9 _ hm; have _h2 := hinw _ hm; omega); (have z2hm := _hiv74 _ hm; rw [ea] at hm; have _z1 := List.mem_singleton.1 hm; omega)))), (fun u hu g hg hm => by rcases List.mem_append.1 hu with hu | hu; (exact spc2_5_on _ hu _ hg hm); (rw [List.mem_singleton.1 hu] at hg; replace hg : g ∈ bl (.slice _Av72 ((_ys64 ++ [_y69])).length _Cv72) := hg; rcases _ap72 with ea | ea; (rw [ea] at hg; rcases _ap66 with ea | ea; (rw [ea] at hg; have _h1 := _lo1_5 _ hm; have _h2 := hiow _ hm; have _h19 := gp1_5 _ hm; have _h3 := _lo61 _ hg; have _h4 := _hiv61 _ hg; omega); (have z2hg := _hiv66 _ hg; rw [ea] at hg; have _z1 := List.mem_singleton.1 hg; have _h1 := _lo1_5 _ hm; have _h2 := hiow _ hm; have _h19 := gp1_5 _ hm; omega)); (have z2hg := _hiv72 _ hg; rw [ea] at hg; have _z1 := List.mem_singleton.1 hg; have _h1 := _lo1_5 _ hm; have _h2 := hiow _ hm; have _h19 := gp1_5 _ hm; omega))), (fun u hu g hg hm => by rcases _ap74 with ea | ea; (rw [ea] at hm; exact _spl2_9_od _ hu _ hg hm); (have z2hm := _hiv74 _ hm; rw [ea] at hm; have _z1 := List.mem_singleton.1 hm; have _h9 := _f_245.rng hu hg; omega)), (fun u hu g hg hm => by rcases _ap74 with ea | ea; (rw [ea] at hm; exact _spl2_9_ol _ hu _ hg hm); (have z2hm := _hiv74 _ hm; rw [ea] at hm; have _z1 := List.mem_singleton.1 hm; have _h9 := _f_246.rng hu hg; omega))⟩, Sub.cons rfl (Sub.cons rfl (Sub.cons rfl (Sub.cons rfl (Sub.cons rfl (Sub.cons rfl (Sub.cons rfl (Sub.cons rfl (Sub.cons rfl (Sub.cons rfl (Sub.cons rfl (Sub.cons rfl (Sub.cons rfl (Sub.nil _))))))))))))), (by first | omega | (dsimp only; omega))⟩)
              · refine DO_s rfl rfl rfl ?_
                refine s_buildSlice (cs := ics) (parts := [(0, .tmp 70)]) (0 : Int) [_y69] el30 sz3 zr3 ics_len (by decide) rfl rfl rfl (by decide) (by decide) rfl fun _v71 _w_252 _q71 _lo71 _cw_252 => ?_
                have _cw_252z := _cw_252.size
                have E := E.trans _cw_252
                obtain ⟨_Av71, _Cv71, _ev71⟩ := _q71.val
                subst _ev71
                have _lv71 := _q71.len
                have _hiv71 := _q71.lt
                have _S_253 : Ch (bl (.slice Anw (ms).length Cnw)) _w_197 _w_252 := ((Ch.refl _ _).trans _cw_252.of_nil)
                refine ⟨_S_253, ?_⟩
                refine DR_one 1 (by kernel_rfl) ?_
                refine DO_s rfl rfl rfl ?_
                refine s_buildSlice0 (k := 1) ics el30 sz3 fun _v61 _w_254 _q61 _lo61 _cw_254 => ?_
                have _cw_254z := _cw_254.size
                have E := E.trans _cw_254
                obtain ⟨_Av61, _Cv61, _ev61⟩ := _q61.val
                subst _ev61
                have _lv61 := _q61.len
                have _hiv61 := _q61.lt
                have _S_255 : Ch (bl (.slice Anw (ms).length Cnw)) _w_197 _w_254 := (_S_253.trans _cw_254.of_nil)
                refine ⟨_S_255, ?_⟩
                refine DR_one 6 (by kernel_rfl) ?_
                refine DO_s rfl rfl rfl ?_
                have _f_257 := ((_fs64.ch0 _cw_252).ch0 _cw_254)
                refine s_append (cs := ics) el30 sz3 by3 zr3 rfl (by decide) ics_one _q61 _f_257 rfl rfl (by simp only [List.length_singleton, List.length_nil, List.length_append]; omega) (by simp only [List.length_singleton, List.length_nil, List.length_append]; omega) _lo61 (by omega) fun _v66 _w_256 _q66 _lo66 _ap66 _cw_256 => ?_
                have _cw_256z := _cw_256.size
                have E := E.step _cw_256 (fun i hi => .inl (by have _h1 := _lo61 _ hi; omega))
                replace _q66 : Ol ics 3 1 _w_256 _v66 _ys64 := _q66
                obtain ⟨_Av66, _Cv66, _ev66⟩ := _q66.val
                subst _ev66
                have _lv66 := _q66.len
                have _hiv66 := _q66.lt
                have _S_258 : Ch (bl (.slice Anw (ms).length Cnw)) _w_197 _w_256 := (_S_255.step _cw_256 (fun i hm => by left; have _h1 := _lo61 _ hm; have _h2 := _hiv61 _ hm; omega))
                refine ⟨_S_258, ?_⟩
                refine DR_one 12 (by kernel_rfl) ?_
                refine DO_s rfl rfl rfl ?_
                have _f_260 := ((_q71.ch0 _cw_254).ch _cw_256 (fun g hg hm => by have _h1 := _lo61 _ hm; have _h2 := _hiv61 _ hm; have _h3 := _lo71 _ hg; have _h4 := _hiv71 _ hg; omega))
                refine s_append (cs := ics) el30 sz3 by3 zr3 rfl (by decide) ics_one _q66 _f_260.ls rfl rfl (by simp only [List.length_singleton, List.length_nil, List.length_append]; omega) (by simp only [List.length_singleton, List.length_nil, List.length_append]; omega) _lo66 (by omega) fun _v72 _w_259 _q72 _lo72 _ap72 _cw_259 => ?_
                have _cw_259z := _cw_259.size
                have E := E.step _cw_259 (fun i hi => .inl (by have _h1 := _lo66 _ hi; omega))
                obtain ⟨_Av72, _Cv72, _ev72⟩ := _q72.val
                subst _ev72
                have _lv72 := _q72.len
                have _hiv72 := _q72.lt
                have _S_261 : Ch (bl (.slice Anw (ms).length Cnw)) _w_197 _w_259 := (_S_258.step _cw_259 (fun i hm => by rcases _ap66 with ea | ea; (rw [ea] at hm; left; have _h1 := _lo61 _ hm; have _h2 := _hiv61 _ hm; omega); (have z2hm := _hiv66 _ hm; rw [ea] at hm; have _z1 := List.mem_singleton.1 hm; left; omega)))
                refine ⟨_S_261, ?_⟩
                refine DR_one 13 (by kernel_rfl) ?_
                refine DO_s rfl rfl rfl ?_
                refine s_buildSlice (cs := Sv.cs) (parts := [(0, .tmp 72)]) (⟨none, 0, 0⟩ : Sv) [(⟨_Av72, ((_ys64 ++ [_y69])).length, _Cv72⟩ : Sv)] el25 sz30 zr30 Sv.len (by decide) rfl rfl rfl (by decide) (by decide) rfl fun _v73 _w_262 _q73 _lo73 _cw_262 => ?_
                have _cw_262z := _cw_262.size
                have E := E.trans _cw_262
                obtain ⟨_Av73, _Cv73, _ev73⟩ := _q73.val
                subst _ev73
                have _lv73 := _q73.len
                have _hiv73 := _q73.lt
                have _f_263 := (_q72.ch0 _cw_262)
                have od73 : Od ics 3 1 _w_262 _w_252.heap.size _w_262.heap.size ([(⟨_Av72, ((_ys64 ++ [_y69])).length, _Cv72⟩ : Sv)]) ([(_ys64 ++ [_y69])]) := Od.snoc (hi := _w_252.heap.size) (vs := []) (xs := []) Od.nil _f_263 (Lo.down _lo72 (by omega)) (fun g hg => by have _h1 := _hiv72 g hg; omega) (by omega) (by omega)
                have spn73 : Sep (.slice _Av73 ([(⟨_Av72, ((_ys64 ++ [_y69])).length, _Cv72⟩ : Sv)]).length _Cv73) [(⟨_Av72, ((_ys64 ++ [_y69])).length, _Cv72⟩ : Sv)] := fun u hu g hg hm => by rw [List.mem_singleton.1 hu] at hg; have _h1 := _hiv72 _ hg; have _h2 := _lo73 _ hm; omega
                have _S_264 : Ch (bl (.slice Anw (ms).length Cnw)) _w_197 _w_262 := (_S_261.trans _cw_262.of_nil)
                refine ⟨_S_264, ?_⟩
                refine DR_one 14 (by kernel_rfl) ?_
                refine DO_s rfl rfl rfl ?_
                have _f_266 := ((((((_o2_9.ch0 _cw_197).ch0 _cw_252).ch0 _cw_254).ch _cw_256 (fun g hg hm => by have _h1 := _lo61 _ hm; have _h2 := _hiv61 _ hm; have _h3 := _lo2_9 _ hg; have _h4 := hinw _ hg; omega)).ch _cw_259 (fun g hg hm => by rcases _ap66 with ea | ea; (rw [ea] at hm; have _h1 := _lo61 _ hm; have _h2 := _hiv61 _ hm; have _h3 := _lo2_9 _ hg; have _h4 := hinw _ hg; omega); (have z2hm := _hiv66 _ hm; rw [ea] at hm; have _z1 := List.mem_singleton.1 hm; have _h3 := _lo2_9 _ hg; have _h4 := hinw _ hg; omega))).ch0 _cw_262)
                refine s_append (cs := Sv.cs) el25 sz30 by30 zr30 rfl (by decide) Sv.one _f_266 _q73.ls rfl rfl (by simp only [List.length_singleton, List.length_nil, List.length_append]; omega) (by simp only [List.length_singleton, List.length_nil, List.length_append]; omega) _lo2_9 (by omega) fun _v74 _w_265 _q74 _lo74 _ap74 _cw_265 => ?_
                have _cw_265z := _cw_265.size
                have E := E.step _cw_265 (fun i hi => .inl (by have _h1 := _lo2_9 _ hi; omega))
                obtain ⟨_Av74, _Cv74, _ev74⟩ := _q74.val
                subst _ev74
                have _lv74 := _q74.len
                have _hiv74 := _q74.lt
                have _S_267 : Ch (bl (.slice Anw (ms).length Cnw)) _w_197 _w_265 := (_S_264.step _cw_265 (fun i hm => by exact .inr hm))
                refine ⟨_S_267, ?_⟩
                refine DR_s 15 rfl (by kernel_rfl) rfl rfl (t_v (fun _ => (r_assign rfl)) ?_)
                refine DR_done (by kernel_rfl) ?_
                refine inB_nrm ?_
                refine thn_nrm (_hK_196 _ _ ?_)
                clear _hK_196
                refine W_region ?_
                refine WL_step rfl rfl (r_move rfl) ?_
                refine WL_step rfl rfl (r_add (by omega) rfl rfl) ?_
                refine WL_step rfl rfl (r_assign rfl) ?_
                refine WL_nil ?_
                have _on_268 : Ol Sv.cs 30 1 _w_265 (.slice _Av74 ((ms ++ [(⟨_Av72, ((_ys64 ++ [_y69])).length, _Cv72⟩ : Sv)])).length _Cv74) ((ms ++ [(⟨_Av72, ((_ys64 ++ [_y69])).length, _Cv72⟩ : Sv)])) := by
                  have hx := _q74
                  exact hx
                have _f_269 := (((((((on.ch0 _cw_197).ch0 _cw_252).ch0 _cw_254).ch _cw_256 (fun i hm => by have _h1 := _lo61 _ hm; have _h2 := _hiv61 _ hm; omega)).ch _cw_259 (fun i hm => by rcases _ap66 with ea | ea; (rw [ea] at hm; have _h1 := _lo61 _ hm; have _h2 := _hiv61 _ hm; omega); (have z2hm := _hiv66 _ hm; rw [ea] at hm; have _z1 := List.mem_singleton.1 hm; omega))).ch0 _cw_262).chS _cw_265 _spl2_9)
                have _f_270 := (_f_263.ch _cw_265 (fun g hg hm => by rcases _ap72 with ea | ea; (rw [ea] at hg; rcases _ap66 with ea | ea; (rw [ea] at hg; have _h1 := _lo2_9 _ hm; have _h2 := hinw _ hm; have _h3 := _lo61 _ hg; have _h4 := _hiv61 _ hg; omega); (have z2hg := _hiv66 _ hg; rw [ea] at hg; have _z1 := List.mem_singleton.1 hg; have _h1 := _lo2_9 _ hm; have _h2 := hinw _ hm; omega)); (have z2hg := _hiv72 _ hg; rw [ea] at hg; have _z1 := List.mem_singleton.1 hg; have _h1 := _lo2_9 _ hm; have _h2 := hinw _ hm; omega)))
                have _f_271 := (((((((od.ch0 _cw_197).ch0 _cw_252).ch0 _cw_254).ch _cw_256 (fun i hm => by have _h1 := _lo61 _ hm; have _h2 := _hiv61 _ hm; omega)).ch _cw_259 (fun i hm => by rcases _ap66 with ea | ea; (rw [ea] at hm; have _h1 := _lo61 _ hm; have _h2 := _hiv61 _ hm; omega); (have z2hm := _hiv66 _ hm; rw [ea] at hm; have _z1 := List.mem_singleton.1 hm; omega))).ch0 _cw_262).chS _cw_265 _spl2_9_od)
                have _f_272 := ((((((_f_199.ch0 _cw_252).ch0 _cw_254).ch _cw_256 (fun i hm => by have _h1 := _lo61 _ hm; have _h2 := _hiv61 _ hm; omega)).ch _cw_259 (fun i hm => by rcases _ap66 with ea | ea; (rw [ea] at hm; have _h1 := _lo61 _ hm; have _h2 := _hiv61 _ hm; omega); (have z2hm := _hiv66 _ hm; rw [ea] at hm; have _z1 := List.mem_singleton.1 hm; omega))).ch0 _cw_262).chS _cw_265 _spl2_9_ol)
                have _f_273 := (((((((_F2_0.ch0 _cw_197).ch0 _cw_252).ch0 _cw_254).ch _cw_256 (fun hm => by have _h1 := _lo61 _ hm; have _h2 := _hiv61 _ hm; omega)).ch _cw_259 (fun hm => by rcases _ap66 with ea | ea; (rw [ea] at hm; have _h1 := _lo61 _ hm; have _h2 := _hiv61 _ hm; omega); (have z2hm := _hiv66 _ hm; rw [ea] at hm; have _z1 := List.mem_singleton.1 hm; omega))).ch0 _cw_262).ch _cw_265 (fun hm => by have _h1 := _lo2_9 _ hm; have _h2 := hinw _ hm; omega))
                have _f_274 := (((((((_F2_1.ch0 _cw_197).ch0 _cw_252).ch0 _cw_254).ch _cw_256 (fun i hi => by have _h1 := _lo61 _ hi; omega)).ch _cw_259 (fun i hi => by have _h1 := _lo66 _ hi; omega)).ch0 _cw_262).ch _cw_265 (fun i hi => by have _h1 := _lo2_9 _ hi; omega))
                have _f_275 := ((((((_f_200.ch0 _cw_252).ch0 _cw_254).ch _cw_256 (fun i hi => by have _h1 := _lo61 _ hi; omega)).ch _cw_259 (fun i hi => by have _h1 := _lo66 _ hi; omega)).ch0 _cw_262).ch _cw_265 (fun i hi => by have _h1 := _lo2_9 _ hi; omega))
                have _f_276 := (((((((_F2_3.ch0 _cw_197).ch0 _cw_252).ch0 _cw_254).ch _cw_256 (fun g hg hm => by have _h1 := _lo61 _ hm; have _h2 := _hiv61 _ hm; have _h3 := _lo0_7 _ hg; have _h4 := hilv _ hg; omega)).ch _cw_259 (fun g hg hm => by rcases _ap66 with ea | ea; (rw [ea] at hm; have _h1 := _lo61 _ hm; have _h2 := _hiv61 _ hm; have _h3 := _lo0_7 _ hg; have _h4 := hilv _ hg; omega); (have z2hm := _hiv66 _ hm; rw [ea] at hm; have _z1 := List.mem_singleton.1 hm; have _h3 := _lo0_7 _ hg; have _h4 := hilv _ hg; omega))).ch0 _cw_262).ch _cw_265 (fun g hg hm => by exact _djl2_9_7 _ hm hg))
                have _f_277 := (((((((_F2_4.ch0 _cw_197).ch0 _cw_252).ch0 _cw_254).ch _cw_256 (fun g hg hm => by have _h1 := _lo61 _ hm; have _h2 := _hiv61 _ hm; have _h3 := _lo1_5 _ hg; have _h4 := hiow _ hg; have _h39 := gp1_5 _ hg; omega)).ch _cw_259 (fun g hg hm => by rcases _ap66 with ea | ea; (rw [ea] at hm; have _h1 := _lo61 _ hm; have _h2 := _hiv61 _ hm; have _h3 := _lo1_5 _ hg; have _h4 := hiow _ hg; have _h39 := gp1_5 _ hg; omega); (have z2hm := _hiv66 _ hm; rw [ea] at hm; have _z1 := List.mem_singleton.1 hm; have _h3 := _lo1_5 _ hg; have _h4 := hiow _ hg; have _h39 := gp1_5 _ hg; omega))).ch0 _cw_262).ch _cw_265 (fun g hg hm => by exact _djl2_9_5 _ hm hg))
                exact thn_nrm (Exists.intro ((j + 1), (ms ++ [(⟨_Av72, ((_ys64 ++ [_y69])).length, _Cv72⟩ : Sv)]), (.slice _Av74 ((ms ++ [(⟨_Av72, ((_ys64 ++ [_y69])).length, _Cv72⟩ : Sv)])).length _Cv74)) ⟨⟨E, (by omega), (by omega), _f_273, _f_274, _f_275, _f_276, _f_277, _on_268, (Lo.down _lo74 (by omega)), ((Od.snoc _f_269 (v := (⟨_Av72, ((_ys64 ++ [_y69])).length, _Cv72⟩ : Sv)) _f_270 (Lo.down _lo72 (by omega)) (fun g hg => by have _h1 := _hiv72 g hg; omega) (by omega) (by omega)).eq (ext_stepL _hys42 _hys64 _hy69)), (_f_271.up (Nat.le_refl _) (by omega)), (_f_272.up (Nat.le_refl _) (by omega)), (fun g hm hg => by rcases _ap74 with ea | ea; (rw [ea] at hm; exact _djl2_9_7 _ hm hg); (have z2hm := _hiv74 _ hm; rw [ea] at hm; have _z1 := List.mem_singleton.1 hm; have _h3 := _lo0_7 _ hg; have _h4 := hilv _ hg; omega)), (fun g hm hg => by rcases _ap74 with ea | ea; (rw [ea] at hm; exact _djl2_9_5 _ hm hg); (have z2hm := _hiv74 _ hm; rw [ea] at hm; have _z1 := List.mem_singleton.1 hm; have _h3 := _lo1_5 _ hg; have _h4 := hiow _ hg; have _h39 := gp1_5 _ hg; omega)), (fun u hu g hg hm => by rcases List.mem_append.1 hu with hu | hu; (rcases _ap74 with ea | ea; (rw [ea] at hm; exact _spl2_9 _ hu _ hg hm); (have z2hm := _hiv74 _ hm; rw [ea] at hm; have _z1 := List.mem_singleton.1 hm; have _h9 := _f_269.rng hu hg; omega)); (rw [List.mem_singleton.1 hu] at hg; replace hg : g ∈ bl (.slice _Av72 ((_ys64 ++ [_y69])).length _Cv72) := hg; rcases _ap72 with ea | ea; (rw [ea] at hg; rcases _ap66 with ea | ea; (rw [ea] at hg; rcases _ap74 with ea | ea; (rw [ea] at hm; have _h1 := _lo2_9 _ hm; have _h2 := hinw _ hm; have _h3 := _lo61 _ hg; have _h4 := _hiv61 _ hg; omega); (have z2hm := _hiv74 _ hm; rw [ea] at hm; have _z1 := List.mem_singleton.1 hm; have _h3 := _lo61 _ hg; have _h4 := _hiv61 _ hg; omega)); (have z2hg := _hiv66 _ hg; rw [ea] at hg; have _z1 := List.mem_singleton.1 hg; rcases _ap74 with ea | ea; (rw [ea] at hm; have _h1 := _lo2_9 _ hm; have _h2 := hinw _ hm; omega); (have z2hm := _hiv74 _ hm; rw [ea] at hm; have _z1 := List.mem_singleton.1 hm; omega))); (have z2hg := _hiv72 _ hg; rw [ea] at hg; have _z1 := List.mem_singleton.1 hg; rcases _ap74 with ea | ea; (rw [ea] at hm; have _h1 := _lo2_9 _ hm; have _h2 := hinw _ hm; omega); (have z2hm := _hiv74 _ hm; rw [ea] at hm; have _z1 := List.mem_singleton.1 hm; omega)))), (fun u hu g hg hm => by rcases List.mem_append.1 hu with hu | hu; (exact spc2_5_on _ hu _ hg hm); (rw [List.mem_singleton.1 hu] at hg; replace hg : g ∈ bl (.slice _Av72 ((_ys64 ++ [_y69])).length _Cv72) := hg; rcases _ap72 with ea | ea; (rw [ea] at hg; rcases _ap66 with ea | ea; (rw [ea] at hg; have _h1 := _lo1_5 _ hm; have _h2 := hiow _ hm; have _h19 := gp1_5 _ hm; have _h3 := _lo61 _ hg; have _h4 := _hiv61 _ hg; omega); (have z2hg := _hiv66 _ hg; rw [ea] at hg; have _z1 := List.mem_singleton.1 hg; have _h1 := _lo1_5 _ hm; have _h2 := hiow _ hm; have _h19 := gp1_5 _ hm; omega)); (have z2hg := _hiv72 _ hg; rw [ea] at hg; have _z1 := List.mem_singleton.1 hg; have _h1 := _lo1_5 _ hm; have _h2 := hiow _ hm; have _h19 := gp1_5 _ hm; omega))), (fun u hu g hg hm => by rcases _ap74 with ea | ea; (rw [ea] at hm; exact _spl2_9_od _ hu _ hg hm); (have z2hm := _hiv74 _ hm; rw [ea] at hm; have _z1 := List.mem_singleton.1 hm; have _h9 := _f_271.rng hu hg; omega)), (fun u hu g hg hm => by rcases _ap74 with ea | ea; (rw [ea] at hm; exact _spl2_9_ol _ hu _ hg hm); (have z2hm := _hiv74 _ hm; rw [ea] at hm; have _z1 := List.mem_singleton.1 hm; have _h9 := _f_272.rng hu hg; omega))⟩, Sub.cons rfl (Sub.cons rfl (Sub.cons rfl (Sub.cons rfl (Sub.cons rfl (Sub.cons rfl (Sub.cons rfl (Sub.cons rfl (Sub.cons rfl (Sub.cons rfl (Sub.cons rfl (Sub.cons rfl (Sub.cons rfl (Sub.nil _))))))))))))), (by first | omega | (dsimp only; omega))⟩)
            · have _kb_195 := _h57
              have _h57 := bf_d _h57
              refine W_exit (thn_exit (thn_exit (inB_hit ?_)))
              refine inB_nrm ?_
              refine thn_nrm (_hK_55 _ _ ?_)
              clear _hK_55
              refine W_region ?_
              refine WL_step rfl rfl (r_move rfl) ?_
              refine WL_step rfl rfl (r_add (by omega) rfl rfl) ?_
              refine WL_step rfl rfl (r_assign rfl) ?_
              refine WL_nil ?_
              have _on_278 : Ol Sv.cs 30 1 _wr_192 (.slice Aow (us).length Cow) (us) := by
                have hx := _F2_4
                exact hx
              have _on_279 : Ol Sv.cs 30 1 _wr_192 (.slice Anw (ms).length Cnw) (ms) := by
                have hx := _o2_9
                exact hx
              exact thn_nrm (Exists.intro ((i + 1), us, ms, (.slice Aow (us).length Cow), (.slice Anw (ms).length Cnw)) ⟨⟨E, (by omega), (by omega), _F2_0, _F2_1, _F2_2, _F2_3, _on_278, (Lo.down _lo1_5 (by omega)), _on_279, (Lo.down _lo2_9 (by omega)), ((od.up (Nat.le_refl _) (by omega)).eq (by rw [take_snoc _hys42, List.filter_append]; simp [_h44])), ((on.up (Nat.le_refl _) (by omega)).eq (ext_allL _hys42 (by omega))), (ol.up (Nat.le_refl _) (by omega)), (fun g hm hg => by exact _djl1_5_7 _ hm hg), (fun g hm => by have _h1 := _lo1_5 _ hm; have _h2 := hiow _ hm; have _h19 := gp1_5 _ hm; omega), (fun g hm hg => by exact _djl2_9_7 _ hm hg), (fun g hm hg => by exact _djl2_9_5 _ hm hg), (fun u hu g hg hm => by exact _spl1_5 _ hu _ hg hm), (fun u hu g hg hm => by exact _spl2_9_od _ hu _ hg hm), (fun u hu g hg hm => by exact _spl2_9 _ hu _ hg hm), (fun u hu g hg hm => by exact spc2_5_on _ hu _ hg hm), (fun u hu g hg hm => by exact _spl1_5_ol _ hu _ hg hm), (fun u hu g hg hm => by exact _spl2_9_ol _ hu _ hg hm)⟩, Sub.cons rfl (Sub.cons rfl (Sub.cons rfl (Sub.cons rfl (Sub.cons rfl (Sub.cons rfl (Sub.cons rfl (Sub.cons rfl (Sub.cons rfl (Sub.cons rfl (Sub.nil _)))))))))), (by first | omega | (dsimp only; omega))⟩)
        · have _kb_54 := _h35
          have _h35 := bf_d _h35
          refine W_exit (thn_exit (thn_exit (inB_hit ?_)))
          refine thn_nrm (_hK_40 _ _ ?_)
          clear _hK_40
          refine W_region ?_
          refine WL_step rfl rfl (r_move rfl) ?_
          refine WL_step rfl rfl (r_assign rfl) ?_
          refine WL_nil ?_
          refine inB_nrm ?_
          refine thn_nrm (_hK_37 _ _ ?_)
          clear _hK_37
          refine W_region ?_
          refine WL_step rfl rfl (r_move rfl) ?_
          refine WL_step rfl rfl (r_add (by omega) rfl rfl) ?_
          refine WL_step rfl rfl (r_assign rfl) ?_
          refine WL_nil ?_
          have _on_280 : Ol Sv.cs 30 1 _wr_51 (.slice Aow (us).length Cow) (us) := by
            have hx := _o1_5
            exact hx
          have _on_281 : Ol Sv.cs 30 1 _wr_51 (.slice Anv (ns).length Cnv) (ns) := by
            have hx := _o1_9
            exact hx
          exact thn_nrm (Exists.intro ((k + 1), us, ns, (.slice Aow (us).length Cow), (.slice Anv (ns).length Cnv)) ⟨⟨E, (by omega), (by omega), _F1_0, _F1_1, _F1_2, _on_280, (Lo.down _lo1_5 (by omega)), _on_281, (Lo.down _lo1_9 (by omega)), ((od.up (Nat.le_refl _) (by omega)).eq (by rw [wuT_succ, List.take_of_length_le (by omega)])), ((on.up (Nat.le_refl _) (by omega)).eq (by rw [List.take_of_length_le (by omega)]; rfl)), (fun g hm => by have _h1 := _lo1_5 _ hm; have _h2 := hiow _ hm; have _h19 := gp1_5 _ hm; omega), (fun g hm hg => by exact _djl1_9_o5 _ hm hg), (fun u hu g hg hm => by exact _spl1_5 _ hu _ hg hm), (fun u hu g hg hm => by exact _spl1_5_on _ hu _ hg hm)⟩, Sub.cons rfl (Sub.cons rfl (Sub.cons rfl (Sub.cons rfl (Sub.cons rfl (Sub.cons rfl (Sub.cons rfl (Sub.nil _))))))), (by first | omega | (dsimp only; omega))⟩)
      · have _kb_36 := _h28
        have _h28 := bf_d _h28
        refine W_exit (thn_exit (thn_exit (inB_hit ?_)))
        refine thn_nrm (_hK_25 _ _ ?_)
        clear _hK_25
        refine W_seq fun _K_282 _hK_282 => ?_
        refine W_region ?_
        refine WL_step rfl rfl (r_move rfl) ?_
        refine WL_step rfl rfl (r_assign rfl) ?_
        refine WL_nil ?_
        refine thn_nrm (_hK_282 _ _ ?_)
        clear _hK_282
        refine W_ret ?_
        clear _hK_34
        have _o_283 : Ol Sv.cs 30 1 _wr_33 (.slice Aov (vs).length Cov) vs := by
          have hx := _o0_5
          exact hx
        have _o_284 : Od ics 3 1 _wr_33 w.heap.size _wr_33.heap.size vs (wuR e length) := by
          have hx := od.up (lo' := w.heap.size) (hi' := _wr_33.heap.size) (by omega) (by omega)
          exact hx.eq ((wuS_y _h16 (by omega) ht9 (by omega)).trans (wu_same _ _))
        exact ret_intro [_] ⟨rfl, trivial⟩ ⟨(.slice Aov (vs).length Cov), vs, rfl, _o_283, (Lo.down _lo0_5 (by omega)), _o_284, _spl0_5, E⟩

end Go.Proofs.Ytholldndjafnpaa
