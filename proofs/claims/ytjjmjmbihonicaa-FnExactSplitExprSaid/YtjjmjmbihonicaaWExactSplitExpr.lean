/- The walks of all functions that FnExactSplitExpr reaches: what each returns, and that it leaves the memory that was there alone. -/
import Derived.Test.YtjjmjmbihonicaaKF
import Derived.Test.YtjjmjmbihonicaaKG
import Derived.Test.YtjjmjmbihonicaaKH
import Derived.Test.YtjjmjmbihonicaaKI
import Derived.Test.YtjjmjmbihonicaaKJ
import Derived.Test.YtjjmjmbihonicaaKM
import Derived.Test.YtjjmjmbihonicaaKN
import Derived.Test.YtjjmjmbihonicaaKO
import Derived.Test.YtjjmjmbihonicaaKP
import Derived.Test.YtjjmjmbihonicaaKQ
import Derived.Test.YtjjmjmbihonicaaKR
import Derived.Test.YtjjmjmbihonicaaKS
import Derived.Test.YtjjmjmbihonicaaKT
import Derived.Test.YtjjmjmbihonicaaKU
import Derived.Test.YtjjmjmbihonicaaKV
import Derived.Test.YtjjmjmbihonicaaProg
namespace Go.Proofs.Ytjjmjmbihonicaa
open Go.KLib
set_option maxRecDepth 20000
set_option linter.unusedVariables false
set_option linter.unusedSimpArgs false
theorem agg22 : aggB Try.prog 22 = some false := by kernel_rfl
theorem agg24 : aggB Try.prog 24 = some true := by kernel_rfl
theorem agg27 : aggB Try.prog 27 = some false := by kernel_rfl
theorem agg29 : aggB Try.prog 29 = some true := by kernel_rfl
theorem agg3 : aggB Try.prog 3 = some false := by kernel_rfl
theorem agg57 : aggB Try.prog 57 = some true := by kernel_rfl
theorem agg59 : aggB Try.prog 59 = some false := by kernel_rfl
theorem agg66 : aggB Try.prog 66 = some false := by kernel_rfl
theorem agg90 : aggB Try.prog 90 = some true := by kernel_rfl
theorem by57 : bytesB Try.prog 57 = some 32 := by kernel_rfl
theorem by59 : bytesB Try.prog 59 = some 8 := by kernel_rfl
theorem el22 : elB Try.prog 22 = some 90 := by kernel_rfl
theorem el27 : elB Try.prog 27 = some 57 := by kernel_rfl
theorem el66 : elB Try.prog 66 = some 59 := by kernel_rfl
theorem fa24_0 : faB Try.prog 24 0 = some 0 := by kernel_rfl
theorem fa29_0 : faB Try.prog 29 0 = some 0 := by kernel_rfl
theorem fa57_0 : faB Try.prog 57 0 = some 0 := by kernel_rfl
theorem fa57_1 : faB Try.prog 57 1 = some 1 := by kernel_rfl
theorem fa57_2 : faB Try.prog 57 2 = some 2 := by kernel_rfl
theorem fa57_3 : faB Try.prog 57 3 = some 3 := by kernel_rfl
theorem fa68_0 : faB Try.prog 68 0 = some 0 := by kernel_rfl
theorem fa68_1 : faB Try.prog 68 1 = some 4 := by kernel_rfl
theorem fa90_0 : faB Try.prog 90 0 = some 0 := by kernel_rfl
theorem fa90_1 : faB Try.prog 90 1 = some 1 := by kernel_rfl
theorem fa90_2 : faB Try.prog 90 2 = some 2 := by kernel_rfl
theorem fa90_3 : faB Try.prog 90 3 = some 3 := by kernel_rfl
theorem fk14 : fnB Try.prog 14 = true := by kernel_rfl
theorem fk15 : fnB Try.prog 15 = true := by kernel_rfl
theorem fk16 : fnB Try.prog 16 = true := by kernel_rfl
theorem fk18 : fnB Try.prog 18 = true := by kernel_rfl
theorem fk23 : fnB Try.prog 23 = true := by kernel_rfl
theorem fk24 : fnB Try.prog 24 = true := by kernel_rfl
theorem fk25 : fnB Try.prog 25 = true := by kernel_rfl
theorem fk26 : fnB Try.prog 26 = true := by kernel_rfl
theorem fk48 : fnB Try.prog 48 = true := by kernel_rfl
theorem fk49 : fnB Try.prog 49 = true := by kernel_rfl
theorem fk50 : fnB Try.prog 50 = true := by kernel_rfl
theorem fk51 : fnB Try.prog 51 = true := by kernel_rfl
theorem fk52 : fnB Try.prog 52 = true := by kernel_rfl
theorem fk55 : fnB Try.prog 55 = true := by kernel_rfl
theorem fk56 : fnB Try.prog 56 = true := by kernel_rfl
theorem fk57 : fnB Try.prog 57 = true := by kernel_rfl
theorem fk58 : fnB Try.prog 58 = true := by kernel_rfl
theorem fk59 : fnB Try.prog 59 = true := by kernel_rfl
theorem fk62 : fnB Try.prog 62 = true := by kernel_rfl
theorem fk64 : fnB Try.prog 64 = true := by kernel_rfl
theorem fk79 : fnB Try.prog 79 = true := by kernel_rfl
theorem fk80 : fnB Try.prog 80 = true := by kernel_rfl
theorem fk81 : fnB Try.prog 81 = true := by kernel_rfl
theorem fk82 : fnB Try.prog 82 = true := by kernel_rfl
theorem fk83 : fnB Try.prog 83 = true := by kernel_rfl
theorem fk84 : fnB Try.prog 84 = true := by kernel_rfl
theorem fk92 : fnB Try.prog 92 = true := by kernel_rfl
theorem ist57 : intStructB Try.prog 57 4 = true := by kernel_rfl
theorem mixed : Try.prog.follows .mixedOrders = true := by kernel_rfl
theorem pl29 : placesB Try.prog 29 = some [(0, 1)] := by kernel_rfl
theorem pl57 : placesB Try.prog 57 = some [(0, 1), (1, 1), (2, 1), (3, 1)] := by kernel_rfl
theorem pl68 : placesB Try.prog 68 = some [(0, 4), (4, 1)] := by kernel_rfl
theorem ptr59 : ptrB Try.prog 59 = true := by kernel_rfl
theorem sz24 : sizeB Try.prog 24 = some 1 := by kernel_rfl
theorem sz27 : sizeB Try.prog 27 = some 1 := by kernel_rfl
theorem sz29 : sizeB Try.prog 29 = some 1 := by kernel_rfl
theorem sz3 : sizeB Try.prog 3 = some 1 := by kernel_rfl
theorem sz57 : sizeB Try.prog 57 = some 4 := by kernel_rfl
theorem sz59 : sizeB Try.prog 59 = some 1 := by kernel_rfl
theorem sz90 : sizeB Try.prog 90 = some 4 := by kernel_rfl
theorem zr29 : zeroB Try.prog 29 = some (.agg #[.slice none 0 0]) := by kernel_rfl
theorem zr57 : zeroB Try.prog 57 = some (.agg #[.int .i64 0, .int .i64 0, .int .i64 0, .int .i64 0]) := by kernel_rfl
theorem zr59 : zeroB Try.prog 59 = some (.pointer none) := by kernel_rfl
theorem zr68 : zeroB Try.prog 68 = some (.agg #[.int .i64 0, .int .i64 0, .int .i64 0, .int .i64 0, .slice none 0 0]) := by kernel_rfl

/-- impl.tree).collect -/
theorem c_impl_tree_collect_n : ∀ (n : Nat) {w : World} {LT_x L_out : Nat} {p_x : Addr} {x : Tr} (_h_x : TrAt w LT_x L_out p_x x) {b_out t_out : Nat} {_v_out0 : Value} {out0 : List Token} (m_out : Blk w b_out t_out [_v_out0]) (_lb_out : L_out ≤ b_out) (_h_out0 : Ol Token.cs 57 4 w _v_out0 out0) (_nb_out0 : b_out ∉ bl _v_out0) (_ll_out0 : Lo L_out _v_out0) (hb : out0.length + x.sz ≤ 4194304) (hsz : x.sz < n),
    Ctr Try.prog 84 #[(.pointer (some p_x)), (.pointer (some ⟨b_out, 0, none⟩))] w (fun v w' => ∃ (zout0 : Value), v = .tuple #[] ∧ Blk w' b_out t_out [zout0] ∧ Ol Token.cs 57 4 w' zout0 (out0 ++ x.flat) ∧ (∀ g ∈ bl zout0, w.heap.size ≤ g ∨ g ∈ (b_out :: bl _v_out0)) ∧ b_out ∉ bl zout0 ∧ Ch (b_out :: bl _v_out0) w w') := by
  intro n
  induction n with
  | zero => intros; omega
  | succ n ih =>
  intro w LT_x L_out p_x x _h_x b_out t_out _v_out0 out0 m_out _lb_out _h_out0 _nb_out0 _ll_out0 hb hsz
  obtain ⟨_A_x, _C_x, _ps_x, _hc_x, _hk_x, _kd_x⟩ := _h_x.open
  have _kl_x := _kd_x.1
  obtain ⟨_A_out0, _C_out0, _e1_out0⟩ := _h_out0.val
  subst _e1_out0
  have _l_out0 := _h_out0.len
  have _lt_out0 := _h_out0.lt
  have _zb_out := m_out.lt
  have E := Ch.refl (b_out :: bl (.slice _A_out0 out0.length _C_out0)) w
  have k2 := x.kids_le
  refine Ctr_of_W (N := 32) (vs0 := [(.pointer (some p_x)), (.pointer (some ⟨b_out, 0, none⟩))]) Try.func84 rfl rfl rfl ?_
  refine W_seq fun _K_1 _hK_1 => ?_
  refine W_seq fun _K_2 _hK_2 => ?_
  refine W_region ?_
  refine WL_step rfl rfl (r_move rfl) ?_
  refine WL_step rfl rfl (r_nilCheck rfl) ?_
  refine WL_step rfl rfl (r_fieldAddr fa68_1 rfl) ?_
  refine WL_step rfl rfl (r_loadAt _hc_x agg66 rfl rfl) ?_
  refine WL_step rfl rfl (r_len (by rw [el66]; rfl) rfl) ?_
  refine WL_step rfl rfl (r_move rfl) ?_
  refine WL_nil ?_
  refine thn_nrm (_hK_2 _ _ ?_)
  clear _hK_2
  refine W_block ?_
  have _oi_3 : Ol Token.cs 57 4 w (.slice _A_out0 out0.length _C_out0) (out0 ++ flats (x.kids.take 0)) := by
    have hx := _h_out0
    simpa [flats] using hx
  refine W_loop (σ := Nat × Value) (fun ⟨i, sv⟩ => [(0, (.pointer (some p_x))), (1, (.pointer (some ⟨b_out, 0, none⟩))), (9, (.slice _A_x _ps_x.length _C_x)), (10, (.int .i64 ((_ps_x.length : Nat) : Int))), (11, (.int .i64 ((i : Nat) : Int)))]) (fun ⟨i, sv⟩ wx => Ch (b_out :: bl (.slice _A_out0 out0.length _C_out0)) w wx ∧ w.heap.size ≤ wx.heap.size ∧ (i ≤ x.kids.length) ∧ Ol Token.cs 57 4 wx sv (out0 ++ flats (x.kids.take i)) ∧ Lo L_out sv ∧ Blk wx b_out t_out [sv] ∧ (∀ g ∈ bl sv, w.heap.size ≤ g ∨ g ∈ (b_out :: bl (.slice _A_out0 out0.length _C_out0))) ∧ (b_out ∉ bl sv)) (fun ⟨i, sv⟩ => x.kids.length - i) (0, (.slice _A_out0 out0.length _C_out0)) (Sub.cons rfl (Sub.cons rfl (Sub.cons rfl (Sub.cons rfl (Sub.cons rfl (Sub.nil _)))))) ⟨E, (Nat.le_refl _), (by omega), _oi_3, _ll_out0, m_out, (fun g hm => by exact (.inr (List.mem_cons_of_mem _ hm))), (fun hm => by exact _nb_out0 (by first | exact hm | exact _h0 ▸ hm))⟩ ?_
  rintro ⟨i, sv⟩ _wr_4 ⟨E, _zz0, hi, _o0_1, _lo0_1, _m0_1, _in0_1_0, _nb0_1⟩
  have _E0h := E
  have _E0hz := _E0h.size
  obtain ⟨Asv, Csv, esv⟩ := _o0_1.val
  subst esv
  have lsv := _o0_1.len
  have hisv := _o0_1.lt
  refine W_seq fun _K_5 _hK_5 => ?_
  refine W_region ?_
  refine WL_step rfl rfl (r_lss rfl rfl) ?_
  refine WL_nil ?_
  refine thn_nrm (_hK_5 _ _ ?_)
  clear _hK_5
  refine W_seq fun _K_6 _hK_6 => ?_
  refine W_cond rfl (fun _h12 => ?_) (fun _h12 => ?_)
  · have _kb_7 := _h12
    have _h12 := bt_d _h12
    refine W_skip ?_
    refine thn_nrm (_hK_6 _ _ ?_)
    clear _hK_6
    refine W_seq fun _K_8 _hK_8 => ?_
    refine W_block ?_
    refine W_seq fun _K_9 _hK_9 => ?_
    refine W_region ?_
    refine WL_s rfl rfl ?_
    have _f_10 := (_hk_x.ch _E0h (fun i hm => by rcases List.mem_cons.1 hm with _h0 | hm; (omega); (have _h1 := _ll_out0 _ hm; have _h2 := _lt_out0 _ hm; omega)))
    refine (s_index _f_10 acs_len el66 sz59 rfl rfl rfl (by omega) fun _p13 _y13 _hy13 _a13 => ?_)
    have _f_11 := (_kd_x.ch _E0h (fun i hm => by rcases List.mem_cons.1 hm with _h0 | hm; (omega); (have _h1 := _ll_out0 _ hm; have _h2 := _lt_out0 _ hm; omega)))
    obtain ⟨_t13, ht13, _tr13⟩ := _f_11.get _hy13
    obtain ⟨_A_13, _C_13, _ps_13, _hc_13, _hk_13, _kd_13⟩ := _tr13.open
    have _kl_13 := _kd_13.1
    replace _a13 : At _wr_4 LT_x L_out _p13 ([(.pointer (some _y13))]) := _a13
    refine WL_step rfl rfl (r_loadAt0 _a13 agg59 rfl rfl) ?_
    refine WL_step rfl rfl (r_assign rfl) ?_
    refine WL_nil ?_
    refine thn_nrm (_hK_9 _ _ ?_)
    clear _hK_9
    refine W_region ?_
    refine WL_step rfl rfl (r_move rfl) ?_
    refine WL_step rfl rfl (r_move rfl) ?_
    refine WL_s rfl rfl ?_
    refine Step.call (r_call (xs := [.tmp 15, .tmp 16]) fk84 rfl) (ih _tr13 _m0_1 (by omega) _o0_1 (fun hm => by exact _nb0_1 (by first | exact hm | exact _h0 ▸ hm)) (Lo.down _lo0_1 (by omega)) (by have _h1 := flats_bd ht13; simp only [List.length_append]; omega) (by have := Tr.kid_sz ht13; omega)) fun _v17 _w_12 _q17 => ?_
    obtain ⟨_z17_0, rfl, _m17, _qz17_0, _inz17_0, _nbz17_0, _cw_12⟩ := _q17
    have _cw_12z := _cw_12.size
    have E := E.step _cw_12 (fun i hm => by rcases List.mem_cons.1 hm with _h0 | hm; (right; exact _h0 ▸ List.mem_cons_self ..); (exact _in0_1_0 _ hm))
    obtain ⟨Az17_0, Cz17_0, ez17_0⟩ := _qz17_0.val
    subst ez17_0
    have lz17_0 := _qz17_0.len
    have hiz17_0 := _qz17_0.lt
    have _loz17_0 : Lo L_out (.slice Az17_0 ((out0 ++ flats (x.kids.take i)) ++ _t13.flat).length Cz17_0) := fun g hm => by rcases _inz17_0 _ hm with _z1 | _z1; (omega); (rcases List.mem_cons.1 _z1 with _z1 | _z1; (exact absurd (_z1 ▸ hm) _nbz17_0); (replace hm := _z1; have _h1 := _lo0_1 _ hm; have _h2 := hisv _ hm; omega))
    replace _m17 : Blk _w_12 b_out t_out [(.slice Az17_0 ((out0 ++ flats (x.kids.take i)) ++ _t13.flat).length Cz17_0)] := _m17
    refine WL_nil ?_
    refine inB_nrm ?_
    refine thn_nrm (_hK_8 _ _ ?_)
    clear _hK_8
    refine W_region ?_
    refine WL_step rfl rfl (r_add (by omega) rfl rfl) ?_
    refine WL_step rfl rfl (r_move rfl) ?_
    refine WL_nil ?_
    have _on_13 : Ol Token.cs 57 4 _w_12 (.slice Az17_0 ((out0 ++ flats (x.kids.take i)) ++ _t13.flat).length Cz17_0) (out0 ++ flats (x.kids.take (i + 1))) := by
      have hx := _qz17_0
      exact hx.eq (by rw [List.append_assoc, ← flats_take ht13])
    exact thn_nrm (Exists.intro ((i + 1), (.slice Az17_0 ((out0 ++ flats (x.kids.take i)) ++ _t13.flat).length Cz17_0)) ⟨⟨E, (by omega), (by omega), _on_13, (Lo.down _loz17_0 (by omega)), _m17, (fun g hm => by rcases _inz17_0 _ hm with _z1 | _z1; (left; omega); (rcases List.mem_cons.1 _z1 with _z1 | _z1; (exact absurd (_z1 ▸ hm) _nbz17_0); (replace hm := _z1; exact _in0_1_0 _ hm))), (fun hm => by rcases _inz17_0 _ hm with _z1 | _z1; (omega); (rcases List.mem_cons.1 _z1 with _z1 | _z1; (exact absurd (_z1 ▸ hm) _nbz17_0); (replace hm := _z1; exact _nb0_1 (by first | exact hm | exact _h0 ▸ hm))))⟩, Sub.cons rfl (Sub.cons rfl (Sub.cons rfl (Sub.cons rfl (Sub.cons rfl (Sub.nil _))))), (by first | omega | (dsimp only; omega))⟩)
  · have _kb_7 := _h12
    have _h12 := bf_d _h12
    refine W_exit (thn_exit (thn_exit (inB_hit ?_)))
    refine thn_nrm (_hK_1 _ _ ?_)
    clear _hK_1
    refine W_drawC ((bl (.slice Asv (out0 ++ flats (x.kids.take i)).length Csv)) ++ [b_out]) 14 mixed rfl fun _w_14 _cw_14 => ?_
    have _cw_14z := _cw_14.size
    have E := E.trans _cw_14.of_nil
    refine DR_s 0 rfl (by kernel_rfl) rfl rfl (t_v (fun _ => (r_move rfl)) ?_)
    refine DR_s 1 rfl (by kernel_rfl) rfl rfl (t_v (fun _ => (r_move rfl)) ?_)
    refine DR_s 2 rfl (by kernel_rfl) rfl rfl (t_v (fun _ => (r_nilCheck rfl)) ?_)
    refine DR_s 3 rfl (by kernel_rfl) rfl rfl (t_v (fun _ => (r_fieldAddr fa29_0 rfl)) ?_)
    refine DR_s 5 rfl (by kernel_rfl) rfl rfl (t_v (fun _ => (r_move rfl)) ?_)
    refine DR_s 6 rfl (by kernel_rfl) rfl rfl (t_v (fun _ => (r_nilCheck rfl)) ?_)
    refine DR_s 7 rfl (by kernel_rfl) rfl rfl (t_v (fun _ => (r_fieldAddr fa68_0 rfl)) ?_)
    have _f_15 := ((_hc_x.ch _E0h (fun i hm => by rcases List.mem_cons.1 hm with _h0 | hm; (omega); (have _h1 := _ll_out0 _ hm; have _h2 := _lt_out0 _ hm; omega))).ch0 _cw_14)
    refine DR_s 8 rfl (by kernel_rfl) rfl rfl (t_loadAtA 4 _f_15 (fun i hm => by rcases List.mem_append.1 hm with hm | hm; (have _h1 := _lo0_1 _ hm; have _h2 := hisv _ hm; omega); (have _h1 := List.mem_singleton.1 hm; omega)) agg57 sz57 rfl rfl ?_)
    refine DR_two 4 9 (by kernel_rfl) ?_ ?_
    · refine DO_s rfl rfl rfl ?_
      have _f_16 := (_m0_1.ch0 _cw_14)
      refine s_v (r_loadAt _f_16.at_ agg27 rfl rfl) ?_
      refine ⟨(Ch.refl _ _), ?_⟩
      refine DR_one 9 (by kernel_rfl) ?_
      refine DO_s rfl rfl rfl ?_
      refine s_buildSlice (cs := Token.cs) (parts := [(0, .tmp 27)]) (⟨0, 0, 0, 0⟩ : Token) [x.tok] el27 sz57 zr57 Token.len (by decide) rfl rfl rfl (by decide) (by decide) rfl fun _v28 _w_17 _q28 _lo28 _cw_17 => ?_
      have _cw_17z := _cw_17.size
      have E := E.trans _cw_17.of_nil
      obtain ⟨_Av28, _Cv28, _ev28⟩ := _q28.val
      subst _ev28
      have _lv28 := _q28.len
      have _hiv28 := _q28.lt
      have _S_18 : Ch ((bl (.slice Asv (out0 ++ flats (x.kids.take i)).length Csv)) ++ [b_out]) _w_14 _w_17 := ((Ch.refl _ _).trans _cw_17.of_nil)
      refine ⟨_S_18, ?_⟩
      refine DR_one 10 (by kernel_rfl) ?_
      refine DO_s rfl rfl rfl ?_
      have _f_20 := ((_o0_1.ch0 _cw_14).ch0 _cw_17)
      refine s_append (cs := Token.cs) el27 sz57 by57 zr57 rfl (by decide) Token.one _f_20 _q28.ls rfl rfl (by have _h1 := flats_bd2 x i; simp only [List.length_append, List.length_singleton]; omega) (by have _h1 := flats_bd2 x i; simp only [List.length_append, List.length_singleton]; omega) _lo0_1 (by omega) fun _v29 _w_19 _q29 _lo29 _ap29 _cw_19 => ?_
      have _cw_19z := _cw_19.size
      have E := E.step _cw_19 (fun i hm => by exact _in0_1_0 _ hm)
      obtain ⟨_Av29, _Cv29, _ev29⟩ := _q29.val
      subst _ev29
      have _lv29 := _q29.len
      have _hiv29 := _q29.lt
      have _S_21 : Ch ((bl (.slice Asv (out0 ++ flats (x.kids.take i)).length Csv)) ++ [b_out]) _w_14 _w_19 := (_S_18.step _cw_19 (fun i hm => by exact .inr (List.mem_append_left _ hm)))
      refine ⟨_S_21, ?_⟩
      refine DR_s 11 rfl (by kernel_rfl) rfl rfl (t_v (fun _ => (r_nilCheck rfl)) ?_)
      refine DR_s 12 rfl (by kernel_rfl) rfl rfl (t_v (fun _ => (r_fieldAddr fa29_0 rfl)) ?_)
      refine DR_one 13 (by kernel_rfl) ?_
      refine DO_s rfl rfl rfl ?_
      have _f_22 := ((_f_16.ch0 _cw_17).ch _cw_19 (fun hm => by exact _nb0_1 (by first | exact hm | exact _h0 ▸ hm)))
      refine s_store1 (off := 0) _f_22 sz27 rfl rfl rfl rfl fun _w_23 _m_24 _cw_23 => ?_
      have _cw_23z := _cw_23.size
      have E := E.step _cw_23 (fun i hm => by have _h0 := List.mem_singleton.1 hm; right; exact _h0 ▸ List.mem_cons_self ..)
      replace _m_24 : Blk _w_23 b_out t_out [(.slice _Av29 ((out0 ++ flats (x.kids.take i) ++ [x.tok])).length _Cv29)] := _m_24
      have _S_25 : Ch ((bl (.slice Asv (out0 ++ flats (x.kids.take i)).length Csv)) ++ [b_out]) _w_14 _w_23 := (_S_21.step _cw_23 (fun i hm => by have _h0 := List.mem_singleton.1 hm; exact .inr (by rw [_h0]; exact (List.mem_append_right _ (List.mem_singleton.2 rfl)))))
      refine ⟨_S_25, ?_⟩
      refine DR_done (by kernel_rfl) ?_
      clear _hK_6
      have _f_26 := (_q29.ch _cw_23 (fun g hg hm => by have _h0 := List.mem_singleton.1 hm; rcases _ap29 with ea | ea; (rw [ea] at hg; exact _nb0_1 (by first | exact hg | exact _h0 ▸ hg)); (rw [ea] at hg; have _z1 := List.mem_singleton.1 hg; omega)))
      have _o_27 : Ol Token.cs 57 4 _w_23 (.slice _Av29 ((out0 ++ flats (x.kids.take i) ++ [x.tok])).length _Cv29) (out0 ++ x.flat) := by
        have hx := _f_26
        exact hx.eq (by rw [List.append_assoc, flats_all (by omega)])
      exact end_intro [] trivial ⟨(.slice _Av29 ((out0 ++ flats (x.kids.take i) ++ [x.tok])).length _Cv29), rfl, _m_24, _o_27, (fun g hm => by rcases _ap29 with ea | ea; (rw [ea] at hm; exact _in0_1_0 _ hm); (rw [ea] at hm; have _z1 := List.mem_singleton.1 hm; left; omega)), (fun hm => by rcases _ap29 with ea | ea; (rw [ea] at hm; exact _nb0_1 (by first | exact hm | exact _h0 ▸ hm)); (rw [ea] at hm; have _z1 := List.mem_singleton.1 hm; omega)), E⟩
    · refine DO_s rfl rfl rfl ?_
      refine s_buildSlice (cs := Token.cs) (parts := [(0, .tmp 27)]) (⟨0, 0, 0, 0⟩ : Token) [x.tok] el27 sz57 zr57 Token.len (by decide) rfl rfl rfl (by decide) (by decide) rfl fun _v28 _w_28 _q28 _lo28 _cw_28 => ?_
      have _cw_28z := _cw_28.size
      have E := E.trans _cw_28.of_nil
      obtain ⟨_Av28, _Cv28, _ev28⟩ := _q28.val
      subst _ev28
      have _lv28 := _q28.len
      have _hiv28 := _q28.lt
      have _S_29 : Ch ((bl (.slice Asv (out0 ++ flats (x.kids.take i)).length Csv)) ++ [b_out]) _w_14 _w_28 := ((Ch.refl _ _).trans _cw_28.of_nil)
      refine ⟨_S_29, ?_⟩
      refine DR_one 4 (by kernel_rfl) ?_
      refine DO_s rfl rfl rfl ?_
      have _f_30 := ((_m0_1.ch0 _cw_14).ch0 _cw_28)
      refine s_v (r_loadAt _f_30.at_ agg27 rfl rfl) ?_
      refine ⟨_S_29, ?_⟩
      refine DR_one 10 (by kernel_rfl) ?_
      refine DO_s rfl rfl rfl ?_
      have _f_32 := ((_o0_1.ch0 _cw_14).ch0 _cw_28)
      refine s_append (cs := Token.cs) el27 sz57 by57 zr57 rfl (by decide) Token.one _f_32 _q28.ls rfl rfl (by have _h1 := flats_bd2 x i; simp only [List.length_append, List.length_singleton]; omega) (by have _h1 := flats_bd2 x i; simp only [List.length_append, List.length_singleton]; omega) _lo0_1 (by omega) fun _v29 _w_31 _q29 _lo29 _ap29 _cw_31 => ?_
      have _cw_31z := _cw_31.size
      have E := E.step _cw_31 (fun i hm => by exact _in0_1_0 _ hm)
      obtain ⟨_Av29, _Cv29, _ev29⟩ := _q29.val
      subst _ev29
      have _lv29 := _q29.len
      have _hiv29 := _q29.lt
      have _S_33 : Ch ((bl (.slice Asv (out0 ++ flats (x.kids.take i)).length Csv)) ++ [b_out]) _w_14 _w_31 := (_S_29.step _cw_31 (fun i hm => by exact .inr (List.mem_append_left _ hm)))
      refine ⟨_S_33, ?_⟩
      refine DR_s 11 rfl (by kernel_rfl) rfl rfl (t_v (fun _ => (r_nilCheck rfl)) ?_)
      refine DR_s 12 rfl (by kernel_rfl) rfl rfl (t_v (fun _ => (r_fieldAddr fa29_0 rfl)) ?_)
      refine DR_one 13 (by kernel_rfl) ?_
      refine DO_s rfl rfl rfl ?_
      have _f_34 := (_f_30.ch _cw_31 (fun hm => by exact _nb0_1 (by first | exact hm | exact _h0 ▸ hm)))
      refine s_store1 (off := 0) _f_34 sz27 rfl rfl rfl rfl fun _w_35 _m_36 _cw_35 => ?_
      have _cw_35z := _cw_35.size
      have E := E.step _cw_35 (fun i hm => by have _h0 := List.mem_singleton.1 hm; right; exact _h0 ▸ List.mem_cons_self ..)
      replace _m_36 : Blk _w_35 b_out t_out [(.slice _Av29 ((out0 ++ flats (x.kids.take i) ++ [x.tok])).length _Cv29)] := _m_36
      have _S_37 : Ch ((bl (.slice Asv (out0 ++ flats (x.kids.take i)).length Csv)) ++ [b_out]) _w_14 _w_35 := (_S_33.step _cw_35 (fun i hm => by have _h0 := List.mem_singleton.1 hm; exact .inr (by rw [_h0]; exact (List.mem_append_right _ (List.mem_singleton.2 rfl)))))
      refine ⟨_S_37, ?_⟩
      refine DR_done (by kernel_rfl) ?_
      clear _hK_6
      have _f_38 := (_q29.ch _cw_35 (fun g hg hm => by have _h0 := List.mem_singleton.1 hm; rcases _ap29 with ea | ea; (rw [ea] at hg; exact _nb0_1 (by first | exact hg | exact _h0 ▸ hg)); (rw [ea] at hg; have _z1 := List.mem_singleton.1 hg; omega)))
      have _o_39 : Ol Token.cs 57 4 _w_35 (.slice _Av29 ((out0 ++ flats (x.kids.take i) ++ [x.tok])).length _Cv29) (out0 ++ x.flat) := by
        have hx := _f_38
        exact hx.eq (by rw [List.append_assoc, flats_all (by omega)])
      exact end_intro [] trivial ⟨(.slice _Av29 ((out0 ++ flats (x.kids.take i) ++ [x.tok])).length _Cv29), rfl, _m_36, _o_39, (fun g hm => by rcases _ap29 with ea | ea; (rw [ea] at hm; exact _in0_1_0 _ hm); (rw [ea] at hm; have _z1 := List.mem_singleton.1 hm; left; omega)), (fun hm => by rcases _ap29 with ea | ea; (rw [ea] at hm; exact _nb0_1 (by first | exact hm | exact _h0 ▸ hm)); (rw [ea] at hm; have _z1 := List.mem_singleton.1 hm; omega)), E⟩
theorem c_impl_tree_collect {w : World} {LT_x L_out : Nat} {p_x : Addr} {x : Tr} (_h_x : TrAt w LT_x L_out p_x x) {b_out t_out : Nat} {_v_out0 : Value} {out0 : List Token} (m_out : Blk w b_out t_out [_v_out0]) (_lb_out : L_out ≤ b_out) (_h_out0 : Ol Token.cs 57 4 w _v_out0 out0) (_nb_out0 : b_out ∉ bl _v_out0) (_ll_out0 : Lo L_out _v_out0) (hb : out0.length + x.sz ≤ 4194304) :
    Ctr Try.prog 84 #[(.pointer (some p_x)), (.pointer (some ⟨b_out, 0, none⟩))] w (fun v w' => ∃ (zout0 : Value), v = .tuple #[] ∧ Blk w' b_out t_out [zout0] ∧ Ol Token.cs 57 4 w' zout0 (out0 ++ x.flat) ∧ (∀ g ∈ bl zout0, w.heap.size ≤ g ∨ g ∈ (b_out :: bl _v_out0)) ∧ b_out ∉ bl zout0 ∧ Ch (b_out :: bl _v_out0) w w') := c_impl_tree_collect_n _ _h_x m_out _lb_out _h_out0 _nb_out0 _ll_out0 hb (Nat.lt_succ_self _)

/-- impl.tree).expr -/
theorem c_impl_tree_expr {w : World} {LT_x _B_x : Nat} {p_x : Addr} {x : Tr} (_h_x : TrAt w LT_x _B_x p_x x) (hb : x.sz ≤ 4194304) :
    Ctr Try.prog 57 #[(.pointer (some p_x))] w (fun v w' => ∃ u, v = .agg #[u] ∧ Ol Token.cs 57 4 w' u (x.flat) ∧ Lo w.heap.size u ∧ Ch [] w w') := by
  have _h_x := _h_x.here
  obtain ⟨_A_x, _C_x, _ps_x, _hc_x, _hk_x, _kd_x⟩ := _h_x.open
  have _kl_x := _kd_x.1
  have E := Ch.refl [] w
  refine Ctr_of_W (N := 8) (vs0 := [(.pointer (some p_x))]) Try.func57 rfl rfl rfl ?_
  refine W_seq fun _K_1 _hK_1 => ?_
  refine W_region ?_
  refine WL_s rfl rfl ?_
  refine s_alloc zr29 fun _b2 _w_2 _m2 _cw_2 _e2 => ?_
  have _cw_2z := _cw_2.size
  have E := E.trans _cw_2
  have _z2 := _m2.lt
  replace _m2 : Blk _w_2 _b2 29 [(.slice none 0 0)] := _m2
  refine WL_nil ?_
  refine thn_nrm (_hK_1 _ _ ?_)
  clear _hK_1
  refine W_seq fun _K_3 _hK_3 => ?_
  refine W_region ?_
  refine WL_step rfl rfl (r_build (parts := []) (cells := [(.slice none 0 0)]) zr29 pl29 rfl rfl) ?_
  refine WL_s rfl rfl ?_
  refine s_alloc zr29 fun _b3 _w_4 _m3 _cw_4 _e3 => ?_
  have _cw_4z := _cw_4.size
  have E := E.trans _cw_4
  have _z3 := _m3.lt
  replace _m3 : Blk _w_4 _b3 29 [(.slice none 0 0)] := _m3
  refine WL_s rfl rfl ?_
  refine s_storeA (off := 0) 1 _m3 sz29 rfl (us := [(.slice none 0 0)]) rfl rfl rfl rfl fun _w_5 _m_6 _cw_5 => ?_
  have _cw_5z := _cw_5.size
  have E := E.step _cw_5 (fun i hi => .inl (by have _h1 := List.mem_singleton.1 hi; omega))
  replace _m_6 : Blk _w_5 _b3 29 [(.slice none 0 0)] := _m_6
  refine WL_nil ?_
  refine thn_nrm (_hK_3 _ _ ?_)
  clear _hK_3
  refine W_seq fun _K_7 _hK_7 => ?_
  refine W_region ?_
  refine WL_step rfl rfl (r_move rfl) ?_
  refine WL_s rfl rfl ?_
  have _f_8 := (((_h_x.ch0 _cw_2).ch0 _cw_4).ch _cw_5 (fun i hi => by have _h1 := List.mem_singleton.1 hi; omega))
  refine Step.call (r_call (xs := [.tmp 5, .tmp 3]) fk84 rfl) (c_impl_tree_collect _f_8 _m_6 (by omega) (Ol.nil (cs := Token.cs) (e := 57) (k := 4) _w_5) (fun hm => by cases hm) (Lo.nil _) (by simp only [List.length_nil]; omega)) fun _v6 _w_9 _q6 => ?_
  obtain ⟨_z6_0, rfl, _m6, _qz6_0, _inz6_0, _nbz6_0, _cw_9⟩ := _q6
  have _cw_9z := _cw_9.size
  have E := E.step _cw_9 (fun i hm => .inl (by rcases List.mem_cons.1 hm with _h0 | hm; (omega); (cases hm)))
  obtain ⟨Az6_0, Cz6_0, ez6_0⟩ := _qz6_0.val
  subst ez6_0
  have lz6_0 := _qz6_0.len
  have hiz6_0 := _qz6_0.lt
  have _loz6_0 : Lo _w_5.heap.size (.slice Az6_0 ([] ++ x.flat).length Cz6_0) := fun g hm => by rcases _inz6_0 _ hm with _z1 | _z1; (omega); (rcases List.mem_cons.1 _z1 with _z1 | _z1; (exact absurd (_z1 ▸ hm) _nbz6_0); (replace hm := _z1; cases hm))
  replace _m6 : Blk _w_9 _b3 29 [(.slice Az6_0 ([] ++ x.flat).length Cz6_0)] := _m6
  refine WL_nil ?_
  refine thn_nrm (_hK_7 _ _ ?_)
  clear _hK_7
  refine W_seq fun _K_10 _hK_10 => ?_
  refine W_region ?_
  refine WL_step rfl rfl (r_loadAtA0 _m6.at_ agg29 sz29 rfl) ?_
  refine WL_s rfl rfl ?_
  have _f_11 := (((_m2.ch0 _cw_4).ch _cw_5 (fun hm => by have _h1 := List.mem_singleton.1 hm; omega)).ch _cw_9 (fun hm => by rcases List.mem_cons.1 hm with _h0 | hm; (omega); (cases hm)))
  refine s_storeA (off := 0) 1 _f_11 sz29 rfl (us := [(.slice Az6_0 ([] ++ x.flat).length Cz6_0)]) rfl rfl rfl rfl fun _w_12 _m_13 _cw_12 => ?_
  have _cw_12z := _cw_12.size
  have E := E.step _cw_12 (fun i hi => .inl (by have _h1 := List.mem_singleton.1 hi; omega))
  replace _m_13 : Blk _w_12 _b2 29 [(.slice Az6_0 ([] ++ x.flat).length Cz6_0)] := _m_13
  refine WL_nil ?_
  refine thn_nrm (_hK_10 _ _ ?_)
  clear _hK_10
  refine W_ret ?_
  have _f_15 := (_qz6_0.ch _cw_12 (fun g hg hm => by have _h0 := List.mem_singleton.1 hm; rcases _inz6_0 _ hg with _z1 | _z1; (omega); (rcases List.mem_cons.1 _z1 with _z1 | _z1; (exact absurd (_z1 ▸ hg) _nbz6_0); (replace hg := _z1; cases hg))))
  have _o_14 : Ol Token.cs 57 4 _w_12 (.slice Az6_0 ([] ++ x.flat).length Cz6_0) (x.flat) := by
    have hx := _f_15
    simpa using hx
  exact ret_intro [_] (resOf_loadA _m_13 rfl agg29 sz29 trivial) ⟨_, rfl, _o_14, Lo.down _loz6_0 (by omega), E⟩

/-- impl.within -/
theorem c_impl_within {w : World} (n : Int) (a : Int) (b : Int) :
    Ctr Try.prog 92 #[(.int .i64 n), (.int .i64 a), (.int .i64 b)] w (fun v w' => v = .bool (decide (a ≤ n ∧ n ≤ b)) ∧ Ch [] w w') := by
  have E := Ch.refl [] w
  refine Ctr_of_W (N := 15) (vs0 := [(.int .i64 n), (.int .i64 a), (.int .i64 b)]) Try.func92 rfl rfl rfl ?_
  refine W_seq fun _K_1 _hK_1 => ?_
  refine W_region ?_
  refine WL_step rfl rfl (r_assign rfl) ?_
  refine WL_nil ?_
  refine thn_nrm (_hK_1 _ _ ?_)
  clear _hK_1
  refine W_seq fun _K_2 _hK_2 => ?_
  refine W_region ?_
  refine WL_step rfl rfl (r_move rfl) ?_
  refine WL_step rfl rfl (r_move rfl) ?_
  refine WL_step rfl rfl (r_geq rfl rfl) ?_
  refine WL_step rfl rfl (r_move rfl) ?_
  refine WL_split (d := 10) rfl (fun _h10 => ?_) (fun _h10 => ?_)
  · have _kb_3 := _h10
    have _h10 := bt_d _h10
    refine WL_step rfl rfl (r_move rfl) ?_
    refine WL_step rfl rfl (r_move rfl) ?_
    refine WL_step rfl rfl (r_leq rfl rfl) ?_
    refine WL_step rfl rfl (r_pickT rfl rfl) ?_
    refine WL_step rfl rfl (r_assign rfl) ?_
    refine WL_nil ?_
    refine thn_nrm (_hK_2 _ _ ?_)
    clear _hK_2
    refine W_ret ?_
    exact ret_intro [_] ⟨rfl, trivial⟩ ⟨congrArg Value.bool (by first | rfl | (rw [Bool.eq_iff_iff]; simp <;> omega) | (rw [Bool.eq_iff_iff]; simp_all; done) | simp_all), E⟩
  · have _kb_3 := _h10
    have _h10 := bf_d _h10
    refine WL_skip rfl rfl ?_
    refine WL_skip rfl rfl ?_
    refine WL_skip rfl rfl ?_
    refine WL_step rfl rfl (r_pickF rfl rfl) ?_
    refine WL_step rfl rfl (r_assign rfl) ?_
    refine WL_nil ?_
    refine thn_nrm (_hK_2 _ _ ?_)
    clear _hK_2
    refine W_ret ?_
    exact ret_intro [_] ⟨rfl, trivial⟩ ⟨congrArg Value.bool (by first | rfl | (rw [Bool.eq_iff_iff]; simp <;> omega) | (rw [Bool.eq_iff_iff]; simp_all; done) | simp_all), E⟩

/-- impl.isLetter -/
theorem c_impl_isLetter {w : World} (n : Int) :
    Ctr Try.prog 64 #[(.int .i64 n)] w (fun v w' => v = .bool (decide (0 ≤ n ∧ n ≤ 8)) ∧ Ch [] w w') := by
  have E := Ch.refl [] w
  refine Ctr_of_W (N := 5) (vs0 := [(.int .i64 n)]) Try.func64 rfl rfl rfl ?_
  refine W_seq fun _K_1 _hK_1 => ?_
  refine W_region ?_
  refine WL_step rfl rfl (r_assign rfl) ?_
  refine WL_nil ?_
  refine thn_nrm (_hK_1 _ _ ?_)
  clear _hK_1
  refine W_seq fun _K_2 _hK_2 => ?_
  refine W_region ?_
  refine WL_step rfl rfl (r_move rfl) ?_
  refine WL_s rfl rfl ?_
  refine Step.call (r_call (xs := [.tmp 3, .const (Go.Value.int Go.IntKind.i64 0), .const (Go.Value.int Go.IntKind.i64 8)]) fk92 rfl) (c_impl_within _ _ _ ) fun _v4 _w_3 _q4 => ?_
  obtain ⟨rfl, _cw_3⟩ := _q4
  have _cw_3z := _cw_3.size
  have E := E.trans _cw_3
  refine WL_step rfl rfl (r_assign rfl) ?_
  refine WL_nil ?_
  refine thn_nrm (_hK_2 _ _ ?_)
  clear _hK_2
  refine W_ret ?_
  exact ret_intro [_] ⟨rfl, trivial⟩ ⟨congrArg Value.bool rfl, E⟩

/-- impl.tokenOk -/
theorem c_impl_tokenOk {w : World} (t : Token) :
    Ctr Try.prog 81 #[(.agg #[(.int .i64 t.kind), (.int .i64 t.letter), (.int .i64 t.low), (.int .i64 t.high)])] w (fun v w' => v = .bool (tokOk t) ∧ Ch [] w w') := by
  have E := Ch.refl [] w
  refine Ctr_of_W (N := 48) (vs0 := [(.agg #[(.int .i64 t.kind), (.int .i64 t.letter), (.int .i64 t.low), (.int .i64 t.high)])]) Try.func81 rfl rfl rfl ?_
  refine W_seq fun _K_1 _hK_1 => ?_
  refine W_region ?_
  refine WL_s rfl rfl ?_
  refine s_box rfl fun _b1 _w_2 _m1 _cw_2 _e1 => ?_
  have _cw_2z := _cw_2.size
  have E := E.trans _cw_2
  have _z1 := _m1.lt
  replace _m1 : Blk _w_2 _b1 57 [(.int .i64 t.kind), (.int .i64 t.letter), (.int .i64 t.low), (.int .i64 t.high)] := _m1
  refine WL_step rfl rfl (r_assign rfl) ?_
  refine WL_nil ?_
  refine thn_nrm (_hK_1 _ _ ?_)
  clear _hK_1
  refine W_seq fun _K_3 _hK_3 => ?_
  refine W_seq fun _K_4 _hK_4 => ?_
  refine W_region ?_
  refine WL_step rfl rfl (r_fieldAddr fa57_0 rfl) ?_
  refine WL_step rfl rfl (r_loadAt _m1.at_ agg3 rfl rfl) ?_
  refine WL_nil ?_
  refine thn_nrm (_hK_4 _ _ ?_)
  clear _hK_4
  refine W_block ?_
  refine W_seq fun _K_5 _hK_5 => ?_
  refine W_region ?_
  refine WL_step rfl rfl (r_eql rfl rfl) ?_
  refine WL_step rfl rfl (r_assign rfl) ?_
  refine WL_nil ?_
  refine thn_nrm (_hK_5 _ _ ?_)
  clear _hK_5
  refine W_cond rfl (fun _h5 => ?_) (fun _h5 => ?_)
  · have _kb_6 := _h5
    have _h5 := bt_d _h5
    refine W_seq fun _K_7 _hK_7 => ?_
    refine W_region ?_
    refine WL_step rfl rfl (r_fieldAddr fa57_1 rfl) ?_
    refine WL_step rfl rfl (r_loadAt _m1.at_ agg3 rfl rfl) ?_
    refine WL_s rfl rfl ?_
    refine Step.call (r_call (xs := [.tmp 8]) fk64 rfl) (c_impl_isLetter _ ) fun _v9 _w_8 _q9 => ?_
    obtain ⟨rfl, _cw_8⟩ := _q9
    have _cw_8z := _cw_8.size
    have E := E.trans _cw_8
    refine WL_step rfl rfl (r_move rfl) ?_
    refine WL_split (d := 10) rfl (fun _h10 => ?_) (fun _h10 => ?_)
    · have _kb_9 := _h10
      have _h10 := bt_d _h10
      refine WL_step rfl rfl (r_fieldAddr fa57_2 rfl) ?_
      have _f_10 := (_m1.ch0 _cw_8)
      refine WL_step rfl rfl (r_loadAt _f_10.at_ agg3 rfl rfl) ?_
      refine WL_step rfl rfl (r_eql rfl rfl) ?_
      refine WL_step rfl rfl (r_pickT rfl rfl) ?_
      refine WL_step rfl rfl (r_move rfl) ?_
      refine WL_split (d := 15) rfl (fun _h15 => ?_) (fun _h15 => ?_)
      · have _kb_11 := _h15
        have _h15 := bt_d _h15
        refine WL_step rfl rfl (r_fieldAddr fa57_3 rfl) ?_
        refine WL_step rfl rfl (r_loadAt _f_10.at_ agg3 rfl rfl) ?_
        refine WL_step rfl rfl (r_eql rfl rfl) ?_
        refine WL_step rfl rfl (r_pickT rfl rfl) ?_
        refine WL_step rfl rfl (r_assign rfl) ?_
        refine WL_nil ?_
        refine thn_nrm (_hK_7 _ _ ?_)
        clear _hK_7
        refine W_ret (inB_ret (thn_ret ?_))
        clear _hK_3
        exact ret_intro [_] ⟨rfl, trivial⟩ ⟨congrArg Value.bool (by rw [Bool.eq_iff_iff]; simp only [tokOk, decide_eq_true_eq, Bool.false_eq_true, false_iff, true_iff, Bool.and_eq_true, List.cons.injEq, and_true, true_and, Int.not_le]; unfold arT; (repeat' split) <;> omega), E⟩
      · have _kb_11 := _h15
        have _h15 := bf_d _h15
        refine WL_skip rfl rfl ?_
        refine WL_skip rfl rfl ?_
        refine WL_skip rfl rfl ?_
        refine WL_step rfl rfl (r_pickF rfl rfl) ?_
        refine WL_step rfl rfl (r_assign rfl) ?_
        refine WL_nil ?_
        refine thn_nrm (_hK_7 _ _ ?_)
        clear _hK_7
        refine W_ret (inB_ret (thn_ret ?_))
        clear _hK_3
        exact ret_intro [_] ⟨rfl, trivial⟩ ⟨congrArg Value.bool (by rw [Bool.eq_iff_iff]; simp only [tokOk, decide_eq_true_eq, Bool.false_eq_true, false_iff, true_iff, Bool.and_eq_true, List.cons.injEq, and_true, true_and, Int.not_le]; unfold arT; (repeat' split) <;> omega), E⟩
    · have _kb_9 := _h10
      have _h10 := bf_d _h10
      refine WL_skip rfl rfl ?_
      refine WL_skip rfl rfl ?_
      refine WL_skip rfl rfl ?_
      refine WL_step rfl rfl (r_pickF rfl rfl) ?_
      refine WL_step rfl rfl (r_move rfl) ?_
      refine WL_skip rfl rfl ?_
      refine WL_skip rfl rfl ?_
      refine WL_skip rfl rfl ?_
      refine WL_step rfl rfl (r_pickF rfl rfl) ?_
      refine WL_step rfl rfl (r_assign rfl) ?_
      refine WL_nil ?_
      refine thn_nrm (_hK_7 _ _ ?_)
      clear _hK_7
      refine W_ret (inB_ret (thn_ret ?_))
      clear _hK_3
      exact ret_intro [_] ⟨rfl, trivial⟩ ⟨congrArg Value.bool (by rw [Bool.eq_iff_iff]; simp only [tokOk, decide_eq_true_eq, Bool.false_eq_true, false_iff, true_iff, Bool.and_eq_true, List.cons.injEq, and_true, true_and, Int.not_le]; unfold arT; (repeat' split) <;> omega), E⟩
  · have _kb_6 := _h5
    have _h5 := bf_d _h5
    refine W_seq fun _K_12 _hK_12 => ?_
    refine W_region ?_
    refine WL_step rfl rfl (r_eql rfl rfl) ?_
    refine WL_step rfl rfl (r_assign rfl) ?_
    refine WL_nil ?_
    refine thn_nrm (_hK_12 _ _ ?_)
    clear _hK_12
    refine W_cond rfl (fun _h20 => ?_) (fun _h20 => ?_)
    · have _kb_13 := _h20
      have _h20 := bt_d _h20
      refine W_seq fun _K_14 _hK_14 => ?_
      refine W_region ?_
      refine WL_step rfl rfl (r_fieldAddr fa57_1 rfl) ?_
      refine WL_step rfl rfl (r_loadAt _m1.at_ agg3 rfl rfl) ?_
      refine WL_step rfl rfl (r_eql rfl rfl) ?_
      refine WL_step rfl rfl (r_move rfl) ?_
      refine WL_split (d := 25) rfl (fun _h25 => ?_) (fun _h25 => ?_)
      · have _kb_15 := _h25
        have _h25 := bt_d _h25
        refine WL_step rfl rfl (r_fieldAddr fa57_2 rfl) ?_
        refine WL_step rfl rfl (r_loadAt _m1.at_ agg3 rfl rfl) ?_
        refine WL_step rfl rfl (r_fieldAddr fa57_3 rfl) ?_
        refine WL_step rfl rfl (r_loadAt _m1.at_ agg3 rfl rfl) ?_
        refine WL_s rfl rfl ?_
        refine Step.call (r_call (xs := [.tmp 27, .const (Go.Value.int Go.IntKind.i64 0), .tmp 29]) fk92 rfl) (c_impl_within _ _ _ ) fun _v30 _w_16 _q30 => ?_
        obtain ⟨rfl, _cw_16⟩ := _q30
        have _cw_16z := _cw_16.size
        have E := E.trans _cw_16
        refine WL_step rfl rfl (r_pickT rfl rfl) ?_
        refine WL_step rfl rfl (r_move rfl) ?_
        refine WL_split (d := 32) rfl (fun _h32 => ?_) (fun _h32 => ?_)
        · have _kb_17 := _h32
          have _h32 := bt_d _h32
          refine WL_step rfl rfl (r_fieldAddr fa57_3 rfl) ?_
          have _f_18 := (_m1.ch0 _cw_16)
          refine WL_step rfl rfl (r_loadAt _f_18.at_ agg3 rfl rfl) ?_
          refine WL_s rfl rfl ?_
          refine Step.call (r_call (xs := [.tmp 34, .const (Go.Value.int Go.IntKind.i64 1), .const (Go.Value.int Go.IntKind.i64 3)]) fk92 rfl) (c_impl_within _ _ _ ) fun _v35 _w_19 _q35 => ?_
          obtain ⟨rfl, _cw_19⟩ := _q35
          have _cw_19z := _cw_19.size
          have E := E.trans _cw_19
          refine WL_step rfl rfl (r_pickT rfl rfl) ?_
          refine WL_step rfl rfl (r_assign rfl) ?_
          refine WL_nil ?_
          refine thn_nrm (_hK_14 _ _ ?_)
          clear _hK_14
          refine W_ret (inB_ret (thn_ret ?_))
          clear _hK_3
          exact ret_intro [_] ⟨rfl, trivial⟩ ⟨congrArg Value.bool (by rw [Bool.eq_iff_iff]; simp only [tokOk, decide_eq_true_eq, Bool.false_eq_true, false_iff, true_iff, Bool.and_eq_true, List.cons.injEq, and_true, true_and, Int.not_le]; unfold arT; (repeat' split) <;> omega), E⟩
        · have _kb_17 := _h32
          have _h32 := bf_d _h32
          refine WL_skip rfl rfl ?_
          refine WL_skip rfl rfl ?_
          refine WL_skip rfl rfl ?_
          refine WL_step rfl rfl (r_pickF rfl rfl) ?_
          refine WL_step rfl rfl (r_assign rfl) ?_
          refine WL_nil ?_
          refine thn_nrm (_hK_14 _ _ ?_)
          clear _hK_14
          refine W_ret (inB_ret (thn_ret ?_))
          clear _hK_3
          exact ret_intro [_] ⟨rfl, trivial⟩ ⟨congrArg Value.bool (by rw [Bool.eq_iff_iff]; simp only [tokOk, decide_eq_true_eq, Bool.false_eq_true, false_iff, true_iff, Bool.and_eq_true, List.cons.injEq, and_true, true_and, Int.not_le]; unfold arT; (repeat' split) <;> omega), E⟩
      · have _kb_15 := _h25
        have _h25 := bf_d _h25
        refine WL_skip rfl rfl ?_
        refine WL_skip rfl rfl ?_
        refine WL_skip rfl rfl ?_
        refine WL_skip rfl rfl ?_
        refine WL_skip rfl rfl ?_
        refine WL_step rfl rfl (r_pickF rfl rfl) ?_
        refine WL_step rfl rfl (r_move rfl) ?_
        refine WL_skip rfl rfl ?_
        refine WL_skip rfl rfl ?_
        refine WL_skip rfl rfl ?_
        refine WL_step rfl rfl (r_pickF rfl rfl) ?_
        refine WL_step rfl rfl (r_assign rfl) ?_
        refine WL_nil ?_
        refine thn_nrm (_hK_14 _ _ ?_)
        clear _hK_14
        refine W_ret (inB_ret (thn_ret ?_))
        clear _hK_3
        exact ret_intro [_] ⟨rfl, trivial⟩ ⟨congrArg Value.bool (by rw [Bool.eq_iff_iff]; simp only [tokOk, decide_eq_true_eq, Bool.false_eq_true, false_iff, true_iff, Bool.and_eq_true, List.cons.injEq, and_true, true_and, Int.not_le]; unfold arT; (repeat' split) <;> omega), E⟩
    · have _kb_13 := _h20
      have _h20 := bf_d _h20
      refine W_seq fun _K_20 _hK_20 => ?_
      refine W_seq fun _K_21 _hK_21 => ?_
      refine W_region ?_
      refine WL_step rfl rfl (r_eql rfl rfl) ?_
      refine WL_step rfl rfl (r_assign rfl) ?_
      refine WL_nil ?_
      refine thn_nrm (_hK_21 _ _ ?_)
      clear _hK_21
      refine W_cond rfl (fun _h37 => ?_) (fun _h37 => ?_)
      · have _kb_22 := _h37
        have _h37 := bt_d _h37
        refine W_skip ?_
        refine thn_nrm (_hK_20 _ _ ?_)
        clear _hK_20
        refine W_condTk rfl _kb_22 ?_
        refine W_seq fun _K_23 _hK_23 => ?_
        refine W_region ?_
        refine WL_step rfl rfl (r_loadAtA0 _m1.at_ agg57 sz57 rfl) ?_
        refine WL_step rfl rfl (r_fieldAddr fa57_0 rfl) ?_
        refine WL_step rfl rfl (r_loadAt _m1.at_ agg3 rfl rfl) ?_
        refine WL_step rfl rfl (r_build (parts := [(0, .tmp 45)]) (cells := [(.int .i64 t.kind), (.int .i64 0), (.int .i64 0), (.int .i64 0)]) zr57 pl57 rfl rfl) ?_
        refine WL_step rfl rfl (r_eqlI [t.kind, t.letter, t.low, t.high] [t.kind, 0, 0, 0] ist57 rfl rfl rfl) ?_
        refine WL_step rfl rfl (r_assign rfl) ?_
        refine WL_nil ?_
        refine thn_nrm (_hK_23 _ _ ?_)
        clear _hK_23
        refine W_ret (inB_ret (thn_ret ?_))
        clear _hK_3
        exact ret_intro [_] ⟨rfl, trivial⟩ ⟨congrArg Value.bool (by rw [Bool.eq_iff_iff]; simp only [tokOk, decide_eq_true_eq, Bool.false_eq_true, false_iff, true_iff, Bool.and_eq_true, List.cons.injEq, and_true, true_and, Int.not_le]; unfold arT; (repeat' split) <;> omega), E⟩
      · have _kb_22 := _h37
        have _h37 := bf_d _h37
        refine W_seq fun _K_24 _hK_24 => ?_
        refine W_region ?_
        refine WL_step rfl rfl (r_eql rfl rfl) ?_
        refine WL_step rfl rfl (r_assign rfl) ?_
        refine WL_nil ?_
        refine thn_nrm (_hK_24 _ _ ?_)
        clear _hK_24
        refine W_cond rfl (fun _h37 => ?_) (fun _h37 => ?_)
        · have _kb_25 := _h37
          have _h37 := bt_d _h37
          refine W_skip ?_
          refine thn_nrm (_hK_20 _ _ ?_)
          clear _hK_20
          refine W_condTk rfl _kb_25 ?_
          refine W_seq fun _K_26 _hK_26 => ?_
          refine W_region ?_
          refine WL_step rfl rfl (r_loadAtA0 _m1.at_ agg57 sz57 rfl) ?_
          refine WL_step rfl rfl (r_fieldAddr fa57_0 rfl) ?_
          refine WL_step rfl rfl (r_loadAt _m1.at_ agg3 rfl rfl) ?_
          refine WL_step rfl rfl (r_build (parts := [(0, .tmp 45)]) (cells := [(.int .i64 t.kind), (.int .i64 0), (.int .i64 0), (.int .i64 0)]) zr57 pl57 rfl rfl) ?_
          refine WL_step rfl rfl (r_eqlI [t.kind, t.letter, t.low, t.high] [t.kind, 0, 0, 0] ist57 rfl rfl rfl) ?_
          refine WL_step rfl rfl (r_assign rfl) ?_
          refine WL_nil ?_
          refine thn_nrm (_hK_26 _ _ ?_)
          clear _hK_26
          refine W_ret (inB_ret (thn_ret ?_))
          clear _hK_3
          exact ret_intro [_] ⟨rfl, trivial⟩ ⟨congrArg Value.bool (by rw [Bool.eq_iff_iff]; simp only [tokOk, decide_eq_true_eq, Bool.false_eq_true, false_iff, true_iff, Bool.and_eq_true, List.cons.injEq, and_true, true_and, Int.not_le]; unfold arT; (repeat' split) <;> omega), E⟩
        · have _kb_25 := _h37
          have _h37 := bf_d _h37
          refine W_seq fun _K_27 _hK_27 => ?_
          refine W_region ?_
          refine WL_step rfl rfl (r_eql rfl rfl) ?_
          refine WL_step rfl rfl (r_assign rfl) ?_
          refine WL_nil ?_
          refine thn_nrm (_hK_27 _ _ ?_)
          clear _hK_27
          refine W_cond rfl (fun _h37 => ?_) (fun _h37 => ?_)
          · have _kb_28 := _h37
            have _h37 := bt_d _h37
            refine W_skip ?_
            refine thn_nrm (_hK_20 _ _ ?_)
            clear _hK_20
            refine W_condTk rfl _kb_28 ?_
            refine W_seq fun _K_29 _hK_29 => ?_
            refine W_region ?_
            refine WL_step rfl rfl (r_loadAtA0 _m1.at_ agg57 sz57 rfl) ?_
            refine WL_step rfl rfl (r_fieldAddr fa57_0 rfl) ?_
            refine WL_step rfl rfl (r_loadAt _m1.at_ agg3 rfl rfl) ?_
            refine WL_step rfl rfl (r_build (parts := [(0, .tmp 45)]) (cells := [(.int .i64 t.kind), (.int .i64 0), (.int .i64 0), (.int .i64 0)]) zr57 pl57 rfl rfl) ?_
            refine WL_step rfl rfl (r_eqlI [t.kind, t.letter, t.low, t.high] [t.kind, 0, 0, 0] ist57 rfl rfl rfl) ?_
            refine WL_step rfl rfl (r_assign rfl) ?_
            refine WL_nil ?_
            refine thn_nrm (_hK_29 _ _ ?_)
            clear _hK_29
            refine W_ret (inB_ret (thn_ret ?_))
            clear _hK_3
            exact ret_intro [_] ⟨rfl, trivial⟩ ⟨congrArg Value.bool (by rw [Bool.eq_iff_iff]; simp only [tokOk, decide_eq_true_eq, Bool.false_eq_true, false_iff, true_iff, Bool.and_eq_true, List.cons.injEq, and_true, true_and, Int.not_le]; unfold arT; (repeat' split) <;> omega), E⟩
          · have _kb_28 := _h37
            have _h37 := bf_d _h37
            refine W_seq fun _K_30 _hK_30 => ?_
            refine W_region ?_
            refine WL_step rfl rfl (r_eql rfl rfl) ?_
            refine WL_step rfl rfl (r_assign rfl) ?_
            refine WL_nil ?_
            refine thn_nrm (_hK_30 _ _ ?_)
            clear _hK_30
            refine W_cond rfl (fun _h37 => ?_) (fun _h37 => ?_)
            · have _kb_31 := _h37
              have _h37 := bt_d _h37
              refine W_skip ?_
              refine thn_nrm (_hK_20 _ _ ?_)
              clear _hK_20
              refine W_condTk rfl _kb_31 ?_
              refine W_seq fun _K_32 _hK_32 => ?_
              refine W_region ?_
              refine WL_step rfl rfl (r_loadAtA0 _m1.at_ agg57 sz57 rfl) ?_
              refine WL_step rfl rfl (r_fieldAddr fa57_0 rfl) ?_
              refine WL_step rfl rfl (r_loadAt _m1.at_ agg3 rfl rfl) ?_
              refine WL_step rfl rfl (r_build (parts := [(0, .tmp 45)]) (cells := [(.int .i64 t.kind), (.int .i64 0), (.int .i64 0), (.int .i64 0)]) zr57 pl57 rfl rfl) ?_
              refine WL_step rfl rfl (r_eqlI [t.kind, t.letter, t.low, t.high] [t.kind, 0, 0, 0] ist57 rfl rfl rfl) ?_
              refine WL_step rfl rfl (r_assign rfl) ?_
              refine WL_nil ?_
              refine thn_nrm (_hK_32 _ _ ?_)
              clear _hK_32
              refine W_ret (inB_ret (thn_ret ?_))
              clear _hK_3
              exact ret_intro [_] ⟨rfl, trivial⟩ ⟨congrArg Value.bool (by rw [Bool.eq_iff_iff]; simp only [tokOk, decide_eq_true_eq, Bool.false_eq_true, false_iff, true_iff, Bool.and_eq_true, List.cons.injEq, and_true, true_and, Int.not_le]; unfold arT; (repeat' split) <;> omega), E⟩
            · have _kb_31 := _h37
              have _h37 := bf_d _h37
              refine W_region ?_
              refine WL_step rfl rfl (r_eql rfl rfl) ?_
              refine WL_step rfl rfl (r_assign rfl) ?_
              refine WL_nil ?_
              refine thn_nrm (_hK_20 _ _ ?_)
              clear _hK_20
              refine W_cond rfl (fun _h37 => ?_) (fun _h37 => ?_)
              · have _kb_33 := _h37
                have _h37 := bt_d _h37
                refine W_seq fun _K_34 _hK_34 => ?_
                refine W_region ?_
                refine WL_step rfl rfl (r_loadAtA0 _m1.at_ agg57 sz57 rfl) ?_
                refine WL_step rfl rfl (r_fieldAddr fa57_0 rfl) ?_
                refine WL_step rfl rfl (r_loadAt _m1.at_ agg3 rfl rfl) ?_
                refine WL_step rfl rfl (r_build (parts := [(0, .tmp 45)]) (cells := [(.int .i64 t.kind), (.int .i64 0), (.int .i64 0), (.int .i64 0)]) zr57 pl57 rfl rfl) ?_
                refine WL_step rfl rfl (r_eqlI [t.kind, t.letter, t.low, t.high] [t.kind, 0, 0, 0] ist57 rfl rfl rfl) ?_
                refine WL_step rfl rfl (r_assign rfl) ?_
                refine WL_nil ?_
                refine thn_nrm (_hK_34 _ _ ?_)
                clear _hK_34
                refine W_ret (inB_ret (thn_ret ?_))
                clear _hK_3
                exact ret_intro [_] ⟨rfl, trivial⟩ ⟨congrArg Value.bool (by rw [Bool.eq_iff_iff]; simp only [tokOk, decide_eq_true_eq, Bool.false_eq_true, false_iff, true_iff, Bool.and_eq_true, List.cons.injEq, and_true, true_and, Int.not_le]; unfold arT; (repeat' split) <;> omega), E⟩
              · have _kb_33 := _h37
                have _h37 := bf_d _h37
                refine W_skip ?_
                refine inB_nrm ?_
                refine thn_nrm (_hK_3 _ _ ?_)
                clear _hK_3
                refine W_seq fun _K_35 _hK_35 => ?_
                refine W_region ?_
                refine WL_step rfl rfl (r_assign rfl) ?_
                refine WL_nil ?_
                refine thn_nrm (_hK_35 _ _ ?_)
                clear _hK_35
                refine W_ret ?_
                exact ret_intro [_] ⟨rfl, trivial⟩ ⟨congrArg Value.bool (by rw [Bool.eq_iff_iff]; simp only [tokOk, decide_eq_true_eq, Bool.false_eq_true, false_iff, true_iff, Bool.and_eq_true, List.cons.injEq, and_true, true_and, Int.not_le]; unfold arT; (repeat' split) <;> omega), E⟩

/-- slices.Clone[[]*impl.tree,*impl.tree] -/
theorem c_slices_Clone_impl_tree_impl_tree {w : World} {LL_s _B_s : Nat} {_v_s : Value} {s : List Addr} (_h_s : Ls acs 1 w LL_s _B_s _v_s s) (hb : s.length ≤ 1048576) :
    Ctr Try.prog 82 #[_v_s] w (fun v w' => Ol acs 59 1 w' v (s) ∧ Lo w.heap.size v ∧ Ch [] w w') := by
  obtain ⟨_A_s, _C_s, _e1_s⟩ := _h_s.val
  subst _e1_s
  have _l_s := _h_s.len
  have _h_s := _h_s.here (by decide)
  have E := Ch.refl [] w
  refine Ctr_of_W (N := 8) (vs0 := [(.slice _A_s s.length _C_s)]) Try.func82 rfl rfl rfl ?_
  refine W_seq fun _K_1 _hK_1 => ?_
  refine W_region ?_
  refine WL_step rfl rfl (r_assign rfl) ?_
  refine WL_nil ?_
  refine thn_nrm (_hK_1 _ _ ?_)
  clear _hK_1
  refine W_seq fun _K_2 _hK_2 => ?_
  refine W_seq fun _K_3 _hK_3 => ?_
  refine W_region ?_
  refine WL_step rfl rfl (r_move rfl) ?_
  refine WL_step rfl rfl (r_eqNil (by rw [el66]; rfl) rfl rfl) ?_
  refine WL_nil ?_
  refine thn_nrm (_hK_3 _ _ ?_)
  clear _hK_3
  refine W_cond rfl (fun _h4 => ?_) (fun _h4 => ?_)
  · have _kb_4 := _h4
    refine W_seq fun _K_5 _hK_5 => ?_
    refine W_region ?_
    refine WL_step rfl rfl (r_assign rfl) ?_
    refine WL_nil ?_
    refine thn_nrm (_hK_5 _ _ ?_)
    clear _hK_5
    refine W_ret (thn_ret ?_)
    clear _hK_2
    have _o_6 : Ol acs 59 1 w (.slice none 0 0) (s) := by
      have hx := (Ol.nil (cs := acs) (e := 59) (k := 1) w)
      first | (have hn := Ls.none _h_s _h4; subst hn; exact hx) | exact hx
    exact ret_intro [_] ⟨rfl, trivial⟩ ⟨_o_6, Lo.nil _, E⟩
  · have _kb_4 := _h4
    refine W_skip ?_
    refine thn_nrm (_hK_2 _ _ ?_)
    clear _hK_2
    refine W_seq fun _K_7 _hK_7 => ?_
    refine W_region ?_
    refine WL_s rfl rfl ?_
    refine s_buildSlice0 (k := 1) acs el66 sz59 fun _v5 _w_8 _q5 _lo5 _cw_8 => ?_
    have _cw_8z := _cw_8.size
    have E := E.trans _cw_8
    obtain ⟨_Av5, _Cv5, _ev5⟩ := _q5.val
    subst _ev5
    have _lv5 := _q5.len
    have _hiv5 := _q5.lt
    refine WL_step rfl rfl (r_move rfl) ?_
    refine WL_s rfl rfl ?_
    have _f_10 := (_h_s.ch0 _cw_8)
    refine s_append (cs := acs) el66 sz59 by59 zr59 rfl (by decide) acs_one _q5 _f_10 rfl rfl (by first | omega | (simp only [List.length_append, List.length_nil, List.length_cons, List.length_replicate, List.length_set, List.length_reverse, List.length_map] at *; omega) | (simp at *; omega)) (by first | omega | (simp only [List.length_append, List.length_nil, List.length_cons, List.length_replicate, List.length_set, List.length_reverse, List.length_map] at *; omega) | (simp at *; omega)) _lo5 (by omega) fun _v7 _w_9 _q7 _lo7 _ap7 _cw_9 => ?_
    have _cw_9z := _cw_9.size
    have E := E.step _cw_9 (fun i hi => .inl (by have _h1 := _lo5 _ hi; omega))
    replace _q7 : Ol acs 59 1 _w_9 _v7 s := _q7
    obtain ⟨_Av7, _Cv7, _ev7⟩ := _q7.val
    subst _ev7
    have _lv7 := _q7.len
    have _hiv7 := _q7.lt
    refine WL_step rfl rfl (r_assign rfl) ?_
    refine WL_nil ?_
    refine thn_nrm (_hK_7 _ _ ?_)
    clear _hK_7
    refine W_ret ?_
    have _o_11 : Ol acs 59 1 _w_9 (.slice _Av7 (s).length _Cv7) (s) := by
      have hx := _q7
      first | (have hn := Ls.none _h_s _h4; subst hn; exact hx) | exact hx
    exact ret_intro [_] ⟨rfl, trivial⟩ ⟨_o_11, Lo.down _lo7 (by omega), E⟩

/-- impl.treeOf -/
theorem c_impl_treeOf {w : World} {LL_e _B_e : Nat} {_v_e : Value} {e : List Token} (_h_e : Ls Token.cs 4 w LL_e _B_e _v_e e) (hb : e.length ≤ 1048576) :
    Ctr Try.prog 51 #[(.agg #[_v_e])] w (fun v w' => ((treeL e) = none ∧ v = .pointer none ∨ ∃ t p, (treeL e) = some t ∧ v = .pointer (some p) ∧ TrAt w' w.heap.size w'.heap.size p t) ∧ Ch [] w w') := by
  obtain ⟨_A_e, _C_e, _e1_e⟩ := _h_e.val
  subst _e1_e
  have _l_e := _h_e.len
  have _h_e := _h_e.here (by decide)
  have E := Ch.refl [] w
  refine Ctr_of_W (N := 56) (vs0 := [(.agg #[(.slice _A_e e.length _C_e)])]) Try.func51 rfl rfl rfl ?_
  refine W_seq fun _K_1 _hK_1 => ?_
  refine W_region ?_
  refine WL_s rfl rfl ?_
  refine s_box rfl fun _b1 _w_2 _m1 _cw_2 _e1 => ?_
  have _cw_2z := _cw_2.size
  have E := E.trans _cw_2
  have _z1 := _m1.lt
  replace _m1 : Blk _w_2 _b1 29 [(.slice _A_e e.length _C_e)] := _m1
  refine WL_step rfl rfl (r_assign rfl) ?_
  refine WL_nil ?_
  refine thn_nrm (_hK_1 _ _ ?_)
  clear _hK_1
  refine W_seq fun _K_3 _hK_3 => ?_
  refine W_region ?_
  refine WL_s rfl rfl ?_
  refine s_buildSlice0 (k := 1) acs el66 sz59 fun _v9 _w_4 _q9 _lo9 _cw_4 => ?_
  have _cw_4z := _cw_4.size
  have E := E.trans _cw_4
  obtain ⟨_Av9, _Cv9, _ev9⟩ := _q9.val
  subst _ev9
  have _lv9 := _q9.len
  have _hiv9 := _q9.lt
  refine WL_step rfl rfl (r_assign rfl) ?_
  refine WL_nil ?_
  refine thn_nrm (_hK_3 _ _ ?_)
  clear _hK_3
  refine W_seq fun _K_5 _hK_5 => ?_
  refine W_seq fun _K_6 _hK_6 => ?_
  refine W_region ?_
  refine WL_step rfl rfl (r_fieldAddr fa29_0 rfl) ?_
  have _f_7 := (_m1.ch0 _cw_4)
  refine WL_step rfl rfl (r_loadAt _f_7.at_ agg27 rfl rfl) ?_
  refine WL_step rfl rfl (r_len (by rw [el27]; rfl) rfl) ?_
  refine WL_step rfl rfl (r_move rfl) ?_
  refine WL_nil ?_
  refine thn_nrm (_hK_6 _ _ ?_)
  clear _hK_6
  refine W_block ?_
  have _oi_8 : Ol acs 59 1 _w_4 (.slice _Av9 (([] : List Addr)).length _Cv9) (([] : List Addr)) := by
    have hx := _q9
    exact hx
  refine W_loop (σ := Nat × List Addr × List Tr × Value) (fun ⟨i, ps, st, sv⟩ => [(3, sv), (11, (.slice _A_e e.length _C_e)), (12, (.int .i64 ((e.length : Nat) : Int))), (13, (.int .i64 ((i : Nat) : Int)))]) (fun ⟨i, ps, st, sv⟩ wx => Ch [] w wx ∧ _w_4.heap.size ≤ wx.heap.size ∧ (i ≤ e.length) ∧ (ps.length = st.length) ∧ (st.length ≤ i) ∧ (prs [] (e.take i) = some st) ∧ Ol acs 59 1 wx sv ps ∧ Lo _w_2.heap.size sv ∧ Tks wx w.heap.size sv ps st) (fun ⟨i, ps, st, sv⟩ => e.length - i) (0, ([] : List Addr), ([] : List Tr), (.slice _Av9 (([] : List Addr)).length _Cv9)) (Sub.cons rfl (Sub.cons rfl (Sub.cons rfl (Sub.cons rfl (Sub.nil _))))) ⟨E, (Nat.le_refl _), (by omega), rfl, (Nat.le_refl _), rfl, _oi_8, _lo9, (Tks.nil _ _ _)⟩ ?_
  rintro ⟨i, ps, st, sv⟩ _wr_9 ⟨E, _zz0, hi, hl, hs, hp, _o0_3, _lo0_3, tks⟩
  have _E0h := E
  have _E0hz := _E0h.size
  obtain ⟨Asv, Csv, esv⟩ := _o0_3.val
  subst esv
  have lsv := _o0_3.len
  have hisv := _o0_3.lt
  refine W_seq fun _K_10 _hK_10 => ?_
  refine W_region ?_
  refine WL_step rfl rfl (r_lss rfl rfl) ?_
  refine WL_nil ?_
  refine thn_nrm (_hK_10 _ _ ?_)
  clear _hK_10
  refine W_seq fun _K_11 _hK_11 => ?_
  refine W_cond rfl (fun _h14 => ?_) (fun _h14 => ?_)
  · have _kb_12 := _h14
    have _h14 := bt_d _h14
    refine W_skip ?_
    refine thn_nrm (_hK_11 _ _ ?_)
    clear _hK_11
    refine W_seq fun _K_13 _hK_13 => ?_
    refine W_block ?_
    refine W_seq fun _K_14 _hK_14 => ?_
    refine W_region ?_
    refine WL_s rfl rfl ?_
    have _f_15 := (_h_e.ch0 _E0h)
    refine (s_index _f_15 Token.len el27 sz57 rfl rfl rfl (by omega) fun _p15 _y15 _hy15 _a15 => ?_)
    have k15 := arK_rng _y15.kind
    refine WL_step rfl rfl (r_loadAtA0 _a15 agg57 sz57 rfl) ?_
    refine WL_s rfl rfl ?_
    refine s_alloc zr57 fun _b5 _w_16 _m5 _cw_16 _e5 => ?_
    have _cw_16z := _cw_16.size
    have E := E.trans _cw_16
    have _z5 := _m5.lt
    replace _m5 : Blk _w_16 _b5 57 [(.int .i64 0), (.int .i64 0), (.int .i64 0), (.int .i64 0)] := _m5
    refine WL_s rfl rfl ?_
    refine s_storeA (off := 0) 4 _m5 sz57 rfl (us := [(.int .i64 _y15.kind), (.int .i64 _y15.letter), (.int .i64 _y15.low), (.int .i64 _y15.high)]) rfl rfl rfl rfl fun _w_17 _m_18 _cw_17 => ?_
    have _cw_17z := _cw_17.size
    have E := E.step _cw_17 (fun i hi => .inl (by have _h1 := List.mem_singleton.1 hi; omega))
    replace _m_18 : Blk _w_17 _b5 57 [(.int .i64 _y15.kind), (.int .i64 _y15.letter), (.int .i64 _y15.low), (.int .i64 _y15.high)] := _m_18
    refine WL_nil ?_
    refine thn_nrm (_hK_14 _ _ ?_)
    clear _hK_14
    refine W_seq fun _K_19 _hK_19 => ?_
    refine W_region ?_
    refine WL_step rfl rfl (r_assign rfl) ?_
    refine WL_nil ?_
    refine thn_nrm (_hK_19 _ _ ?_)
    clear _hK_19
    refine W_seq fun _K_20 _hK_20 => ?_
    have _J_21 : ∀ (lj : KL), Go.KLib.Sub [(3, (.slice Asv (ps).length Csv)), (5, (.pointer (some ⟨_b5, 0, none⟩))), (6, (.int .i64 (arK _y15.kind))), (11, (.slice _A_e e.length _C_e)), (12, (.int .i64 ((e.length : Nat) : Int))), (13, (.int .i64 ((i : Nat) : Int))), (14, (.bool (decide (((i : Nat) : Int) < ((e.length : Nat) : Int))))), (15, (.pointer (some _p15))), (16, (.agg #[(.int .i64 _y15.kind), (.int .i64 _y15.letter), (.int .i64 _y15.low), (.int .i64 _y15.high)]))] lj → _K_20 lj _w_17 := by
      intro lj _jsub
      refine _hK_20 _ _ (W_sub _jsub ?_)
      clear _hK_20
      refine W_seq fun _K_22 _hK_22 => ?_
      refine W_region ?_
      refine WL_step rfl rfl (r_move rfl) ?_
      refine WL_step rfl rfl (r_len (by rw [el66]; rfl) rfl) ?_
      refine WL_step rfl rfl (r_move rfl) ?_
      refine WL_step rfl rfl (r_sub (by omega) rfl rfl) ?_
      refine WL_step rfl rfl (r_assign rfl) ?_
      refine WL_nil ?_
      refine thn_nrm (_hK_22 _ _ ?_)
      clear _hK_22
      refine W_seq fun _K_23 _hK_23 => ?_
      refine W_seq fun _K_24 _hK_24 => ?_
      refine W_region ?_
      refine WL_step rfl rfl (r_loadAtA0 _m_18.at_ agg57 sz57 rfl) ?_
      refine WL_s rfl rfl ?_
      refine Step.call (r_call (xs := [.tmp 29]) fk81 rfl) (c_impl_tokenOk _y15 ) fun _v30 _w_25 _q30 => ?_
      obtain ⟨rfl, _cw_25⟩ := _q30
      have _cw_25z := _cw_25.size
      have E := E.trans _cw_25
      refine WL_step rfl rfl (r_not rfl) ?_
      refine WL_step rfl rfl (r_move rfl) ?_
      refine WL_split (d := 32) rfl (fun _h32 => ?_) (fun _h32 => ?_)
      · have _kb_26 := _h32
        have _h32 := bt_n _h32
        refine WL_skip rfl rfl ?_
        refine WL_skip rfl rfl ?_
        refine WL_step rfl rfl (r_pickT rfl rfl) ?_
        refine WL_nil ?_
        refine thn_nrm (_hK_24 _ _ ?_)
        clear _hK_24
        refine W_condT rfl ?_
        refine W_seq fun _K_27 _hK_27 => ?_
        refine W_region ?_
        refine WL_step rfl rfl (r_assign rfl) ?_
        refine WL_nil ?_
        refine thn_nrm (_hK_27 _ _ ?_)
        clear _hK_27
        refine W_ret (thn_ret (inB_ret (thn_ret (thn_ret (inB_ret (thn_ret ?_))))))
        clear _hK_5 _hK_13 _hK_23
        exact ret_intro [_] ⟨rfl, trivial⟩ ⟨.inl ⟨(by first | exact treeL_none hp (by omega) (by omega) | exact isE_no hp _hy15 (push_bad (by first | exact .inl _h32 | (right; omega)))), rfl⟩, E⟩
      · have _kb_26 := _h32
        have _h32 := bf_n _h32
        refine WL_step rfl rfl (r_move rfl) ?_
        refine WL_step rfl rfl (r_lss rfl rfl) ?_
        refine WL_step rfl rfl (r_pickF rfl rfl) ?_
        refine WL_nil ?_
        refine thn_nrm (_hK_24 _ _ ?_)
        clear _hK_24
        refine W_cond rfl (fun _h35 => ?_) (fun _h35 => ?_)
        · have _kb_28 := _h35
          have _h35 := bt_d _h35
          refine W_seq fun _K_29 _hK_29 => ?_
          refine W_region ?_
          refine WL_step rfl rfl (r_assign rfl) ?_
          refine WL_nil ?_
          refine thn_nrm (_hK_29 _ _ ?_)
          clear _hK_29
          refine W_ret (thn_ret (inB_ret (thn_ret (thn_ret (inB_ret (thn_ret ?_))))))
          clear _hK_5 _hK_13 _hK_23
          exact ret_intro [_] ⟨rfl, trivial⟩ ⟨.inl ⟨(by first | exact treeL_none hp (by omega) (by omega) | exact isE_no hp _hy15 (push_bad (by first | exact .inl _h32 | (right; omega)))), rfl⟩, E⟩
        · have _kb_28 := _h35
          have _h35 := bf_d _h35
          refine W_skip ?_
          refine thn_nrm (_hK_23 _ _ ?_)
          clear _hK_23
          refine W_seq fun _K_30 _hK_30 => ?_
          refine W_drawC [] 8 mixed rfl fun _w_31 _cw_31 => ?_
          have _cw_31z := _cw_31.size
          have E := E.trans _cw_31
          have _f_32 := ((_m_18.ch0 _cw_25).ch0 _cw_31)
          refine DR_s 0 rfl (by kernel_rfl) rfl rfl (t_loadAtA0 _f_32.at_ (fun i hi => absurd hi List.not_mem_nil) agg57 sz57 rfl ?_)
          refine DR_s 1 rfl (by kernel_rfl) rfl rfl (t_v (fun _ => (r_move rfl)) ?_)
          refine DR_s 2 rfl (by kernel_rfl) rfl rfl (t_v (fun _ => (r_move rfl)) ?_)
          have _f_33 := ((((_o0_3.ch0 _cw_16).ch _cw_17 (fun g hg hm => by have _h0 := List.mem_singleton.1 hm; have _h2 := _lo0_3 _ hg; have _h3 := hisv _ hg; omega)).ch0 _cw_25).ch0 _cw_31)
          refine DR_s 3 rfl (by kernel_rfl) rfl rfl (t_cutO (ys := (ps.drop ((((ps.length : Nat) : Int) - (arK _y15.kind)).toNat))) ((((ps.length : Nat) : Int) - (arK _y15.kind)).toNat) ps.length _f_33 acs_len el66 sz59 rfl ⟨_, _, rfl, by omega⟩ rfl (by omega) (by omega) (cut_all _ _) fun _v39 _q39 _bb39 _ln39 => ?_)
          obtain ⟨_A39, _C39, _e39⟩ := _q39.val
          subst _e39
          have _l39 := _q39.len
          have hi39 := _q39.lt
          refine DR_one 4 (by kernel_rfl) ?_
          refine DO_s rfl rfl rfl ?_
          refine Step.call (r_call (xs := [.tmp 39]) fk82 rfl) (c_slices_Clone_impl_tree_impl_tree _q39.ls (by omega)) fun _v40 _w_34 _q40 => ?_
          obtain ⟨_q40, _lo40, _cw_34⟩ := _q40
          have _cw_34z := _cw_34.size
          have E := E.trans _cw_34
          obtain ⟨_Av40, _Cv40, _ev40⟩ := _q40.val
          subst _ev40
          have _lv40 := _q40.len
          have _hiv40 := _q40.lt
          have _S_35 : Ch [] _w_31 _w_34 := ((Ch.refl _ _).trans _cw_34)
          refine ⟨_S_35, ?_⟩
          refine DR_s 5 rfl (by kernel_rfl) rfl rfl (t_v (fun _ => (r_build (parts := [(0, .tmp 36), (1, .tmp 40)]) (cells := [(.int .i64 _y15.kind), (.int .i64 _y15.letter), (.int .i64 _y15.low), (.int .i64 _y15.high), (.slice _Av40 ((ps.drop ((((ps.length : Nat) : Int) - (arK _y15.kind)).toNat))).length _Cv40)]) zr68 pl68 rfl rfl)) ?_)
          refine DR_one 6 (by kernel_rfl) ?_
          refine DO_s rfl rfl rfl ?_
          refine s_box rfl fun _b42 _w_36 _m42 _cw_36 _e42 => ?_
          have _cw_36z := _cw_36.size
          have E := E.trans _cw_36
          have _z42 := _m42.lt
          replace _m42 : Blk _w_36 _b42 68 [(.int .i64 _y15.kind), (.int .i64 _y15.letter), (.int .i64 _y15.low), (.int .i64 _y15.high), (.slice _Av40 ((ps.drop ((((ps.length : Nat) : Int) - (arK _y15.kind)).toNat))).length _Cv40)] := _m42
          have _S_37 : Ch [] _w_31 _w_36 := (_S_35.trans _cw_36)
          refine ⟨_S_37, ?_⟩
          refine DR_s 7 rfl (by kernel_rfl) rfl rfl (t_v (fun _ => (r_assign rfl)) ?_)
          refine DR_done (by kernel_rfl) ?_
          refine thn_nrm (_hK_30 _ _ ?_)
          clear _hK_30
          refine W_region ?_
          refine WL_step rfl rfl (r_move rfl) ?_
          refine WL_step rfl rfl (r_move rfl) ?_
          refine WL_s rfl rfl ?_
          have _f_38 := ((_f_33.ch0 _cw_34).ch0 _cw_36)
          refine (s_cutO (ys := (ps.take ((((ps.length : Nat) : Int) - (arK _y15.kind)).toNat))) 0 ((((ps.length : Nat) : Int) - (arK _y15.kind)).toNat) _f_38 acs_len el66 sz59 rfl rfl ⟨_, _, rfl, by omega⟩ (by omega) (by omega) rfl fun _v45 _q45 _bb45 _ln45 => ?_)
          obtain ⟨_A45, _C45, _e45⟩ := _q45.val
          subst _e45
          have _l45 := _q45.len
          have hi45 := _q45.lt
          refine WL_step rfl rfl (r_move rfl) ?_
          refine WL_s rfl rfl ?_
          refine s_buildSliceP (parts := [(0, .tmp 46)]) [(⟨_b42, 0, none⟩ : Addr)] el66 sz59 zr59 rfl rfl (by decide) (by decide) rfl fun _v47 _w_39 _q47 _lo47 _cw_39 => ?_
          have _cw_39z := _cw_39.size
          have E := E.trans _cw_39
          obtain ⟨_Av47, _Cv47, _ev47⟩ := _q47.val
          subst _ev47
          have _lv47 := _q47.len
          have _hiv47 := _q47.lt
          refine WL_s rfl rfl ?_
          have _f_41 := (_q45.ch0 _cw_39)
          refine s_append (cs := acs) el66 sz59 by59 zr59 rfl (by decide) acs_one _f_41 _q47.ls rfl rfl (by first | omega | (simp only [List.length_append, List.length_nil, List.length_cons, List.length_replicate, List.length_set, List.length_reverse, List.length_map] at *; omega) | (simp at *; omega)) (by first | omega | (simp only [List.length_append, List.length_nil, List.length_cons, List.length_replicate, List.length_set, List.length_reverse, List.length_map] at *; omega) | (simp at *; omega)) (fun g hg => _lo0_3 g (_bb45 ▸ hg)) (by omega) fun _v48 _w_40 _q48 _lo48 _ap48 _cw_40 => ?_
          have _cw_40z := _cw_40.size
          have E := E.step _cw_40 (fun i hi => .inl (by have _h1 := (fun g hg => _lo0_3 g (_bb45 ▸ hg)) _ hi; omega))
          obtain ⟨_Av48, _Cv48, _ev48⟩ := _q48.val
          subst _ev48
          have _lv48 := _q48.len
          have _hiv48 := _q48.lt
          refine WL_step rfl rfl (r_assign rfl) ?_
          refine WL_nil ?_
          refine inB_nrm ?_
          refine thn_nrm (_hK_13 _ _ ?_)
          clear _hK_13
          refine W_region ?_
          refine WL_step rfl rfl (r_add (by omega) rfl rfl) ?_
          refine WL_step rfl rfl (r_move rfl) ?_
          refine WL_nil ?_
          have _f_42 := (_m42.ch0 _cw_39)
          have _f_43 := ((_q40.ch0 _cw_36).ch0 _cw_39)
          obtain ⟨s2, _p2, k2, j2⟩ := Tks.push (tok := _y15) tks (by omega) hisv ((((((((Ch.refl [] _wr_9).trans _cw_16).step _cw_17 (fun i hi => .inl (by have _h1 := List.mem_singleton.1 hi; omega))).trans _cw_25).trans _cw_31).trans _cw_34).trans _cw_36).trans _cw_39) _f_42 (by omega) _f_43 (fun g hg => by have _h1 := _lo40 g hg; omega) _bb45 _cw_40 _ap48 (bt_d _h32) (by omega)
          have _on_44 : Ol acs 59 1 _w_40 (.slice _Av48 (((ps.take ((((ps.length : Nat) : Int) - (arK _y15.kind)).toNat)) ++ [(⟨_b42, 0, none⟩ : Addr)])).length _Cv48) (((ps.take ((((ps.length : Nat) : Int) - (arK _y15.kind)).toNat)) ++ [(⟨_b42, 0, none⟩ : Addr)])) := by
            have hx := _q48
            exact hx
          exact thn_nrm (Exists.intro ((i + 1), ((ps.take ((((ps.length : Nat) : Int) - (arK _y15.kind)).toNat)) ++ [(⟨_b42, 0, none⟩ : Addr)]), s2, (.slice _Av48 (((ps.take ((((ps.length : Nat) : Int) - (arK _y15.kind)).toNat)) ++ [(⟨_b42, 0, none⟩ : Addr)])).length _Cv48)) ⟨⟨E, (by omega), (by omega), (by simp only [List.length_append, List.length_take, List.length_singleton]; omega), (by omega), ((prs_snoc hp _hy15).trans _p2), _on_44, (Lo.down _lo48 (by omega)), k2⟩, Sub.cons rfl (Sub.cons rfl (Sub.cons rfl (Sub.cons rfl (Sub.nil _)))), (by first | omega | (dsimp only; omega))⟩)
    clear _hK_20
    refine W_seq fun _K_45 _hK_45 => ?_
    refine W_region ?_
    refine WL_step rfl rfl (r_fieldAddr fa57_0 rfl) ?_
    refine WL_step rfl rfl (r_loadAt _m_18.at_ agg3 rfl rfl) ?_
    refine WL_nil ?_
    refine thn_nrm (_hK_45 _ _ ?_)
    clear _hK_45
    refine W_block ?_
    refine W_seq fun _K_46 _hK_46 => ?_
    refine W_seq fun _K_47 _hK_47 => ?_
    refine W_region ?_
    refine WL_step rfl rfl (r_eql rfl rfl) ?_
    refine WL_step rfl rfl (r_assign rfl) ?_
    refine WL_nil ?_
    refine thn_nrm (_hK_47 _ _ ?_)
    clear _hK_47
    refine W_cond rfl (fun _h19 => ?_) (fun _h19 => ?_)
    · have _kb_48 := _h19
      have _h19 := bt_d _h19
      refine W_skip ?_
      refine thn_nrm (_hK_46 _ _ ?_)
      clear _hK_46
      refine W_condTk rfl _kb_48 ?_
      refine W_region ?_
      refine WL_step rfl rfl (r_assign rfl) ?_
      refine WL_nil ?_
      refine inB_nrm ?_
      refine thn_nrm ?_
      exact _J_21 _ (Sub.cons rfl (Sub.cons rfl (Sub.cons (by unfold arK; first | rfl | (repeat (first | rw [if_pos (by omega)] | rw [if_neg (by omega)])) <;> rfl) (Sub.cons rfl (Sub.cons rfl (Sub.cons rfl (Sub.cons rfl (Sub.cons rfl (Sub.cons rfl (Sub.nil _))))))))))
    · have _kb_48 := _h19
      have _h19 := bf_d _h19
      refine W_region ?_
      refine WL_step rfl rfl (r_eql rfl rfl) ?_
      refine WL_step rfl rfl (r_assign rfl) ?_
      refine WL_nil ?_
      refine thn_nrm (_hK_46 _ _ ?_)
      clear _hK_46
      refine W_cond rfl (fun _h19 => ?_) (fun _h19 => ?_)
      · have _kb_49 := _h19
        have _h19 := bt_d _h19
        refine W_region ?_
        refine WL_step rfl rfl (r_assign rfl) ?_
        refine WL_nil ?_
        refine inB_nrm ?_
        refine thn_nrm ?_
        exact _J_21 _ (Sub.cons rfl (Sub.cons rfl (Sub.cons (by unfold arK; first | rfl | (repeat (first | rw [if_pos (by omega)] | rw [if_neg (by omega)])) <;> rfl) (Sub.cons rfl (Sub.cons rfl (Sub.cons rfl (Sub.cons rfl (Sub.cons rfl (Sub.cons rfl (Sub.nil _))))))))))
      · have _kb_49 := _h19
        have _h19 := bf_d _h19
        refine W_seq fun _K_50 _hK_50 => ?_
        refine W_seq fun _K_51 _hK_51 => ?_
        refine W_region ?_
        refine WL_step rfl rfl (r_eql rfl rfl) ?_
        refine WL_step rfl rfl (r_assign rfl) ?_
        refine WL_nil ?_
        refine thn_nrm (_hK_51 _ _ ?_)
        clear _hK_51
        refine W_cond rfl (fun _h22 => ?_) (fun _h22 => ?_)
        · have _kb_52 := _h22
          have _h22 := bt_d _h22
          refine W_skip ?_
          refine thn_nrm (_hK_50 _ _ ?_)
          clear _hK_50
          refine W_condTk rfl _kb_52 ?_
          refine W_region ?_
          refine WL_step rfl rfl (r_assign rfl) ?_
          refine WL_nil ?_
          refine inB_nrm ?_
          refine thn_nrm ?_
          exact _J_21 _ (Sub.cons rfl (Sub.cons rfl (Sub.cons (by unfold arK; first | rfl | (repeat (first | rw [if_pos (by omega)] | rw [if_neg (by omega)])) <;> rfl) (Sub.cons rfl (Sub.cons rfl (Sub.cons rfl (Sub.cons rfl (Sub.cons rfl (Sub.cons rfl (Sub.nil _))))))))))
        · have _kb_52 := _h22
          have _h22 := bf_d _h22
          refine W_region ?_
          refine WL_step rfl rfl (r_eql rfl rfl) ?_
          refine WL_step rfl rfl (r_assign rfl) ?_
          refine WL_nil ?_
          refine thn_nrm (_hK_50 _ _ ?_)
          clear _hK_50
          refine W_cond rfl (fun _h22 => ?_) (fun _h22 => ?_)
          · have _kb_53 := _h22
            have _h22 := bt_d _h22
            refine W_region ?_
            refine WL_step rfl rfl (r_assign rfl) ?_
            refine WL_nil ?_
            refine inB_nrm ?_
            refine thn_nrm ?_
            exact _J_21 _ (Sub.cons rfl (Sub.cons rfl (Sub.cons (by unfold arK; first | rfl | (repeat (first | rw [if_pos (by omega)] | rw [if_neg (by omega)])) <;> rfl) (Sub.cons rfl (Sub.cons rfl (Sub.cons rfl (Sub.cons rfl (Sub.cons rfl (Sub.cons rfl (Sub.nil _))))))))))
          · have _kb_53 := _h22
            have _h22 := bf_d _h22
            refine W_skip ?_
            refine inB_nrm ?_
            refine thn_nrm ?_
            exact _J_21 _ (Sub.cons rfl (Sub.cons rfl (Sub.cons (by unfold arK; first | rfl | (repeat (first | rw [if_pos (by omega)] | rw [if_neg (by omega)])) <;> rfl) (Sub.cons rfl (Sub.cons rfl (Sub.cons rfl (Sub.cons rfl (Sub.cons rfl (Sub.cons rfl (Sub.nil _))))))))))
  · have _kb_12 := _h14
    have _h14 := bf_d _h14
    refine W_exit (thn_exit (thn_exit (inB_hit ?_)))
    refine thn_nrm (_hK_5 _ _ ?_)
    clear _hK_5
    refine W_seq fun _K_54 _hK_54 => ?_
    refine W_seq fun _K_55 _hK_55 => ?_
    refine W_region ?_
    refine WL_step rfl rfl (r_move rfl) ?_
    refine WL_step rfl rfl (r_len (by rw [el66]; rfl) rfl) ?_
    refine WL_step rfl rfl (r_neq rfl rfl) ?_
    refine WL_nil ?_
    refine thn_nrm (_hK_55 _ _ ?_)
    clear _hK_55
    refine W_cond rfl (fun _h52 => ?_) (fun _h52 => ?_)
    · have _kb_56 := _h52
      have _h52 := bf_d (bt_n _h52)
      refine W_seq fun _K_57 _hK_57 => ?_
      refine W_region ?_
      refine WL_step rfl rfl (r_assign rfl) ?_
      refine WL_nil ?_
      refine thn_nrm (_hK_57 _ _ ?_)
      clear _hK_57
      refine W_ret (thn_ret ?_)
      clear _hK_11 _hK_54
      exact ret_intro [_] ⟨rfl, trivial⟩ ⟨.inl ⟨(by first | exact treeL_none hp (by omega) (by omega) | exact isE_no hp _hy15 (push_bad (by first | exact .inl _h32 | (right; omega)))), rfl⟩, E⟩
    · have _kb_56 := _h52
      have _h52 := bt_d (bf_n _h52)
      refine W_skip ?_
      refine thn_nrm (_hK_54 _ _ ?_)
      clear _hK_54
      refine W_seq fun _K_58 _hK_58 => ?_
      refine W_region ?_
      refine WL_step rfl rfl (r_move rfl) ?_
      refine WL_s rfl rfl ?_
      refine (s_index (j := 0) _o0_3.ls acs_len el66 sz59 rfl rfl rfl (by omega) fun _p54 _y54 _hy54 _a54 => ?_)
      replace _a54 : At _wr_9 0 _wr_9.heap.size _p54 ([(.pointer (some _y54))]) := _a54
      obtain ⟨_t9, _e9, k9⟩ := tks.one (by omega) _hy54
      subst _e9
      refine WL_step rfl rfl (r_loadAt0 _a54 agg59 rfl rfl) ?_
      refine WL_step rfl rfl (r_assign rfl) ?_
      refine WL_nil ?_
      refine thn_nrm (_hK_58 _ _ ?_)
      clear _hK_58
      refine W_ret ?_
      clear _hK_11
      exact ret_intro [_] ⟨rfl, trivial⟩ ⟨.inr ⟨_, _, (treeL_some hp (by omega)), rfl, k9⟩, E⟩

/-- impl.SplitExpr -/
theorem c_impl_SplitExpr {w : World} {LL_e _B_e : Nat} {_v_e : Value} {e : List Token} (_h_e : Ls Token.cs 4 w LL_e _B_e _v_e e) (hb : e.length ≤ 1048576) :
    Ctr Try.prog 24 #[(.agg #[_v_e])] w (fun v w' => ∃ (u0x0 : Value) (u1x0 : Value), v = .tuple #[.agg #[u0x0], .agg #[u1x0]] ∧ Ol Token.cs 57 4 w' u0x0 ((splE e).1) ∧ Lo w.heap.size u0x0 ∧ Ol Token.cs 57 4 w' u1x0 ((splE e).2) ∧ Lo w.heap.size u1x0 ∧ (∀ g ∈ bl u0x0, g ∉ bl u1x0) ∧ Ch [] w w') := by
  obtain ⟨_A_e, _C_e, _e1_e⟩ := _h_e.val
  subst _e1_e
  have _l_e := _h_e.len
  have _h_e := _h_e.here (by decide)
  have E := Ch.refl [] w
  refine Ctr_of_W (N := 47) (vs0 := [(.agg #[(.slice _A_e e.length _C_e)])]) Try.func24 rfl rfl rfl ?_
  refine W_seq fun _K_1 _hK_1 => ?_
  refine W_region ?_
  refine WL_s rfl rfl ?_
  refine s_box rfl fun _b1 _w_2 _m1 _cw_2 _e1 => ?_
  have _cw_2z := _cw_2.size
  have E := E.trans _cw_2
  have _z1 := _m1.lt
  replace _m1 : Blk _w_2 _b1 29 [(.slice _A_e e.length _C_e)] := _m1
  refine WL_s rfl rfl ?_
  refine s_alloc zr29 fun _b2 _w_3 _m2 _cw_3 _e2 => ?_
  have _cw_3z := _cw_3.size
  have E := E.trans _cw_3
  have _z2 := _m2.lt
  replace _m2 : Blk _w_3 _b2 29 [(.slice none 0 0)] := _m2
  refine WL_s rfl rfl ?_
  refine s_alloc zr29 fun _b3 _w_4 _m3 _cw_4 _e3 => ?_
  have _cw_4z := _cw_4.size
  have E := E.trans _cw_4
  have _z3 := _m3.lt
  replace _m3 : Blk _w_4 _b3 29 [(.slice none 0 0)] := _m3
  refine WL_nil ?_
  refine thn_nrm (_hK_1 _ _ ?_)
  clear _hK_1
  refine W_seq fun _K_5 _hK_5 => ?_
  refine W_region ?_
  have _f_6 := ((_m1.ch0 _cw_3).ch0 _cw_4)
  refine WL_step rfl rfl (r_loadAtA0 _f_6.at_ agg29 sz29 rfl) ?_
  refine WL_s rfl rfl ?_
  have _f_7 := (((_h_e.ch0 _cw_2).ch0 _cw_3).ch0 _cw_4)
  refine Step.call (r_call (xs := [.tmp 5]) fk51 rfl) (c_impl_treeOf _f_7 (by omega)) fun _v6 _w_8 _q6 => ?_
  obtain ⟨_q6, _cw_8⟩ := _q6
  have _cw_8z := _cw_8.size
  have E := E.trans _cw_8
  rcases _q6 with ⟨_e6, rfl⟩ | ⟨tt6, _p6, _e6, rfl, _tr6⟩
  · first | have _z6 := treeL_sz _e6 | skip
    first | have w6 := Tr.kids_le tt6 | skip
    refine WL_step rfl rfl (r_assign rfl) ?_
    refine WL_nil ?_
    refine thn_nrm (_hK_5 _ _ ?_)
    clear _hK_5
    refine W_seq fun _K_9 _hK_9 => ?_
    refine W_seq fun _K_10 _hK_10 => ?_
    refine W_region ?_
    refine WL_step rfl rfl (r_move rfl) ?_
    refine WL_step rfl rfl (r_eqPN ptr59 rfl rfl) ?_
    refine WL_step rfl rfl (r_move rfl) ?_
    refine WL_skip rfl rfl ?_
    refine WL_skip rfl rfl ?_
    refine WL_skip rfl rfl ?_
    refine WL_skip rfl rfl ?_
    refine WL_skip rfl rfl ?_
    refine WL_skip rfl rfl ?_
    refine WL_step rfl rfl (r_pickT rfl rfl) ?_
    refine WL_nil ?_
    refine thn_nrm (_hK_10 _ _ ?_)
    clear _hK_10
    refine W_condT rfl ?_
    refine W_seq fun _K_11 _hK_11 => ?_
    refine W_region ?_
    refine WL_step rfl rfl (r_build (parts := []) (cells := [(.slice none 0 0)]) zr29 pl29 rfl rfl) ?_
    refine WL_step rfl rfl (r_build (parts := []) (cells := [(.slice none 0 0)]) zr29 pl29 rfl rfl) ?_
    refine WL_s rfl rfl ?_
    have _f_12 := ((_m2.ch0 _cw_4).ch0 _cw_8)
    refine s_storeA (off := 0) 1 _f_12 sz29 rfl (us := [(.slice none 0 0)]) rfl rfl rfl rfl fun _w_13 _m_14 _cw_13 => ?_
    have _cw_13z := _cw_13.size
    have E := E.step _cw_13 (fun i hi => .inl (by have _h1 := List.mem_singleton.1 hi; omega))
    replace _m_14 : Blk _w_13 _b2 29 [(.slice none 0 0)] := _m_14
    refine WL_s rfl rfl ?_
    have _f_15 := ((_m3.ch0 _cw_8).ch _cw_13 (fun hm => by have _h1 := List.mem_singleton.1 hm; omega))
    refine s_storeA (off := 0) 1 _f_15 sz29 rfl (us := [(.slice none 0 0)]) rfl rfl rfl rfl fun _w_16 _m_17 _cw_16 => ?_
    have _cw_16z := _cw_16.size
    have E := E.step _cw_16 (fun i hi => .inl (by have _h1 := List.mem_singleton.1 hi; omega))
    replace _m_17 : Blk _w_16 _b3 29 [(.slice none 0 0)] := _m_17
    refine WL_nil ?_
    refine thn_nrm (_hK_11 _ _ ?_)
    clear _hK_11
    refine W_ret (thn_ret ?_)
    clear _hK_9
    have _f_18 := (_m_14.ch _cw_16 (fun hm => by have _h1 := List.mem_singleton.1 hm; omega))
    have _o_19 : Ol Token.cs 57 4 _w_16 (.slice none 0 0) ((splE e).1) := by
      have hx := (Ol.nil (cs := Token.cs) (e := 57) (k := 4) _w_16)
      first | (rw [splE_n _e6]; exact hx) | (rw [splE_y _e6, spl0 (by omega)]; exact hx) | (rw [splE_y _e6, spl1 (by omega) ht29]; exact hx) | (rw [splE_y _e6, spl2 ht37 ht44]; exact hx)
    have _o_20 : Ol Token.cs 57 4 _w_16 (.slice none 0 0) ((splE e).2) := by
      have hx := (Ol.nil (cs := Token.cs) (e := 57) (k := 4) _w_16)
      first | (rw [splE_n _e6]; exact hx) | (rw [splE_y _e6, spl0 (by omega)]; exact hx) | (rw [splE_y _e6, spl1 (by omega) ht29]; exact hx) | (rw [splE_y _e6, spl2 ht37 ht44]; exact hx)
    exact ret_intro [_, _] (resOf_loadA _f_18 rfl agg29 sz29 (resOf_loadA _m_17 rfl agg29 sz29 trivial)) ⟨(.slice none 0 0), (.slice none 0 0), rfl, _o_19, (Lo.nil _), _o_20, (Lo.nil _), (fun g hm hg => by cases hm), E⟩
  · replace _tr6 : TrAt _w_8 _w_4.heap.size _w_8.heap.size _p6 tt6 := _tr6
    obtain ⟨_A_6, _C_6, _ps_6, _hc_6, _hk_6, _kd_6⟩ := _tr6.open
    have _kl_6 := _kd_6.1
    first | have _z6 := treeL_sz _e6 | skip
    first | have w6 := Tr.kids_le tt6 | skip
    refine WL_step rfl rfl (r_assign rfl) ?_
    refine WL_nil ?_
    refine thn_nrm (_hK_5 _ _ ?_)
    clear _hK_5
    refine W_seq fun _K_21 _hK_21 => ?_
    refine W_seq fun _K_22 _hK_22 => ?_
    refine W_region ?_
    refine WL_step rfl rfl (r_move rfl) ?_
    refine WL_step rfl rfl (r_eqPN ptr59 rfl rfl) ?_
    refine WL_step rfl rfl (r_move rfl) ?_
    refine WL_step rfl rfl (r_move rfl) ?_
    refine WL_step rfl rfl (r_nilCheck rfl) ?_
    refine WL_step rfl rfl (r_fieldAddr fa68_1 rfl) ?_
    refine WL_step rfl rfl (r_loadAt _hc_6 agg66 rfl rfl) ?_
    refine WL_step rfl rfl (r_len (by rw [el66]; rfl) rfl) ?_
    refine WL_step rfl rfl (r_eql rfl rfl) ?_
    refine WL_step rfl rfl (r_pickF rfl rfl) ?_
    refine WL_nil ?_
    refine thn_nrm (_hK_22 _ _ ?_)
    clear _hK_22
    refine W_cond rfl (fun _h16 => ?_) (fun _h16 => ?_)
    · have _kb_23 := _h16
      have _h16 := bt_d _h16
      refine W_seq fun _K_24 _hK_24 => ?_
      refine W_region ?_
      refine WL_step rfl rfl (r_build (parts := []) (cells := [(.slice none 0 0)]) zr29 pl29 rfl rfl) ?_
      refine WL_step rfl rfl (r_build (parts := []) (cells := [(.slice none 0 0)]) zr29 pl29 rfl rfl) ?_
      refine WL_s rfl rfl ?_
      have _f_25 := ((_m2.ch0 _cw_4).ch0 _cw_8)
      refine s_storeA (off := 0) 1 _f_25 sz29 rfl (us := [(.slice none 0 0)]) rfl rfl rfl rfl fun _w_26 _m_27 _cw_26 => ?_
      have _cw_26z := _cw_26.size
      have E := E.step _cw_26 (fun i hi => .inl (by have _h1 := List.mem_singleton.1 hi; omega))
      replace _m_27 : Blk _w_26 _b2 29 [(.slice none 0 0)] := _m_27
      refine WL_s rfl rfl ?_
      have _f_28 := ((_m3.ch0 _cw_8).ch _cw_26 (fun hm => by have _h1 := List.mem_singleton.1 hm; omega))
      refine s_storeA (off := 0) 1 _f_28 sz29 rfl (us := [(.slice none 0 0)]) rfl rfl rfl rfl fun _w_29 _m_30 _cw_29 => ?_
      have _cw_29z := _cw_29.size
      have E := E.step _cw_29 (fun i hi => .inl (by have _h1 := List.mem_singleton.1 hi; omega))
      replace _m_30 : Blk _w_29 _b3 29 [(.slice none 0 0)] := _m_30
      refine WL_nil ?_
      refine thn_nrm (_hK_24 _ _ ?_)
      clear _hK_24
      refine W_ret (thn_ret ?_)
      clear _hK_21
      have _f_31 := (_m_27.ch _cw_29 (fun hm => by have _h1 := List.mem_singleton.1 hm; omega))
      have _o_32 : Ol Token.cs 57 4 _w_29 (.slice none 0 0) ((splE e).1) := by
        have hx := (Ol.nil (cs := Token.cs) (e := 57) (k := 4) _w_29)
        first | (rw [splE_n _e6]; exact hx) | (rw [splE_y _e6, spl0 (by omega)]; exact hx) | (rw [splE_y _e6, spl1 (by omega) ht29]; exact hx) | (rw [splE_y _e6, spl2 ht37 ht44]; exact hx)
      have _o_33 : Ol Token.cs 57 4 _w_29 (.slice none 0 0) ((splE e).2) := by
        have hx := (Ol.nil (cs := Token.cs) (e := 57) (k := 4) _w_29)
        first | (rw [splE_n _e6]; exact hx) | (rw [splE_y _e6, spl0 (by omega)]; exact hx) | (rw [splE_y _e6, spl1 (by omega) ht29]; exact hx) | (rw [splE_y _e6, spl2 ht37 ht44]; exact hx)
      exact ret_intro [_, _] (resOf_loadA _f_31 rfl agg29 sz29 (resOf_loadA _m_30 rfl agg29 sz29 trivial)) ⟨(.slice none 0 0), (.slice none 0 0), rfl, _o_32, (Lo.nil _), _o_33, (Lo.nil _), (fun g hm hg => by cases hm), E⟩
    · have _kb_23 := _h16
      have _h16 := bf_d _h16
      refine W_skip ?_
      refine thn_nrm (_hK_21 _ _ ?_)
      clear _hK_21
      refine W_seq fun _K_34 _hK_34 => ?_
      refine W_seq fun _K_35 _hK_35 => ?_
      refine W_region ?_
      refine WL_step rfl rfl (r_move rfl) ?_
      refine WL_step rfl rfl (r_nilCheck rfl) ?_
      refine WL_step rfl rfl (r_fieldAddr fa68_1 rfl) ?_
      refine WL_step rfl rfl (r_loadAt _hc_6 agg66 rfl rfl) ?_
      refine WL_step rfl rfl (r_len (by rw [el66]; rfl) rfl) ?_
      refine WL_step rfl rfl (r_eql rfl rfl) ?_
      refine WL_nil ?_
      refine thn_nrm (_hK_35 _ _ ?_)
      clear _hK_35
      refine W_cond rfl (fun _h24 => ?_) (fun _h24 => ?_)
      · have _kb_36 := _h24
        have _h24 := bt_d _h24
        refine W_seq fun _K_37 _hK_37 => ?_
        refine W_region ?_
        refine WL_step rfl rfl (r_move rfl) ?_
        refine WL_step rfl rfl (r_nilCheck rfl) ?_
        refine WL_step rfl rfl (r_fieldAddr fa68_1 rfl) ?_
        refine WL_step rfl rfl (r_loadAt _hc_6 agg66 rfl rfl) ?_
        refine WL_s rfl rfl ?_
        refine (s_index (j := 0) _hk_6 acs_len el66 sz59 rfl rfl rfl (by omega) fun _p29 _y29 _hy29 _a29 => ?_)
        obtain ⟨_t29, ht29, _tr29⟩ := _kd_6.get _hy29
        obtain ⟨_A_29, _C_29, _ps_29, _hc_29, _hk_29, _kd_29⟩ := _tr29.open
        have _kl_29 := _kd_29.1
        replace _a29 : At _w_8 _w_4.heap.size _w_8.heap.size _p29 ([(.pointer (some _y29))]) := _a29
        refine WL_step rfl rfl (r_loadAt0 _a29 agg59 rfl rfl) ?_
        refine WL_s rfl rfl ?_
        refine Step.call (r_call (xs := [.tmp 30]) fk57 rfl) (c_impl_tree_expr _tr29 (by have _h1 := Tr.kid_sz ht29; omega)) fun _v31 _w_38 _q31 => ?_
        obtain ⟨_u31, rfl, _q31, _lo31, _cw_38⟩ := _q31
        have _cw_38z := _cw_38.size
        have E := E.trans _cw_38
        obtain ⟨_Au31, _Cu31, _eu31⟩ := _q31.val
        subst _eu31
        have _lu31 := _q31.len
        have _hiu31 := _q31.lt
        refine WL_step rfl rfl (r_build (parts := []) (cells := [(.slice none 0 0)]) zr29 pl29 rfl rfl) ?_
        refine WL_s rfl rfl ?_
        have _f_39 := (((_m2.ch0 _cw_4).ch0 _cw_8).ch0 _cw_38)
        refine s_storeA (off := 0) 1 _f_39 sz29 rfl (us := [(.slice _Au31 (_t29.flat).length _Cu31)]) rfl rfl rfl rfl fun _w_40 _m_41 _cw_40 => ?_
        have _cw_40z := _cw_40.size
        have E := E.step _cw_40 (fun i hi => .inl (by have _h1 := List.mem_singleton.1 hi; omega))
        replace _m_41 : Blk _w_40 _b2 29 [(.slice _Au31 (_t29.flat).length _Cu31)] := _m_41
        refine WL_s rfl rfl ?_
        have _f_42 := (((_m3.ch0 _cw_8).ch0 _cw_38).ch _cw_40 (fun hm => by have _h1 := List.mem_singleton.1 hm; omega))
        refine s_storeA (off := 0) 1 _f_42 sz29 rfl (us := [(.slice none 0 0)]) rfl rfl rfl rfl fun _w_43 _m_44 _cw_43 => ?_
        have _cw_43z := _cw_43.size
        have E := E.step _cw_43 (fun i hi => .inl (by have _h1 := List.mem_singleton.1 hi; omega))
        replace _m_44 : Blk _w_43 _b3 29 [(.slice none 0 0)] := _m_44
        refine WL_nil ?_
        refine thn_nrm (_hK_37 _ _ ?_)
        clear _hK_37
        refine W_ret (thn_ret ?_)
        clear _hK_34
        have _f_45 := (_m_41.ch _cw_43 (fun hm => by have _h1 := List.mem_singleton.1 hm; omega))
        have _f_46 := ((_q31.ch _cw_40 (fun g hg hm => by have _h0 := List.mem_singleton.1 hm; have _h2 := _lo31 _ hg; have _h3 := _hiu31 _ hg; omega)).ch _cw_43 (fun g hg hm => by have _h0 := List.mem_singleton.1 hm; have _h2 := _lo31 _ hg; have _h3 := _hiu31 _ hg; omega))
        have _o_47 : Ol Token.cs 57 4 _w_43 (.slice _Au31 (_t29.flat).length _Cu31) ((splE e).1) := by
          have hx := _f_46
          first | (rw [splE_n _e6]; exact hx) | (rw [splE_y _e6, spl0 (by omega)]; exact hx) | (rw [splE_y _e6, spl1 (by omega) ht29]; exact hx) | (rw [splE_y _e6, spl2 ht37 ht44]; exact hx)
        have _o_48 : Ol Token.cs 57 4 _w_43 (.slice none 0 0) ((splE e).2) := by
          have hx := (Ol.nil (cs := Token.cs) (e := 57) (k := 4) _w_43)
          first | (rw [splE_n _e6]; exact hx) | (rw [splE_y _e6, spl0 (by omega)]; exact hx) | (rw [splE_y _e6, spl1 (by omega) ht29]; exact hx) | (rw [splE_y _e6, spl2 ht37 ht44]; exact hx)
        exact ret_intro [_, _] (resOf_loadA _f_45 rfl agg29 sz29 (resOf_loadA _m_44 rfl agg29 sz29 trivial)) ⟨(.slice _Au31 (_t29.flat).length _Cu31), (.slice none 0 0), rfl, _o_47, (Lo.down _lo31 (by omega)), _o_48, (Lo.nil _), (fun g hm hg => by cases hg), E⟩
      · have _kb_36 := _h24
        have _h24 := bf_d _h24
        refine W_skip ?_
        refine thn_nrm (_hK_34 _ _ ?_)
        clear _hK_34
        refine W_seq fun _K_49 _hK_49 => ?_
        refine W_drawC ([_b2] ++ [_b3]) 16 mixed rfl fun _w_50 _cw_50 => ?_
        have _cw_50z := _cw_50.size
        have E := E.trans _cw_50
        refine DR_s 0 rfl (by kernel_rfl) rfl rfl (t_v (fun _ => (r_move rfl)) ?_)
        refine DR_s 1 rfl (by kernel_rfl) rfl rfl (t_v (fun _ => (r_nilCheck rfl)) ?_)
        refine DR_s 2 rfl (by kernel_rfl) rfl rfl (t_v (fun _ => (r_fieldAddr fa68_1 rfl)) ?_)
        have _f_51 := (_hc_6.ch0 _cw_50)
        refine DR_s 3 rfl (by kernel_rfl) rfl rfl (t_loadAt _f_51 (fun i hm => by rcases List.mem_append.1 hm with hm | hm; (have _h1 := List.mem_singleton.1 hm; omega); (have _h1 := List.mem_singleton.1 hm; omega)) agg66 rfl rfl ?_)
        have _f_52 := (_hk_6.ch0 _cw_50)
        have _f_53 := (_kd_6.ch0 _cw_50)
        refine DR_s 4 rfl (by kernel_rfl) rfl rfl (t_index (j := 0) _f_52 acs_len el66 sz59 rfl rfl rfl (by omega) fun _p37 _y37 _hy37 _a37 => ?_)
        obtain ⟨_t37, ht37, _tr37⟩ := _f_53.get _hy37
        obtain ⟨_A_37, _C_37, _ps_37, _hc_37, _hk_37, _kd_37⟩ := _tr37.open
        have _kl_37 := _kd_37.1
        replace _a37 : At _w_50 _w_4.heap.size _w_8.heap.size _p37 ([(.pointer (some _y37))]) := _a37
        refine DR_s 5 rfl (by kernel_rfl) rfl rfl (t_loadAt0 _a37 (fun i hm => by rcases List.mem_append.1 hm with hm | hm; (have _h1 := List.mem_singleton.1 hm; omega); (have _h1 := List.mem_singleton.1 hm; omega)) agg59 rfl rfl ?_)
        refine DR_s 7 rfl (by kernel_rfl) rfl rfl (t_v (fun _ => (r_move rfl)) ?_)
        refine DR_s 8 rfl (by kernel_rfl) rfl rfl (t_v (fun _ => (r_nilCheck rfl)) ?_)
        refine DR_s 9 rfl (by kernel_rfl) rfl rfl (t_v (fun _ => (r_fieldAddr fa68_1 rfl)) ?_)
        refine DR_s 10 rfl (by kernel_rfl) rfl rfl (t_loadAt _f_51 (fun i hm => by rcases List.mem_append.1 hm with hm | hm; (have _h1 := List.mem_singleton.1 hm; omega); (have _h1 := List.mem_singleton.1 hm; omega)) agg66 rfl rfl ?_)
        refine DR_s 11 rfl (by kernel_rfl) rfl rfl (t_index (j := 1) _f_52 acs_len el66 sz59 rfl rfl rfl (by omega) fun _p44 _y44 _hy44 _a44 => ?_)
        obtain ⟨_t44, ht44, _tr44⟩ := _f_53.get _hy44
        obtain ⟨_A_44, _C_44, _ps_44, _hc_44, _hk_44, _kd_44⟩ := _tr44.open
        have _kl_44 := _kd_44.1
        replace _a44 : At _w_50 _w_4.heap.size _w_8.heap.size _p44 ([(.pointer (some _y44))]) := _a44
        refine DR_s 12 rfl (by kernel_rfl) rfl rfl (t_loadAt0 _a44 (fun i hm => by rcases List.mem_append.1 hm with hm | hm; (have _h1 := List.mem_singleton.1 hm; omega); (have _h1 := List.mem_singleton.1 hm; omega)) agg59 rfl rfl ?_)
        refine DR_one 6 (by kernel_rfl) ?_
        refine DO_s rfl rfl rfl ?_
        refine Step.call (r_call (xs := [.tmp 38]) fk57 rfl) (c_impl_tree_expr _tr37 (by have _h1 := Tr.kid_sz ht37; omega)) fun _v39 _w_54 _q39 => ?_
        obtain ⟨_u39, rfl, _q39, _lo39, _cw_54⟩ := _q39
        have _cw_54z := _cw_54.size
        have E := E.trans _cw_54
        obtain ⟨_Au39, _Cu39, _eu39⟩ := _q39.val
        subst _eu39
        have _lu39 := _q39.len
        have _hiu39 := _q39.lt
        have _S_55 : Ch ([_b2] ++ [_b3]) _w_50 _w_54 := ((Ch.refl _ _).trans _cw_54.of_nil)
        refine ⟨_S_55, ?_⟩
        refine DR_one 13 (by kernel_rfl) ?_
        refine DO_s rfl rfl rfl ?_
        have _f_56 := (_tr44.ch0 _cw_54)
        refine Step.call (r_call (xs := [.tmp 45]) fk57 rfl) (c_impl_tree_expr _f_56 (by have _h1 := Tr.kid_sz ht44; omega)) fun _v46 _w_57 _q46 => ?_
        obtain ⟨_u46, rfl, _q46, _lo46, _cw_57⟩ := _q46
        have _cw_57z := _cw_57.size
        have E := E.trans _cw_57
        obtain ⟨_Au46, _Cu46, _eu46⟩ := _q46.val
        subst _eu46
        have _lu46 := _q46.len
        have _hiu46 := _q46.lt
        have _S_58 : Ch ([_b2] ++ [_b3]) _w_50 _w_57 := (_S_55.trans _cw_57.of_nil)
        refine ⟨_S_58, ?_⟩
        refine DR_one 14 (by kernel_rfl) ?_
        refine DO_s rfl rfl rfl ?_
        have _f_59 := (((((_m2.ch0 _cw_4).ch0 _cw_8).ch0 _cw_50).ch0 _cw_54).ch0 _cw_57)
        refine s_storeA (off := 0) 1 _f_59 sz29 rfl (us := [(.slice _Au39 (_t37.flat).length _Cu39)]) rfl rfl rfl rfl fun _w_60 _m_61 _cw_60 => ?_
        have _cw_60z := _cw_60.size
        have E := E.step _cw_60 (fun i hi => .inl (by have _h1 := List.mem_singleton.1 hi; omega))
        replace _m_61 : Blk _w_60 _b2 29 [(.slice _Au39 (_t37.flat).length _Cu39)] := _m_61
        have _S_62 : Ch ([_b2] ++ [_b3]) _w_50 _w_60 := (_S_58.step _cw_60 (fun i hm => by have _h0 := List.mem_singleton.1 hm; exact .inr (by rw [_h0]; exact (List.mem_append_left _ (List.mem_singleton.2 rfl)))))
        refine ⟨_S_62, ?_⟩
        refine DR_one 15 (by kernel_rfl) ?_
        refine DO_s rfl rfl rfl ?_
        have _f_63 := (((((_m3.ch0 _cw_8).ch0 _cw_50).ch0 _cw_54).ch0 _cw_57).ch _cw_60 (fun hm => by have _h1 := List.mem_singleton.1 hm; omega))
        refine s_storeA (off := 0) 1 _f_63 sz29 rfl (us := [(.slice _Au46 (_t44.flat).length _Cu46)]) rfl rfl rfl rfl fun _w_64 _m_65 _cw_64 => ?_
        have _cw_64z := _cw_64.size
        have E := E.step _cw_64 (fun i hi => .inl (by have _h1 := List.mem_singleton.1 hi; omega))
        replace _m_65 : Blk _w_64 _b3 29 [(.slice _Au46 (_t44.flat).length _Cu46)] := _m_65
        have _S_66 : Ch ([_b2] ++ [_b3]) _w_50 _w_64 := (_S_62.step _cw_64 (fun i hm => by have _h0 := List.mem_singleton.1 hm; exact .inr (by rw [_h0]; exact (List.mem_append_right _ (List.mem_singleton.2 rfl)))))
        refine ⟨_S_66, ?_⟩
        refine DR_done (by kernel_rfl) ?_
        refine thn_nrm (_hK_49 _ _ ?_)
        clear _hK_49
        refine W_ret ?_
        have _f_67 := (_m_61.ch _cw_64 (fun hm => by have _h1 := List.mem_singleton.1 hm; omega))
        have _f_68 := (((_q39.ch0 _cw_57).ch _cw_60 (fun g hg hm => by have _h0 := List.mem_singleton.1 hm; have _h2 := _lo39 _ hg; have _h3 := _hiu39 _ hg; omega)).ch _cw_64 (fun g hg hm => by have _h0 := List.mem_singleton.1 hm; have _h2 := _lo39 _ hg; have _h3 := _hiu39 _ hg; omega))
        have _o_69 : Ol Token.cs 57 4 _w_64 (.slice _Au39 (_t37.flat).length _Cu39) ((splE e).1) := by
          have hx := _f_68
          first | (rw [splE_n _e6]; exact hx) | (rw [splE_y _e6, spl0 (by omega)]; exact hx) | (rw [splE_y _e6, spl1 (by omega) ht29]; exact hx) | (rw [splE_y _e6, spl2 ht37 ht44]; exact hx)
        have _f_70 := ((_q46.ch _cw_60 (fun g hg hm => by have _h0 := List.mem_singleton.1 hm; have _h2 := _lo46 _ hg; have _h3 := _hiu46 _ hg; omega)).ch _cw_64 (fun g hg hm => by have _h0 := List.mem_singleton.1 hm; have _h2 := _lo46 _ hg; have _h3 := _hiu46 _ hg; omega))
        have _o_71 : Ol Token.cs 57 4 _w_64 (.slice _Au46 (_t44.flat).length _Cu46) ((splE e).2) := by
          have hx := _f_70
          first | (rw [splE_n _e6]; exact hx) | (rw [splE_y _e6, spl0 (by omega)]; exact hx) | (rw [splE_y _e6, spl1 (by omega) ht29]; exact hx) | (rw [splE_y _e6, spl2 ht37 ht44]; exact hx)
        exact ret_intro [_, _] (resOf_loadA _f_67 rfl agg29 sz29 (resOf_loadA _m_65 rfl agg29 sz29 trivial)) ⟨(.slice _Au39 (_t37.flat).length _Cu39), (.slice _Au46 (_t44.flat).length _Cu46), rfl, _o_69, (Lo.down _lo39 (by omega)), _o_71, (Lo.down _lo46 (by omega)), (fun g hm hg => by have _h1 := _lo39 _ hm; have _h2 := _hiu39 _ hm; have _h3 := _lo46 _ hg; have _h4 := _hiu46 _ hg; omega), E⟩

/-- laws.eqToken -/
theorem c_laws_eqToken {w : World} (a : Token) (b : Token) :
    Ctr Try.prog 83 #[(.agg #[(.int .i64 a.kind), (.int .i64 a.letter), (.int .i64 a.low), (.int .i64 a.high)]), (.agg #[(.int .i64 b.kind), (.int .i64 b.letter), (.int .i64 b.low), (.int .i64 b.high)])] w (fun v w' => v = .bool (decide (a = b)) ∧ Ch [] w w') := by
  have E := Ch.refl [] w
  refine Ctr_of_W (N := 25) (vs0 := [(.agg #[(.int .i64 a.kind), (.int .i64 a.letter), (.int .i64 a.low), (.int .i64 a.high)]), (.agg #[(.int .i64 b.kind), (.int .i64 b.letter), (.int .i64 b.low), (.int .i64 b.high)])]) Try.func83 rfl rfl rfl ?_
  refine W_seq fun _K_1 _hK_1 => ?_
  refine W_region ?_
  refine WL_s rfl rfl ?_
  refine s_box rfl fun _b2 _w_2 _m2 _cw_2 _e2 => ?_
  have _cw_2z := _cw_2.size
  have E := E.trans _cw_2
  have _z2 := _m2.lt
  replace _m2 : Blk _w_2 _b2 57 [(.int .i64 a.kind), (.int .i64 a.letter), (.int .i64 a.low), (.int .i64 a.high)] := _m2
  refine WL_s rfl rfl ?_
  refine s_box rfl fun _b3 _w_3 _m3 _cw_3 _e3 => ?_
  have _cw_3z := _cw_3.size
  have E := E.trans _cw_3
  have _z3 := _m3.lt
  replace _m3 : Blk _w_3 _b3 57 [(.int .i64 b.kind), (.int .i64 b.letter), (.int .i64 b.low), (.int .i64 b.high)] := _m3
  refine WL_step rfl rfl (r_assign rfl) ?_
  refine WL_nil ?_
  refine thn_nrm (_hK_1 _ _ ?_)
  clear _hK_1
  refine W_seq fun _K_4 _hK_4 => ?_
  refine W_seq fun _K_5 _hK_5 => ?_
  refine W_region ?_
  refine WL_step rfl rfl (r_fieldAddr fa57_0 rfl) ?_
  have _f_6 := (_m2.ch0 _cw_3)
  refine WL_step rfl rfl (r_loadAt _f_6.at_ agg3 rfl rfl) ?_
  refine WL_step rfl rfl (r_fieldAddr fa57_0 rfl) ?_
  refine WL_step rfl rfl (r_loadAt _m3.at_ agg3 rfl rfl) ?_
  refine WL_step rfl rfl (r_neq rfl rfl) ?_
  refine WL_nil ?_
  refine thn_nrm (_hK_5 _ _ ?_)
  clear _hK_5
  refine W_cond rfl (fun _h9 => ?_) (fun _h9 => ?_)
  · have _kb_7 := _h9
    have _h9 := bf_d (bt_n _h9)
    refine W_seq fun _K_8 _hK_8 => ?_
    refine W_region ?_
    refine WL_step rfl rfl (r_assign rfl) ?_
    refine WL_nil ?_
    refine thn_nrm (_hK_8 _ _ ?_)
    clear _hK_8
    refine W_ret (thn_ret ?_)
    clear _hK_4
    exact ret_intro [_] ⟨rfl, trivial⟩ ⟨congrArg Value.bool (decide_eq_false (fun e => _h9 (by rw [e]))).symm, E⟩
  · have _kb_7 := _h9
    have _h9 := bt_d (bf_n _h9)
    refine W_skip ?_
    refine thn_nrm (_hK_4 _ _ ?_)
    clear _hK_4
    refine W_seq fun _K_9 _hK_9 => ?_
    refine W_seq fun _K_10 _hK_10 => ?_
    refine W_region ?_
    refine WL_step rfl rfl (r_fieldAddr fa57_1 rfl) ?_
    refine WL_step rfl rfl (r_loadAt _f_6.at_ agg3 rfl rfl) ?_
    refine WL_step rfl rfl (r_fieldAddr fa57_1 rfl) ?_
    refine WL_step rfl rfl (r_loadAt _m3.at_ agg3 rfl rfl) ?_
    refine WL_step rfl rfl (r_neq rfl rfl) ?_
    refine WL_nil ?_
    refine thn_nrm (_hK_10 _ _ ?_)
    clear _hK_10
    refine W_cond rfl (fun _h14 => ?_) (fun _h14 => ?_)
    · have _kb_11 := _h14
      have _h14 := bf_d (bt_n _h14)
      refine W_seq fun _K_12 _hK_12 => ?_
      refine W_region ?_
      refine WL_step rfl rfl (r_assign rfl) ?_
      refine WL_nil ?_
      refine thn_nrm (_hK_12 _ _ ?_)
      clear _hK_12
      refine W_ret (thn_ret ?_)
      clear _hK_9
      exact ret_intro [_] ⟨rfl, trivial⟩ ⟨congrArg Value.bool (decide_eq_false (fun e => _h14 (by rw [e]))).symm, E⟩
    · have _kb_11 := _h14
      have _h14 := bt_d (bf_n _h14)
      refine W_skip ?_
      refine thn_nrm (_hK_9 _ _ ?_)
      clear _hK_9
      refine W_seq fun _K_13 _hK_13 => ?_
      refine W_seq fun _K_14 _hK_14 => ?_
      refine W_region ?_
      refine WL_step rfl rfl (r_fieldAddr fa57_2 rfl) ?_
      refine WL_step rfl rfl (r_loadAt _f_6.at_ agg3 rfl rfl) ?_
      refine WL_step rfl rfl (r_fieldAddr fa57_2 rfl) ?_
      refine WL_step rfl rfl (r_loadAt _m3.at_ agg3 rfl rfl) ?_
      refine WL_step rfl rfl (r_neq rfl rfl) ?_
      refine WL_nil ?_
      refine thn_nrm (_hK_14 _ _ ?_)
      clear _hK_14
      refine W_cond rfl (fun _h19 => ?_) (fun _h19 => ?_)
      · have _kb_15 := _h19
        have _h19 := bf_d (bt_n _h19)
        refine W_seq fun _K_16 _hK_16 => ?_
        refine W_region ?_
        refine WL_step rfl rfl (r_assign rfl) ?_
        refine WL_nil ?_
        refine thn_nrm (_hK_16 _ _ ?_)
        clear _hK_16
        refine W_ret (thn_ret ?_)
        clear _hK_13
        exact ret_intro [_] ⟨rfl, trivial⟩ ⟨congrArg Value.bool (decide_eq_false (fun e => _h19 (by rw [e]))).symm, E⟩
      · have _kb_15 := _h19
        have _h19 := bt_d (bf_n _h19)
        refine W_skip ?_
        refine thn_nrm (_hK_13 _ _ ?_)
        clear _hK_13
        refine W_seq fun _K_17 _hK_17 => ?_
        refine W_seq fun _K_18 _hK_18 => ?_
        refine W_region ?_
        refine WL_step rfl rfl (r_fieldAddr fa57_3 rfl) ?_
        refine WL_step rfl rfl (r_loadAt _f_6.at_ agg3 rfl rfl) ?_
        refine WL_step rfl rfl (r_fieldAddr fa57_3 rfl) ?_
        refine WL_step rfl rfl (r_loadAt _m3.at_ agg3 rfl rfl) ?_
        refine WL_step rfl rfl (r_neq rfl rfl) ?_
        refine WL_nil ?_
        refine thn_nrm (_hK_18 _ _ ?_)
        clear _hK_18
        refine W_cond rfl (fun _h24 => ?_) (fun _h24 => ?_)
        · have _kb_19 := _h24
          have _h24 := bf_d (bt_n _h24)
          refine W_seq fun _K_20 _hK_20 => ?_
          refine W_region ?_
          refine WL_step rfl rfl (r_assign rfl) ?_
          refine WL_nil ?_
          refine thn_nrm (_hK_20 _ _ ?_)
          clear _hK_20
          refine W_ret (thn_ret ?_)
          clear _hK_17
          exact ret_intro [_] ⟨rfl, trivial⟩ ⟨congrArg Value.bool (decide_eq_false (fun e => _h24 (by rw [e]))).symm, E⟩
        · have _kb_19 := _h24
          have _h24 := bt_d (bf_n _h24)
          refine W_skip ?_
          refine thn_nrm (_hK_17 _ _ ?_)
          clear _hK_17
          refine W_seq fun _K_21 _hK_21 => ?_
          refine W_region ?_
          refine WL_step rfl rfl (r_assign rfl) ?_
          refine WL_nil ?_
          refine thn_nrm (_hK_21 _ _ ?_)
          clear _hK_21
          refine W_ret ?_
          exact ret_intro [_] ⟨rfl, trivial⟩ ⟨congrArg Value.bool (decide_eq_true (Token.inj (by rw [_h9, _h14, _h19, _h24]))).symm, E⟩

/-- laws.eqTokenS -/
theorem c_laws_eqTokenS {w : World} {LL_a _B_a : Nat} {_v_a : Value} {a : List Token} (_h_a : Ls Token.cs 4 w LL_a _B_a _v_a a) {LL_b _B_b : Nat} {_v_b : Value} {b : List Token} (_h_b : Ls Token.cs 4 w LL_b _B_b _v_b b) :
    Ctr Try.prog 52 #[_v_a, _v_b] w (fun v w' => v = .bool (decide (a = b)) ∧ Ch [] w w') := by
  obtain ⟨_A_a, _C_a, _e1_a⟩ := _h_a.val
  subst _e1_a
  have _l_a := _h_a.len
  have _h_a := _h_a.here (by decide)
  obtain ⟨_A_b, _C_b, _e1_b⟩ := _h_b.val
  subst _e1_b
  have _l_b := _h_b.len
  have _h_b := _h_b.here (by decide)
  have E := Ch.refl [] w
  refine Ctr_of_W (N := 27) (vs0 := [(.slice _A_a a.length _C_a), (.slice _A_b b.length _C_b)]) Try.func52 rfl rfl rfl ?_
  refine W_seq fun _K_1 _hK_1 => ?_
  refine W_region ?_
  refine WL_step rfl rfl (r_assign rfl) ?_
  refine WL_nil ?_
  refine thn_nrm (_hK_1 _ _ ?_)
  clear _hK_1
  refine W_seq fun _K_2 _hK_2 => ?_
  refine W_seq fun _K_3 _hK_3 => ?_
  refine W_region ?_
  refine WL_step rfl rfl (r_move rfl) ?_
  refine WL_step rfl rfl (r_len (by rw [el27]; rfl) rfl) ?_
  refine WL_step rfl rfl (r_move rfl) ?_
  refine WL_step rfl rfl (r_len (by rw [el27]; rfl) rfl) ?_
  refine WL_step rfl rfl (r_neq rfl rfl) ?_
  refine WL_nil ?_
  refine thn_nrm (_hK_3 _ _ ?_)
  clear _hK_3
  refine W_cond rfl (fun _h10 => ?_) (fun _h10 => ?_)
  · have _kb_4 := _h10
    have _h10 := bf_d (bt_n _h10)
    refine W_seq fun _K_5 _hK_5 => ?_
    refine W_region ?_
    refine WL_step rfl rfl (r_assign rfl) ?_
    refine WL_nil ?_
    refine thn_nrm (_hK_5 _ _ ?_)
    clear _hK_5
    refine W_ret (thn_ret ?_)
    clear _hK_2
    exact ret_intro [_] ⟨rfl, trivial⟩ ⟨congrArg Value.bool (decide_eq_false (fun e => _h10 (by rw [e]))).symm, E⟩
  · have _kb_4 := _h10
    have _h10 := bt_d (bf_n _h10)
    refine W_skip ?_
    refine thn_nrm (_hK_2 _ _ ?_)
    clear _hK_2
    refine W_seq fun _K_6 _hK_6 => ?_
    refine W_seq fun _K_7 _hK_7 => ?_
    refine W_region ?_
    refine WL_step rfl rfl (r_assign rfl) ?_
    refine WL_nil ?_
    refine thn_nrm (_hK_7 _ _ ?_)
    clear _hK_7
    refine W_block ?_
    refine W_loop (σ := Nat) (fun (k : Nat) => [(0, (.slice _A_a a.length _C_a)), (1, (.slice _A_b b.length _C_b)), (5, (.int .i64 ((k : Nat) : Int)))]) (fun (k : Nat) wx => Ch [] w wx ∧ w.heap.size ≤ wx.heap.size ∧ (k ≤ a.length) ∧ (a.take k = b.take k)) (fun (k : Nat) => a.length - k) 0 (Sub.cons rfl (Sub.cons rfl (Sub.cons rfl (Sub.nil _)))) ⟨E, (Nat.le_refl _), (by omega), rfl⟩ ?_
    rintro k _wr_8 ⟨E, _zz0, _hk, _ht⟩
    have _E0h := E
    have _E0hz := _E0h.size
    refine W_seq fun _K_9 _hK_9 => ?_
    refine W_seq fun _K_10 _hK_10 => ?_
    refine W_region ?_
    refine WL_step rfl rfl (r_move rfl) ?_
    refine WL_step rfl rfl (r_move rfl) ?_
    refine WL_step rfl rfl (r_len (by rw [el27]; rfl) rfl) ?_
    refine WL_step rfl rfl (r_lss rfl rfl) ?_
    refine WL_nil ?_
    refine thn_nrm (_hK_10 _ _ ?_)
    clear _hK_10
    refine W_cond rfl (fun _h14 => ?_) (fun _h14 => ?_)
    · have _kb_11 := _h14
      have _h14 := bt_d _h14
      refine W_skip ?_
      refine thn_nrm (_hK_9 _ _ ?_)
      clear _hK_9
      refine W_seq fun _K_12 _hK_12 => ?_
      refine W_block ?_
      refine W_seq fun _K_13 _hK_13 => ?_
      refine W_drawC [] 10 mixed rfl fun _w_14 _cw_14 => ?_
      have _cw_14z := _cw_14.size
      have E := E.trans _cw_14
      refine DR_s 0 rfl (by kernel_rfl) rfl rfl (t_v (fun _ => (r_move rfl)) ?_)
      refine DR_s 1 rfl (by kernel_rfl) rfl rfl (t_v (fun _ => (r_move rfl)) ?_)
      have _f_15 := ((_h_a.ch0 _E0h).ch0 _cw_14)
      refine DR_s 2 rfl (by kernel_rfl) rfl rfl (t_index _f_15 Token.len el27 sz57 rfl rfl rfl (by omega) fun _p19 _y19 _hy19 _a19 => ?_)
      refine DR_s 3 rfl (by kernel_rfl) rfl rfl (t_loadAtA0 _a19 (fun i hi => absurd hi List.not_mem_nil) agg57 sz57 rfl ?_)
      refine DR_s 4 rfl (by kernel_rfl) rfl rfl (t_v (fun _ => (r_move rfl)) ?_)
      refine DR_s 5 rfl (by kernel_rfl) rfl rfl (t_v (fun _ => (r_move rfl)) ?_)
      have _f_16 := ((_h_b.ch0 _E0h).ch0 _cw_14)
      refine DR_s 6 rfl (by kernel_rfl) rfl rfl (t_index _f_16 Token.len el27 sz57 rfl rfl rfl (by omega) fun _p23 _y23 _hy23 _a23 => ?_)
      refine DR_s 7 rfl (by kernel_rfl) rfl rfl (t_loadAtA0 _a23 (fun i hi => absurd hi List.not_mem_nil) agg57 sz57 rfl ?_)
      refine DR_one 8 (by kernel_rfl) ?_
      refine DO_s rfl rfl rfl ?_
      refine Step.call (r_call (xs := [.tmp 20, .tmp 24]) fk83 rfl) (c_laws_eqToken _y19 _y23 ) fun _v25 _w_17 _q25 => ?_
      obtain ⟨rfl, _cw_17⟩ := _q25
      have _cw_17z := _cw_17.size
      have E := E.trans _cw_17
      have _S_18 : Ch [] _w_14 _w_17 := ((Ch.refl _ _).trans _cw_17)
      refine ⟨_S_18, ?_⟩
      refine DR_s 9 rfl (by kernel_rfl) rfl rfl (t_v (fun _ => (r_not rfl)) ?_)
      refine DR_done (by kernel_rfl) ?_
      refine thn_nrm (_hK_13 _ _ ?_)
      clear _hK_13
      refine W_cond rfl (fun _h26 => ?_) (fun _h26 => ?_)
      · have _kb_19 := _h26
        have _h26 := bf_d (bt_n _h26)
        refine W_seq fun _K_20 _hK_20 => ?_
        refine W_region ?_
        refine WL_step rfl rfl (r_assign rfl) ?_
        refine WL_nil ?_
        refine thn_nrm (_hK_20 _ _ ?_)
        clear _hK_20
        refine W_ret (inB_ret (thn_ret (thn_ret (inB_ret (thn_ret ?_)))))
        clear _hK_6 _hK_12
        exact ret_intro [_] ⟨rfl, trivial⟩ ⟨congrArg Value.bool (decide_eq_false (ne_of_get _hy19 _hy23 _h26)).symm, E⟩
      · have _kb_19 := _h26
        have _h26 := bt_d (bf_n _h26)
        refine W_skip ?_
        refine inB_nrm ?_
        refine thn_nrm (_hK_12 _ _ ?_)
        clear _hK_12
        refine W_region ?_
        refine WL_step rfl rfl (r_move rfl) ?_
        refine WL_step rfl rfl (r_add (by omega) rfl rfl) ?_
        refine WL_step rfl rfl (r_assign rfl) ?_
        refine WL_nil ?_
        exact thn_nrm (Exists.intro (k + 1) ⟨⟨E, (by omega), (by omega), (take_eq_succ _ht _hy19 _hy23 _h26)⟩, Sub.cons rfl (Sub.cons rfl (Sub.cons rfl (Sub.nil _))), (by first | omega | (dsimp only; omega))⟩)
    · have _kb_11 := _h14
      have _h14 := bf_d _h14
      refine W_exit (thn_exit (thn_exit (inB_hit ?_)))
      refine thn_nrm (_hK_6 _ _ ?_)
      clear _hK_6
      refine W_seq fun _K_21 _hK_21 => ?_
      refine W_region ?_
      refine WL_step rfl rfl (r_assign rfl) ?_
      refine WL_nil ?_
      refine thn_nrm (_hK_21 _ _ ?_)
      clear _hK_21
      refine W_ret ?_
      clear _hK_9
      exact ret_intro [_] ⟨rfl, trivial⟩ ⟨congrArg Value.bool (decide_eq_true (eq_of_take _ht (by omega) (by omega))).symm, E⟩

/-- laws.eqExpr -/
theorem c_laws_eqExpr {w : World} {LL_a _B_a : Nat} {_v_a : Value} {a : List Token} (_h_a : Ls Token.cs 4 w LL_a _B_a _v_a a) {LL_b _B_b : Nat} {_v_b : Value} {b : List Token} (_h_b : Ls Token.cs 4 w LL_b _B_b _v_b b) :
    Ctr Try.prog 18 #[(.agg #[_v_a]), (.agg #[_v_b])] w (fun v w' => v = .bool (decide (a = b)) ∧ Ch [] w w') := by
  obtain ⟨_A_a, _C_a, _e1_a⟩ := _h_a.val
  subst _e1_a
  have _l_a := _h_a.len
  have _h_a := _h_a.here (by decide)
  obtain ⟨_A_b, _C_b, _e1_b⟩ := _h_b.val
  subst _e1_b
  have _l_b := _h_b.len
  have _h_b := _h_b.here (by decide)
  have E := Ch.refl [] w
  refine Ctr_of_W (N := 11) (vs0 := [(.agg #[(.slice _A_a a.length _C_a)]), (.agg #[(.slice _A_b b.length _C_b)])]) Try.func18 rfl rfl rfl ?_
  refine W_seq fun _K_1 _hK_1 => ?_
  refine W_region ?_
  refine WL_s rfl rfl ?_
  refine s_box rfl fun _b2 _w_2 _m2 _cw_2 _e2 => ?_
  have _cw_2z := _cw_2.size
  have E := E.trans _cw_2
  have _z2 := _m2.lt
  replace _m2 : Blk _w_2 _b2 29 [(.slice _A_a a.length _C_a)] := _m2
  refine WL_s rfl rfl ?_
  refine s_box rfl fun _b3 _w_3 _m3 _cw_3 _e3 => ?_
  have _cw_3z := _cw_3.size
  have E := E.trans _cw_3
  have _z3 := _m3.lt
  replace _m3 : Blk _w_3 _b3 29 [(.slice _A_b b.length _C_b)] := _m3
  refine WL_step rfl rfl (r_assign rfl) ?_
  refine WL_nil ?_
  refine thn_nrm (_hK_1 _ _ ?_)
  clear _hK_1
  refine W_seq fun _K_4 _hK_4 => ?_
  refine W_seq fun _K_5 _hK_5 => ?_
  refine W_region ?_
  refine WL_step rfl rfl (r_fieldAddr fa29_0 rfl) ?_
  have _f_6 := (_m2.ch0 _cw_3)
  refine WL_step rfl rfl (r_loadAt _f_6.at_ agg27 rfl rfl) ?_
  refine WL_step rfl rfl (r_fieldAddr fa29_0 rfl) ?_
  refine WL_step rfl rfl (r_loadAt _m3.at_ agg27 rfl rfl) ?_
  refine WL_s rfl rfl ?_
  have _f_7 := ((_h_a.ch0 _cw_2).ch0 _cw_3)
  have _f_8 := ((_h_b.ch0 _cw_2).ch0 _cw_3)
  refine Step.call (r_call (xs := [.tmp 6, .tmp 8]) fk52 rfl) (c_laws_eqTokenS _f_7 _f_8 ) fun _v9 _w_9 _q9 => ?_
  obtain ⟨rfl, _cw_9⟩ := _q9
  have _cw_9z := _cw_9.size
  have E := E.trans _cw_9
  refine WL_step rfl rfl (r_not rfl) ?_
  refine WL_nil ?_
  refine thn_nrm (_hK_5 _ _ ?_)
  clear _hK_5
  refine W_cond rfl (fun _h10 => ?_) (fun _h10 => ?_)
  · have _kb_10 := _h10
    have _h10 := bf_d (bt_n _h10)
    refine W_seq fun _K_11 _hK_11 => ?_
    refine W_region ?_
    refine WL_step rfl rfl (r_assign rfl) ?_
    refine WL_nil ?_
    refine thn_nrm (_hK_11 _ _ ?_)
    clear _hK_11
    refine W_ret (thn_ret ?_)
    clear _hK_4
    exact ret_intro [_] ⟨rfl, trivial⟩ ⟨congrArg Value.bool (by simp_all), E⟩
  · have _kb_10 := _h10
    have _h10 := bt_d (bf_n _h10)
    refine W_skip ?_
    refine thn_nrm (_hK_4 _ _ ?_)
    clear _hK_4
    refine W_seq fun _K_12 _hK_12 => ?_
    refine W_region ?_
    refine WL_step rfl rfl (r_assign rfl) ?_
    refine WL_nil ?_
    refine thn_nrm (_hK_12 _ _ ?_)
    clear _hK_12
    refine W_ret ?_
    exact ret_intro [_] ⟨rfl, trivial⟩ ⟨congrArg Value.bool (by simp_all), E⟩

/-- laws.heldTokenS -/
theorem c_laws_heldTokenS {w : World} {LL_a _B_a : Nat} {_v_a : Value} {a : List Token} (_h_a : Ls Token.cs 4 w LL_a _B_a _v_a a) (k : Int) (_hk0 : 0 ≤ k) (hkk : k + 4 * a.length ≤ 4611686018427387904) :
    Ctr Try.prog 59 #[_v_a, (.int .i64 k)] w (fun v w' => v = .int .i64 (if a = mkToken k a.length then k + 4 * a.length else -1) ∧ Ch [] w w') := by
  obtain ⟨_A_a, _C_a, _e1_a⟩ := _h_a.val
  subst _e1_a
  have _l_a := _h_a.len
  have _h_a := _h_a.here (by decide)
  have E := Ch.refl [] w
  refine Ctr_of_W (N := 49) (vs0 := [(.slice _A_a a.length _C_a), (.int .i64 k)]) Try.func59 rfl rfl rfl ?_
  refine W_seq fun _K_1 _hK_1 => ?_
  refine W_region ?_
  refine WL_step rfl rfl (r_assign rfl) ?_
  refine WL_nil ?_
  refine thn_nrm (_hK_1 _ _ ?_)
  clear _hK_1
  refine W_seq fun _K_2 _hK_2 => ?_
  refine W_seq fun _K_3 _hK_3 => ?_
  refine W_region ?_
  refine WL_step rfl rfl (r_assign rfl) ?_
  refine WL_nil ?_
  refine thn_nrm (_hK_3 _ _ ?_)
  clear _hK_3
  refine W_block ?_
  refine W_loop (σ := Nat × Int) (fun ⟨i, kk⟩ => [(0, (.slice _A_a a.length _C_a)), (1, (.int .i64 kk)), (5, (.int .i64 ((i : Nat) : Int)))]) (fun ⟨i, kk⟩ wx => Ch [] w wx ∧ w.heap.size ≤ wx.heap.size ∧ (i ≤ a.length) ∧ (kk = k + 4 * i) ∧ (a.take i = mkToken k i)) (fun ⟨i, kk⟩ => a.length - i) (0, k) (Sub.cons rfl (Sub.cons rfl (Sub.cons rfl (Sub.nil _)))) ⟨E, (Nat.le_refl _), (by omega), (by omega), rfl⟩ ?_
  rintro ⟨i, kk⟩ _wr_4 ⟨E, _zz0, hi, hq, _ht⟩
  have _E0h := E
  have _E0hz := _E0h.size
  refine W_seq fun _K_5 _hK_5 => ?_
  refine W_seq fun _K_6 _hK_6 => ?_
  refine W_region ?_
  refine WL_step rfl rfl (r_move rfl) ?_
  refine WL_step rfl rfl (r_move rfl) ?_
  refine WL_step rfl rfl (r_len (by rw [el27]; rfl) rfl) ?_
  refine WL_step rfl rfl (r_lss rfl rfl) ?_
  refine WL_nil ?_
  refine thn_nrm (_hK_6 _ _ ?_)
  clear _hK_6
  refine W_cond rfl (fun _h9 => ?_) (fun _h9 => ?_)
  · have _kb_7 := _h9
    have _h9 := bt_d _h9
    refine W_skip ?_
    refine thn_nrm (_hK_5 _ _ ?_)
    clear _hK_5
    refine W_seq fun _K_8 _hK_8 => ?_
    refine W_block ?_
    refine W_seq fun _K_9 _hK_9 => ?_
    refine W_seq fun _K_10 _hK_10 => ?_
    refine W_region ?_
    refine WL_step rfl rfl (r_move rfl) ?_
    refine WL_step rfl rfl (r_move rfl) ?_
    refine WL_s rfl rfl ?_
    have _f_11 := (_h_a.ch0 _E0h)
    refine (s_index _f_11 Token.len el27 sz57 rfl rfl rfl (by omega) fun _p14 _y14 _hy14 _a14 => ?_)
    refine WL_step rfl rfl (r_fieldAddr fa57_0 rfl) ?_
    refine WL_step rfl rfl (r_loadAt _a14 agg3 rfl rfl) ?_
    refine WL_step rfl rfl (r_move rfl) ?_
    refine WL_step rfl rfl (r_neq rfl rfl) ?_
    refine WL_nil ?_
    refine thn_nrm (_hK_10 _ _ ?_)
    clear _hK_10
    refine W_cond rfl (fun _h18 => ?_) (fun _h18 => ?_)
    · have _kb_12 := _h18
      have _h18 := bf_d (bt_n _h18)
      refine W_seq fun _K_13 _hK_13 => ?_
      refine W_region ?_
      refine WL_step rfl rfl (r_assign rfl) ?_
      refine WL_nil ?_
      refine thn_nrm (_hK_13 _ _ ?_)
      clear _hK_13
      refine W_ret (thn_ret (inB_ret (thn_ret (thn_ret (inB_ret (thn_ret ?_))))))
      clear _hK_2 _hK_8 _hK_9
      exact ret_intro [_] ⟨rfl, trivial⟩ ⟨congrArg (Value.int .i64) (if_neg (fun e => _h18 (by have _e2 := (heldToken_get e _hy14).1; omega))).symm, E⟩
    · have _kb_12 := _h18
      have _h18 := bt_d (bf_n _h18)
      refine W_skip ?_
      refine thn_nrm (_hK_9 _ _ ?_)
      clear _hK_9
      refine W_seq fun _K_14 _hK_14 => ?_
      refine W_region ?_
      refine WL_step rfl rfl (r_move rfl) ?_
      refine WL_step rfl rfl (r_add (by omega) rfl rfl) ?_
      refine WL_step rfl rfl (r_assign rfl) ?_
      refine WL_nil ?_
      refine thn_nrm (_hK_14 _ _ ?_)
      clear _hK_14
      refine W_seq fun _K_15 _hK_15 => ?_
      refine W_seq fun _K_16 _hK_16 => ?_
      refine W_region ?_
      refine WL_step rfl rfl (r_move rfl) ?_
      refine WL_step rfl rfl (r_move rfl) ?_
      refine WL_s rfl rfl ?_
      refine (s_index _f_11 Token.len el27 sz57 rfl rfl rfl (by omega) fun _p23 _y23 _hy23 _a23 => ?_)
      refine WL_step rfl rfl (r_fieldAddr fa57_1 rfl) ?_
      refine WL_step rfl rfl (r_loadAt _a23 agg3 rfl rfl) ?_
      refine WL_step rfl rfl (r_move rfl) ?_
      refine WL_step rfl rfl (r_neq rfl rfl) ?_
      refine WL_nil ?_
      refine thn_nrm (_hK_16 _ _ ?_)
      clear _hK_16
      refine W_cond rfl (fun _h27 => ?_) (fun _h27 => ?_)
      · have _kb_17 := _h27
        have _h27 := bf_d (bt_n _h27)
        refine W_seq fun _K_18 _hK_18 => ?_
        refine W_region ?_
        refine WL_step rfl rfl (r_assign rfl) ?_
        refine WL_nil ?_
        refine thn_nrm (_hK_18 _ _ ?_)
        clear _hK_18
        refine W_ret (thn_ret (inB_ret (thn_ret (thn_ret (inB_ret (thn_ret ?_))))))
        clear _hK_2 _hK_8 _hK_15
        exact ret_intro [_] ⟨rfl, trivial⟩ ⟨congrArg (Value.int .i64) (if_neg (fun e => _h27 (by have _e2 := (heldToken_get e _hy23).2.1; omega))).symm, E⟩
      · have _kb_17 := _h27
        have _h27 := bt_d (bf_n _h27)
        refine W_skip ?_
        refine thn_nrm (_hK_15 _ _ ?_)
        clear _hK_15
        refine W_seq fun _K_19 _hK_19 => ?_
        refine W_region ?_
        refine WL_step rfl rfl (r_move rfl) ?_
        refine WL_step rfl rfl (r_add (by omega) rfl rfl) ?_
        refine WL_step rfl rfl (r_assign rfl) ?_
        refine WL_nil ?_
        refine thn_nrm (_hK_19 _ _ ?_)
        clear _hK_19
        refine W_seq fun _K_20 _hK_20 => ?_
        refine W_seq fun _K_21 _hK_21 => ?_
        refine W_region ?_
        refine WL_step rfl rfl (r_move rfl) ?_
        refine WL_step rfl rfl (r_move rfl) ?_
        refine WL_s rfl rfl ?_
        refine (s_index _f_11 Token.len el27 sz57 rfl rfl rfl (by omega) fun _p32 _y32 _hy32 _a32 => ?_)
        refine WL_step rfl rfl (r_fieldAddr fa57_2 rfl) ?_
        refine WL_step rfl rfl (r_loadAt _a32 agg3 rfl rfl) ?_
        refine WL_step rfl rfl (r_move rfl) ?_
        refine WL_step rfl rfl (r_neq rfl rfl) ?_
        refine WL_nil ?_
        refine thn_nrm (_hK_21 _ _ ?_)
        clear _hK_21
        refine W_cond rfl (fun _h36 => ?_) (fun _h36 => ?_)
        · have _kb_22 := _h36
          have _h36 := bf_d (bt_n _h36)
          refine W_seq fun _K_23 _hK_23 => ?_
          refine W_region ?_
          refine WL_step rfl rfl (r_assign rfl) ?_
          refine WL_nil ?_
          refine thn_nrm (_hK_23 _ _ ?_)
          clear _hK_23
          refine W_ret (thn_ret (inB_ret (thn_ret (thn_ret (inB_ret (thn_ret ?_))))))
          clear _hK_2 _hK_8 _hK_20
          exact ret_intro [_] ⟨rfl, trivial⟩ ⟨congrArg (Value.int .i64) (if_neg (fun e => _h36 (by have _e2 := (heldToken_get e _hy32).2.2.1; omega))).symm, E⟩
        · have _kb_22 := _h36
          have _h36 := bt_d (bf_n _h36)
          refine W_skip ?_
          refine thn_nrm (_hK_20 _ _ ?_)
          clear _hK_20
          refine W_seq fun _K_24 _hK_24 => ?_
          refine W_region ?_
          refine WL_step rfl rfl (r_move rfl) ?_
          refine WL_step rfl rfl (r_add (by omega) rfl rfl) ?_
          refine WL_step rfl rfl (r_assign rfl) ?_
          refine WL_nil ?_
          refine thn_nrm (_hK_24 _ _ ?_)
          clear _hK_24
          refine W_seq fun _K_25 _hK_25 => ?_
          refine W_seq fun _K_26 _hK_26 => ?_
          refine W_region ?_
          refine WL_step rfl rfl (r_move rfl) ?_
          refine WL_step rfl rfl (r_move rfl) ?_
          refine WL_s rfl rfl ?_
          refine (s_index _f_11 Token.len el27 sz57 rfl rfl rfl (by omega) fun _p41 _y41 _hy41 _a41 => ?_)
          refine WL_step rfl rfl (r_fieldAddr fa57_3 rfl) ?_
          refine WL_step rfl rfl (r_loadAt _a41 agg3 rfl rfl) ?_
          refine WL_step rfl rfl (r_move rfl) ?_
          refine WL_step rfl rfl (r_neq rfl rfl) ?_
          refine WL_nil ?_
          refine thn_nrm (_hK_26 _ _ ?_)
          clear _hK_26
          refine W_cond rfl (fun _h45 => ?_) (fun _h45 => ?_)
          · have _kb_27 := _h45
            have _h45 := bf_d (bt_n _h45)
            refine W_seq fun _K_28 _hK_28 => ?_
            refine W_region ?_
            refine WL_step rfl rfl (r_assign rfl) ?_
            refine WL_nil ?_
            refine thn_nrm (_hK_28 _ _ ?_)
            clear _hK_28
            refine W_ret (thn_ret (inB_ret (thn_ret (thn_ret (inB_ret (thn_ret ?_))))))
            clear _hK_2 _hK_8 _hK_25
            exact ret_intro [_] ⟨rfl, trivial⟩ ⟨congrArg (Value.int .i64) (if_neg (fun e => _h45 (by have _e2 := (heldToken_get e _hy41).2.2.2; omega))).symm, E⟩
          · have _kb_27 := _h45
            have _h45 := bt_d (bf_n _h45)
            refine W_skip ?_
            refine thn_nrm (_hK_25 _ _ ?_)
            clear _hK_25
            refine W_region ?_
            refine WL_step rfl rfl (r_move rfl) ?_
            refine WL_step rfl rfl (r_add (by omega) rfl rfl) ?_
            refine WL_step rfl rfl (r_assign rfl) ?_
            refine WL_nil ?_
            refine inB_nrm ?_
            refine thn_nrm (_hK_8 _ _ ?_)
            clear _hK_8
            refine W_region ?_
            refine WL_step rfl rfl (r_move rfl) ?_
            refine WL_step rfl rfl (r_add (by omega) rfl rfl) ?_
            refine WL_step rfl rfl (r_assign rfl) ?_
            refine WL_nil ?_
            exact thn_nrm (Exists.intro ((i + 1), ((((kk + 1) + 1) + 1) + 1)) ⟨⟨E, (by omega), (by omega), (by omega), (heldToken_step _ht hq _hy14 _h18 _hy23 _h27 _hy32 _h36 _hy41 _h45)⟩, Sub.cons rfl (Sub.cons rfl (Sub.cons rfl (Sub.nil _))), (by first | omega | (dsimp only; omega))⟩)
  · have _kb_7 := _h9
    have _h9 := bf_d _h9
    refine W_exit (thn_exit (thn_exit (inB_hit ?_)))
    refine thn_nrm (_hK_2 _ _ ?_)
    clear _hK_2
    refine W_seq fun _K_29 _hK_29 => ?_
    refine W_region ?_
    refine WL_step rfl rfl (r_move rfl) ?_
    refine WL_step rfl rfl (r_assign rfl) ?_
    refine WL_nil ?_
    refine thn_nrm (_hK_29 _ _ ?_)
    clear _hK_29
    refine W_ret ?_
    clear _hK_5
    exact ret_intro [_] ⟨rfl, trivial⟩ ⟨congrArg (Value.int .i64) (by rw [if_pos (heldToken_all _ht (by omega) (by omega))]; omega), E⟩

/-- laws.heldExpr -/
theorem c_laws_heldExpr {w : World} {LL_a _B_a : Nat} {_v_a : Value} {a : List Token} (_h_a : Ls Token.cs 4 w LL_a _B_a _v_a a) (k : Int) (_hk0 : 0 ≤ k) (hkk : k + 4 * a.length ≤ 4611686018427387904) :
    Ctr Try.prog 26 #[(.agg #[_v_a]), (.int .i64 k)] w (fun v w' => v = .int .i64 (if a = mkToken k a.length then k + 4 * a.length else -1) ∧ Ch [] w w') := by
  obtain ⟨_A_a, _C_a, _e1_a⟩ := _h_a.val
  subst _e1_a
  have _l_a := _h_a.len
  have _h_a := _h_a.here (by decide)
  have E := Ch.refl [] w
  refine Ctr_of_W (N := 12) (vs0 := [(.agg #[(.slice _A_a a.length _C_a)]), (.int .i64 k)]) Try.func26 rfl rfl rfl ?_
  refine W_seq fun _K_1 _hK_1 => ?_
  refine W_region ?_
  refine WL_s rfl rfl ?_
  refine s_box rfl fun _b2 _w_2 _m2 _cw_2 _e2 => ?_
  have _cw_2z := _cw_2.size
  have E := E.trans _cw_2
  have _z2 := _m2.lt
  replace _m2 : Blk _w_2 _b2 29 [(.slice _A_a a.length _C_a)] := _m2
  refine WL_step rfl rfl (r_assign rfl) ?_
  refine WL_nil ?_
  refine thn_nrm (_hK_1 _ _ ?_)
  clear _hK_1
  refine W_seq fun _K_3 _hK_3 => ?_
  refine W_region ?_
  refine WL_step rfl rfl (r_fieldAddr fa29_0 rfl) ?_
  refine WL_step rfl rfl (r_loadAt _m2.at_ agg27 rfl rfl) ?_
  refine WL_step rfl rfl (r_move rfl) ?_
  refine WL_s rfl rfl ?_
  have _f_4 := (_h_a.ch0 _cw_2)
  refine Step.call (r_call (xs := [.tmp 6, .tmp 7]) fk59 rfl) (c_laws_heldTokenS _f_4 _ (by omega) (by first | omega | (simp <;> omega))) fun _v8 _w_5 _q8 => ?_
  obtain ⟨rfl, _cw_5⟩ := _q8
  have _cw_5z := _cw_5.size
  have E := E.trans _cw_5
  refine WL_step rfl rfl (r_assign rfl) ?_
  refine WL_nil ?_
  refine thn_nrm (_hK_3 _ _ ?_)
  clear _hK_3
  refine W_seq fun _K_6 _hK_6 => ?_
  refine W_seq fun _K_7 _hK_7 => ?_
  refine W_region ?_
  refine WL_step rfl rfl (r_move rfl) ?_
  refine WL_step rfl rfl (r_lss rfl rfl) ?_
  refine WL_nil ?_
  refine thn_nrm (_hK_7 _ _ ?_)
  clear _hK_7
  refine W_cond rfl (fun _h10 => ?_) (fun _h10 => ?_)
  · have _kb_8 := _h10
    have _h10 := bt_d _h10
    refine W_seq fun _K_9 _hK_9 => ?_
    refine W_region ?_
    refine WL_step rfl rfl (r_assign rfl) ?_
    refine WL_nil ?_
    refine thn_nrm (_hK_9 _ _ ?_)
    clear _hK_9
    refine W_ret (thn_ret ?_)
    clear _hK_6
    exact ret_intro [_] ⟨rfl, trivial⟩ ⟨congrArg (Value.int .i64) (by split <;> (first | rfl | (rename_i hc; rw [if_pos hc] at _h10; omega))), E⟩
  · have _kb_8 := _h10
    have _h10 := bf_d _h10
    refine W_skip ?_
    refine thn_nrm (_hK_6 _ _ ?_)
    clear _hK_6
    refine W_seq fun _K_10 _hK_10 => ?_
    refine W_region ?_
    refine WL_step rfl rfl (r_move rfl) ?_
    refine WL_step rfl rfl (r_assign rfl) ?_
    refine WL_nil ?_
    refine thn_nrm (_hK_10 _ _ ?_)
    clear _hK_10
    refine W_ret ?_
    exact ret_intro [_] ⟨rfl, trivial⟩ ⟨congrArg (Value.int .i64) rfl, E⟩

/-- laws.markTokenS -/
theorem c_laws_markTokenS {w : World} {e_a : Nat} {_v_a : Value} {a : List Token} (_h_a : Ol Token.cs e_a 4 w _v_a a) (k : Int) (_hk0 : 0 ≤ k) (hkk : k + 4 * a.length ≤ 4611686018427387904) :
    Ctr Try.prog 58 #[_v_a, (.int .i64 k)] w (fun v w' => v = .int .i64 (k + 4 * a.length) ∧ Ol Token.cs e_a 4 w' _v_a (mkToken k a.length) ∧ Ch (bl _v_a) w w') := by
  obtain ⟨_A_a, _C_a, _e1_a⟩ := _h_a.val
  subst _e1_a
  have _l_a := _h_a.len
  have _lt_a := _h_a.lt
  have E := Ch.refl (bl (.slice _A_a a.length _C_a)) w
  refine Ctr_of_W (N := 41) (vs0 := [(.slice _A_a a.length _C_a), (.int .i64 k)]) Try.func58 rfl rfl rfl ?_
  refine W_seq fun _K_1 _hK_1 => ?_
  refine W_region ?_
  refine WL_step rfl rfl (r_assign rfl) ?_
  refine WL_nil ?_
  refine thn_nrm (_hK_1 _ _ ?_)
  clear _hK_1
  refine W_seq fun _K_2 _hK_2 => ?_
  refine W_seq fun _K_3 _hK_3 => ?_
  refine W_region ?_
  refine WL_step rfl rfl (r_assign rfl) ?_
  refine WL_nil ?_
  refine thn_nrm (_hK_3 _ _ ?_)
  clear _hK_3
  refine W_block ?_
  have _oi_4 : Ol Token.cs e_a 4 w (.slice _A_a a.length _C_a) (mkToken k 0 ++ a.drop 0) := by
    have hx := _h_a
    simpa [mkToken] using hx
  refine W_loop (σ := Nat × Int) (fun ⟨i, kk⟩ => [(0, (.slice _A_a a.length _C_a)), (1, (.int .i64 kk)), (4, (.int .i64 0)), (5, (.int .i64 ((i : Nat) : Int)))]) (fun ⟨i, kk⟩ wx => Ch (bl (.slice _A_a a.length _C_a)) w wx ∧ w.heap.size ≤ wx.heap.size ∧ (i ≤ a.length) ∧ (kk = k + 4 * i) ∧ Ol Token.cs e_a 4 wx (.slice _A_a a.length _C_a) (mkToken k i ++ a.drop i)) (fun ⟨i, kk⟩ => a.length - i) (0, k) (Sub.cons rfl (Sub.cons rfl (Sub.cons rfl (Sub.cons rfl (Sub.nil _))))) ⟨E, (Nat.le_refl _), (by omega), (by omega), _oi_4⟩ ?_
  rintro ⟨i, kk⟩ _wr_5 ⟨E, _zz0, hi, hq, _o0_0⟩
  have _E0h := E
  have _E0hz := _E0h.size
  refine W_seq fun _K_6 _hK_6 => ?_
  refine W_seq fun _K_7 _hK_7 => ?_
  refine W_region ?_
  refine WL_step rfl rfl (r_move rfl) ?_
  refine WL_step rfl rfl (r_move rfl) ?_
  refine WL_step rfl rfl (r_len (by rw [el27]; rfl) rfl) ?_
  refine WL_step rfl rfl (r_lss rfl rfl) ?_
  refine WL_nil ?_
  refine thn_nrm (_hK_7 _ _ ?_)
  clear _hK_7
  refine W_cond rfl (fun _h9 => ?_) (fun _h9 => ?_)
  · have _kb_8 := _h9
    have _h9 := bt_d _h9
    refine W_skip ?_
    refine thn_nrm (_hK_6 _ _ ?_)
    clear _hK_6
    refine W_seq fun _K_9 _hK_9 => ?_
    refine W_block ?_
    refine W_seq fun _K_10 _hK_10 => ?_
    refine W_region ?_
    refine WL_step rfl rfl (r_move rfl) ?_
    refine WL_step rfl rfl (r_move rfl) ?_
    refine WL_step rfl rfl (r_move rfl) ?_
    refine WL_s rfl rfl ?_
    refine s_indexO (j := i) _o0_0 el27 sz57 rfl rfl rfl (by first | omega | (simp [mkToken] <;> omega)) fun _g15 _o15 _cp15 _q15 => ?_
    refine WL_step rfl rfl (r_fieldAddr fa57_0 rfl) ?_
    refine WL_s rfl rfl ?_
    obtain ⟨ye_13, hy_14⟩ := get_some (xs := mkToken k i ++ a.drop i) (j := i) (by first | omega | (simp [mkToken] <;> omega))
    refine s_storeF (j := i) 0 (⟨ye_13.kind, ye_13.letter, ye_13.low, ye_13.high⟩ : Token) (⟨kk, ye_13.letter, ye_13.low, ye_13.high⟩ : Token) _o0_0 _q15 hy_14 Token.len rfl sz3 rfl rfl rfl rfl fun _w_11 _o_12 _cw_11 => ?_
    have _cw_11z := _cw_11.size
    have E := E.trans _cw_11
    refine WL_nil ?_
    refine thn_nrm (_hK_10 _ _ ?_)
    clear _hK_10
    refine W_seq fun _K_15 _hK_15 => ?_
    refine W_region ?_
    refine WL_step rfl rfl (r_move rfl) ?_
    refine WL_step rfl rfl (r_add (by omega) rfl rfl) ?_
    refine WL_step rfl rfl (r_assign rfl) ?_
    refine WL_nil ?_
    refine thn_nrm (_hK_15 _ _ ?_)
    clear _hK_15
    refine W_seq fun _K_16 _hK_16 => ?_
    refine W_region ?_
    refine WL_step rfl rfl (r_move rfl) ?_
    refine WL_step rfl rfl (r_move rfl) ?_
    refine WL_step rfl rfl (r_move rfl) ?_
    refine WL_s rfl rfl ?_
    refine s_indexO (j := i) _o_12 el27 sz57 rfl rfl rfl (by first | omega | (simp [mkToken] <;> omega)) fun _g22 _o22 _cp22 _q22 => ?_
    refine WL_step rfl rfl (r_fieldAddr fa57_1 rfl) ?_
    refine WL_s rfl rfl ?_
    refine s_storeF (j := i) 1 (⟨kk, ye_13.letter, ye_13.low, ye_13.high⟩ : Token) (⟨kk, (kk + 1), ye_13.low, ye_13.high⟩ : Token) _o_12 _q22 (get_set hy_14 _) Token.len rfl sz3 rfl rfl rfl rfl fun _w_17 _o_18 _cw_17 => ?_
    rw [List.set_set] at _o_18
    have _cw_17z := _cw_17.size
    have E := E.trans _cw_17
    refine WL_nil ?_
    refine thn_nrm (_hK_16 _ _ ?_)
    clear _hK_16
    refine W_seq fun _K_19 _hK_19 => ?_
    refine W_region ?_
    refine WL_step rfl rfl (r_move rfl) ?_
    refine WL_step rfl rfl (r_add (by omega) rfl rfl) ?_
    refine WL_step rfl rfl (r_assign rfl) ?_
    refine WL_nil ?_
    refine thn_nrm (_hK_19 _ _ ?_)
    clear _hK_19
    refine W_seq fun _K_20 _hK_20 => ?_
    refine W_region ?_
    refine WL_step rfl rfl (r_move rfl) ?_
    refine WL_step rfl rfl (r_move rfl) ?_
    refine WL_step rfl rfl (r_move rfl) ?_
    refine WL_s rfl rfl ?_
    refine s_indexO (j := i) _o_18 el27 sz57 rfl rfl rfl (by first | omega | (simp [mkToken] <;> omega)) fun _g29 _o29 _cp29 _q29 => ?_
    refine WL_step rfl rfl (r_fieldAddr fa57_2 rfl) ?_
    refine WL_s rfl rfl ?_
    refine s_storeF (j := i) 2 (⟨kk, (kk + 1), ye_13.low, ye_13.high⟩ : Token) (⟨kk, (kk + 1), ((kk + 1) + 1), ye_13.high⟩ : Token) _o_18 _q29 (get_set hy_14 _) Token.len rfl sz3 rfl rfl rfl rfl fun _w_21 _o_22 _cw_21 => ?_
    rw [List.set_set] at _o_22
    have _cw_21z := _cw_21.size
    have E := E.trans _cw_21
    refine WL_nil ?_
    refine thn_nrm (_hK_20 _ _ ?_)
    clear _hK_20
    refine W_seq fun _K_23 _hK_23 => ?_
    refine W_region ?_
    refine WL_step rfl rfl (r_move rfl) ?_
    refine WL_step rfl rfl (r_add (by omega) rfl rfl) ?_
    refine WL_step rfl rfl (r_assign rfl) ?_
    refine WL_nil ?_
    refine thn_nrm (_hK_23 _ _ ?_)
    clear _hK_23
    refine W_seq fun _K_24 _hK_24 => ?_
    refine W_region ?_
    refine WL_step rfl rfl (r_move rfl) ?_
    refine WL_step rfl rfl (r_move rfl) ?_
    refine WL_step rfl rfl (r_move rfl) ?_
    refine WL_s rfl rfl ?_
    refine s_indexO (j := i) _o_22 el27 sz57 rfl rfl rfl (by first | omega | (simp [mkToken] <;> omega)) fun _g36 _o36 _cp36 _q36 => ?_
    refine WL_step rfl rfl (r_fieldAddr fa57_3 rfl) ?_
    refine WL_s rfl rfl ?_
    refine s_storeF (j := i) 3 (⟨kk, (kk + 1), ((kk + 1) + 1), ye_13.high⟩ : Token) (⟨kk, (kk + 1), ((kk + 1) + 1), (((kk + 1) + 1) + 1)⟩ : Token) _o_22 _q36 (get_set hy_14 _) Token.len rfl sz3 rfl rfl rfl rfl fun _w_25 _o_26 _cw_25 => ?_
    rw [List.set_set] at _o_26
    have _cw_25z := _cw_25.size
    have E := E.trans _cw_25
    refine WL_nil ?_
    refine thn_nrm (_hK_24 _ _ ?_)
    clear _hK_24
    refine W_region ?_
    refine WL_step rfl rfl (r_move rfl) ?_
    refine WL_step rfl rfl (r_add (by omega) rfl rfl) ?_
    refine WL_step rfl rfl (r_assign rfl) ?_
    refine WL_nil ?_
    refine inB_nrm ?_
    refine thn_nrm (_hK_9 _ _ ?_)
    clear _hK_9
    refine W_region ?_
    refine WL_step rfl rfl (r_move rfl) ?_
    refine WL_step rfl rfl (r_add (by omega) rfl rfl) ?_
    refine WL_step rfl rfl (r_assign rfl) ?_
    refine WL_nil ?_
    have _on_27 : Ol Token.cs e_a 4 _w_25 (.slice _A_a a.length _C_a) (mkToken k (i + 1) ++ a.drop (i + 1)) := by
      have hx := _o_26
      rwa [mkToken_step a (by omega) hq] at hx
    exact thn_nrm (Exists.intro ((i + 1), ((((kk + 1) + 1) + 1) + 1)) ⟨⟨E, (by omega), (by omega), (by omega), _on_27⟩, Sub.cons rfl (Sub.cons rfl (Sub.cons rfl (Sub.cons rfl (Sub.nil _)))), (by first | omega | (dsimp only; omega))⟩)
  · have _kb_8 := _h9
    have _h9 := bf_d _h9
    refine W_exit (thn_exit (thn_exit (inB_hit ?_)))
    refine thn_nrm (_hK_2 _ _ ?_)
    clear _hK_2
    refine W_seq fun _K_28 _hK_28 => ?_
    refine W_region ?_
    refine WL_step rfl rfl (r_move rfl) ?_
    refine WL_step rfl rfl (r_assign rfl) ?_
    refine WL_nil ?_
    refine thn_nrm (_hK_28 _ _ ?_)
    clear _hK_28
    refine W_ret ?_
    clear _hK_6
    have _o_29 : Ol Token.cs e_a 4 _wr_5 (.slice _A_a a.length _C_a) (mkToken k a.length) := by
      have hx := _o0_0
      have _e1 : i = a.length := (by omega); subst _e1; simpa using hx
    exact ret_intro [_] ⟨rfl, trivial⟩ ⟨congrArg (Value.int .i64) (by omega), _o_29, E⟩

/-- laws.markExpr -/
theorem c_laws_markExpr {w : World} {e_a : Nat} {_v_a : Value} {a : List Token} (_h_a : Ol Token.cs e_a 4 w _v_a a) (k : Int) (_hk0 : 0 ≤ k) (hkk : k + 4 * a.length ≤ 4611686018427387904) :
    Ctr Try.prog 25 #[(.agg #[_v_a]), (.int .i64 k)] w (fun v w' => v = .int .i64 (k + 4 * a.length) ∧ Ol Token.cs e_a 4 w' _v_a (mkToken k a.length) ∧ Ch (bl _v_a) w w') := by
  obtain ⟨_A_a, _C_a, _e1_a⟩ := _h_a.val
  subst _e1_a
  have _l_a := _h_a.len
  have _lt_a := _h_a.lt
  have E := Ch.refl (bl (.slice _A_a a.length _C_a)) w
  refine Ctr_of_W (N := 10) (vs0 := [(.agg #[(.slice _A_a a.length _C_a)]), (.int .i64 k)]) Try.func25 rfl rfl rfl ?_
  refine W_seq fun _K_1 _hK_1 => ?_
  refine W_region ?_
  refine WL_s rfl rfl ?_
  refine s_box rfl fun _b2 _w_2 _m2 _cw_2 _e2 => ?_
  have _cw_2z := _cw_2.size
  have E := E.trans _cw_2.of_nil
  have _z2 := _m2.lt
  replace _m2 : Blk _w_2 _b2 29 [(.slice _A_a a.length _C_a)] := _m2
  refine WL_step rfl rfl (r_assign rfl) ?_
  refine WL_nil ?_
  refine thn_nrm (_hK_1 _ _ ?_)
  clear _hK_1
  refine W_seq fun _K_3 _hK_3 => ?_
  refine W_region ?_
  refine WL_step rfl rfl (r_fieldAddr fa29_0 rfl) ?_
  refine WL_step rfl rfl (r_loadAt _m2.at_ agg27 rfl rfl) ?_
  refine WL_step rfl rfl (r_move rfl) ?_
  refine WL_s rfl rfl ?_
  have _f_4 := (_h_a.ch0 _cw_2)
  refine Step.call (r_call (xs := [.tmp 6, .tmp 7]) fk58 rfl) (c_laws_markTokenS _f_4 _ (by omega) (by first | omega | (simp <;> omega))) fun _v8 _w_5 _q8 => ?_
  obtain ⟨rfl, _q8, _cw_5⟩ := _q8
  have _cw_5z := _cw_5.size
  have E := E.trans _cw_5
  refine WL_step rfl rfl (r_assign rfl) ?_
  refine WL_nil ?_
  refine thn_nrm (_hK_3 _ _ ?_)
  clear _hK_3
  refine W_seq fun _K_6 _hK_6 => ?_
  refine W_region ?_
  refine WL_step rfl rfl (r_move rfl) ?_
  refine WL_step rfl rfl (r_assign rfl) ?_
  refine WL_nil ?_
  refine thn_nrm (_hK_6 _ _ ?_)
  clear _hK_6
  refine W_ret ?_
  have _o_7 : Ol Token.cs e_a 4 _w_5 (.slice _A_a a.length _C_a) (mkToken k a.length) := by
    have hx := _q8
    first | exact hx | simpa using hx
  exact ret_intro [_] ⟨rfl, trivial⟩ ⟨congrArg (Value.int .i64) rfl, _o_7, E⟩

/-- laws.szTokenS -/
theorem c_laws_szTokenS {w : World} {LL_a _B_a : Nat} {_v_a : Value} {a : List Token} (_h_a : Ls Token.cs 4 w LL_a _B_a _v_a a) (left : Int) (hl : left ≤ 1048576) (_h0 : 0 ≤ left) :
    Ctr Try.prog 48 #[_v_a, (.int .i64 left)] w (fun v w' => v = .int .i64 (if left < a.length then -1 else left - a.length) ∧ Ch [] w w') := by
  obtain ⟨_A_a, _C_a, _e1_a⟩ := _h_a.val
  subst _e1_a
  have _l_a := _h_a.len
  have _h_a := _h_a.here (by decide)
  have E := Ch.refl [] w
  refine Ctr_of_W (N := 12) (vs0 := [(.slice _A_a a.length _C_a), (.int .i64 left)]) Try.func48 rfl rfl rfl ?_
  refine W_seq fun _K_1 _hK_1 => ?_
  refine W_region ?_
  refine WL_step rfl rfl (r_assign rfl) ?_
  refine WL_nil ?_
  refine thn_nrm (_hK_1 _ _ ?_)
  clear _hK_1
  refine W_seq fun _K_2 _hK_2 => ?_
  refine W_region ?_
  refine WL_step rfl rfl (r_move rfl) ?_
  refine WL_step rfl rfl (r_move rfl) ?_
  refine WL_step rfl rfl (r_len (by rw [el22]; rfl) rfl) ?_
  refine WL_step rfl rfl (r_sub (by omega) rfl rfl) ?_
  refine WL_step rfl rfl (r_assign rfl) ?_
  refine WL_nil ?_
  refine thn_nrm (_hK_2 _ _ ?_)
  clear _hK_2
  refine W_seq fun _K_3 _hK_3 => ?_
  refine W_seq fun _K_4 _hK_4 => ?_
  refine W_region ?_
  refine WL_step rfl rfl (r_move rfl) ?_
  refine WL_step rfl rfl (r_lss rfl rfl) ?_
  refine WL_nil ?_
  refine thn_nrm (_hK_4 _ _ ?_)
  clear _hK_4
  refine W_cond rfl (fun _h10 => ?_) (fun _h10 => ?_)
  · have _kb_5 := _h10
    have _h10 := bt_d _h10
    refine W_seq fun _K_6 _hK_6 => ?_
    refine W_region ?_
    refine WL_step rfl rfl (r_assign rfl) ?_
    refine WL_nil ?_
    refine thn_nrm (_hK_6 _ _ ?_)
    clear _hK_6
    refine W_ret (thn_ret ?_)
    clear _hK_3
    exact ret_intro [_] ⟨rfl, trivial⟩ ⟨congrArg (Value.int .i64) (if_pos (by omega)).symm, E⟩
  · have _kb_5 := _h10
    have _h10 := bf_d _h10
    refine W_skip ?_
    refine thn_nrm (_hK_3 _ _ ?_)
    clear _hK_3
    refine W_seq fun _K_7 _hK_7 => ?_
    refine W_region ?_
    refine WL_step rfl rfl (r_move rfl) ?_
    refine WL_step rfl rfl (r_assign rfl) ?_
    refine WL_nil ?_
    refine thn_nrm (_hK_7 _ _ ?_)
    clear _hK_7
    refine W_ret ?_
    exact ret_intro [_] ⟨rfl, trivial⟩ ⟨congrArg (Value.int .i64) (if_neg (by omega)).symm, E⟩

/-- laws.szExpr -/
theorem c_laws_szExpr {w : World} {LL_a _B_a : Nat} {_v_a : Value} {a : List Token} (_h_a : Ls Token.cs 4 w LL_a _B_a _v_a a) (left : Int) (hl : left ≤ 1048576) (_h0 : 0 ≤ left) :
    Ctr Try.prog 14 #[(.agg #[_v_a]), (.int .i64 left)] w (fun v w' => v = .int .i64 (if left < a.length then -1 else left - a.length) ∧ Ch [] w w') := by
  obtain ⟨_A_a, _C_a, _e1_a⟩ := _h_a.val
  subst _e1_a
  have _l_a := _h_a.len
  have _h_a := _h_a.here (by decide)
  have E := Ch.refl [] w
  refine Ctr_of_W (N := 12) (vs0 := [(.agg #[(.slice _A_a a.length _C_a)]), (.int .i64 left)]) Try.func14 rfl rfl rfl ?_
  refine W_seq fun _K_1 _hK_1 => ?_
  refine W_region ?_
  refine WL_s rfl rfl ?_
  refine s_box rfl fun _b2 _w_2 _m2 _cw_2 _e2 => ?_
  have _cw_2z := _cw_2.size
  have E := E.trans _cw_2
  have _z2 := _m2.lt
  replace _m2 : Blk _w_2 _b2 24 [(.slice _A_a a.length _C_a)] := _m2
  refine WL_step rfl rfl (r_assign rfl) ?_
  refine WL_nil ?_
  refine thn_nrm (_hK_1 _ _ ?_)
  clear _hK_1
  refine W_seq fun _K_3 _hK_3 => ?_
  refine W_region ?_
  refine WL_step rfl rfl (r_fieldAddr fa24_0 rfl) ?_
  refine WL_step rfl rfl (r_loadAt _m2.at_ agg22 rfl rfl) ?_
  refine WL_step rfl rfl (r_move rfl) ?_
  refine WL_s rfl rfl ?_
  have _f_4 := (_h_a.ch0 _cw_2)
  refine Step.call (r_call (xs := [.tmp 6, .tmp 7]) fk48 rfl) (c_laws_szTokenS _f_4 _ (by omega) (by omega)) fun _v8 _w_5 _q8 => ?_
  obtain ⟨rfl, _cw_5⟩ := _q8
  have _cw_5z := _cw_5.size
  have E := E.trans _cw_5
  refine WL_step rfl rfl (r_assign rfl) ?_
  refine WL_nil ?_
  refine thn_nrm (_hK_3 _ _ ?_)
  clear _hK_3
  refine W_seq fun _K_6 _hK_6 => ?_
  refine W_seq fun _K_7 _hK_7 => ?_
  refine W_region ?_
  refine WL_step rfl rfl (r_move rfl) ?_
  refine WL_step rfl rfl (r_lss rfl rfl) ?_
  refine WL_nil ?_
  refine thn_nrm (_hK_7 _ _ ?_)
  clear _hK_7
  refine W_cond rfl (fun _h10 => ?_) (fun _h10 => ?_)
  · have _kb_8 := _h10
    have _h10 := bt_d _h10
    refine W_seq fun _K_9 _hK_9 => ?_
    refine W_region ?_
    refine WL_step rfl rfl (r_assign rfl) ?_
    refine WL_nil ?_
    refine thn_nrm (_hK_9 _ _ ?_)
    clear _hK_9
    refine W_ret (thn_ret ?_)
    clear _hK_6
    exact ret_intro [_] ⟨rfl, trivial⟩ ⟨congrArg (Value.int .i64) (by split <;> omega), E⟩
  · have _kb_8 := _h10
    have _h10 := bf_d _h10
    refine W_skip ?_
    refine thn_nrm (_hK_6 _ _ ?_)
    clear _hK_6
    refine W_seq fun _K_10 _hK_10 => ?_
    refine W_region ?_
    refine WL_step rfl rfl (r_move rfl) ?_
    refine WL_step rfl rfl (r_assign rfl) ?_
    refine WL_nil ?_
    refine thn_nrm (_hK_10 _ _ ?_)
    clear _hK_10
    refine W_ret ?_
    exact ret_intro [_] ⟨rfl, trivial⟩ ⟨congrArg (Value.int .i64) (by split <;> omega), E⟩

/-- laws.toToken -/
theorem c_laws_toToken {w : World} (a : Token) :
    Ctr Try.prog 80 #[(.agg #[(.int .i64 a.kind), (.int .i64 a.letter), (.int .i64 a.low), (.int .i64 a.high)])] w (fun v w' => v = .agg (Token.cs (a)).toArray ∧ Ch [] w w') := by
  have E := Ch.refl [] w
  refine Ctr_of_W (N := 17) (vs0 := [(.agg #[(.int .i64 a.kind), (.int .i64 a.letter), (.int .i64 a.low), (.int .i64 a.high)])]) Try.func80 rfl rfl rfl ?_
  refine W_seq fun _K_1 _hK_1 => ?_
  refine W_region ?_
  refine WL_s rfl rfl ?_
  refine s_box rfl fun _b1 _w_2 _m1 _cw_2 _e1 => ?_
  have _cw_2z := _cw_2.size
  have E := E.trans _cw_2
  have _z1 := _m1.lt
  replace _m1 : Blk _w_2 _b1 90 [(.int .i64 a.kind), (.int .i64 a.letter), (.int .i64 a.low), (.int .i64 a.high)] := _m1
  refine WL_s rfl rfl ?_
  refine s_alloc zr57 fun _b2 _w_3 _m2 _cw_3 _e2 => ?_
  have _cw_3z := _cw_3.size
  have E := E.trans _cw_3
  have _z2 := _m2.lt
  replace _m2 : Blk _w_3 _b2 57 [(.int .i64 0), (.int .i64 0), (.int .i64 0), (.int .i64 0)] := _m2
  refine WL_nil ?_
  refine thn_nrm (_hK_1 _ _ ?_)
  clear _hK_1
  refine W_seq fun _K_4 _hK_4 => ?_
  refine W_region ?_
  refine WL_s rfl rfl ?_
  refine s_alloc zr57 fun _b3 _w_5 _m3 _cw_5 _e3 => ?_
  have _cw_5z := _cw_5.size
  have E := E.trans _cw_5
  have _z3 := _m3.lt
  replace _m3 : Blk _w_5 _b3 57 [(.int .i64 0), (.int .i64 0), (.int .i64 0), (.int .i64 0)] := _m3
  refine WL_nil ?_
  refine thn_nrm (_hK_4 _ _ ?_)
  clear _hK_4
  refine W_seq fun _K_6 _hK_6 => ?_
  refine W_region ?_
  refine WL_step rfl rfl (r_fieldAddr fa90_0 rfl) ?_
  have _f_7 := ((_m1.ch0 _cw_3).ch0 _cw_5)
  refine WL_step rfl rfl (r_loadAt _f_7.at_ agg3 rfl rfl) ?_
  refine WL_step rfl rfl (r_fieldAddr fa57_0 rfl) ?_
  refine WL_s rfl rfl ?_
  refine s_store1 (off := 0) _m3 sz3 rfl rfl rfl rfl fun _w_8 _m_9 _cw_8 => ?_
  have _cw_8z := _cw_8.size
  have E := E.step _cw_8 (fun i hi => .inl (by have _h1 := List.mem_singleton.1 hi; omega))
  replace _m_9 : Blk _w_8 _b3 57 [(.int .i64 a.kind), (.int .i64 0), (.int .i64 0), (.int .i64 0)] := _m_9
  refine WL_nil ?_
  refine thn_nrm (_hK_6 _ _ ?_)
  clear _hK_6
  refine W_seq fun _K_10 _hK_10 => ?_
  refine W_region ?_
  refine WL_step rfl rfl (r_fieldAddr fa90_1 rfl) ?_
  have _f_11 := (_f_7.ch _cw_8 (fun hm => by have _h1 := List.mem_singleton.1 hm; omega))
  refine WL_step rfl rfl (r_loadAt _f_11.at_ agg3 rfl rfl) ?_
  refine WL_step rfl rfl (r_fieldAddr fa57_1 rfl) ?_
  refine WL_s rfl rfl ?_
  refine s_store1 (off := 1) _m_9 sz3 rfl rfl rfl rfl fun _w_12 _m_13 _cw_12 => ?_
  have _cw_12z := _cw_12.size
  have E := E.step _cw_12 (fun i hi => .inl (by have _h1 := List.mem_singleton.1 hi; omega))
  replace _m_13 : Blk _w_12 _b3 57 [(.int .i64 a.kind), (.int .i64 a.letter), (.int .i64 0), (.int .i64 0)] := _m_13
  refine WL_nil ?_
  refine thn_nrm (_hK_10 _ _ ?_)
  clear _hK_10
  refine W_seq fun _K_14 _hK_14 => ?_
  refine W_region ?_
  refine WL_step rfl rfl (r_fieldAddr fa90_2 rfl) ?_
  have _f_15 := (_f_11.ch _cw_12 (fun hm => by have _h1 := List.mem_singleton.1 hm; omega))
  refine WL_step rfl rfl (r_loadAt _f_15.at_ agg3 rfl rfl) ?_
  refine WL_step rfl rfl (r_fieldAddr fa57_2 rfl) ?_
  refine WL_s rfl rfl ?_
  refine s_store1 (off := 2) _m_13 sz3 rfl rfl rfl rfl fun _w_16 _m_17 _cw_16 => ?_
  have _cw_16z := _cw_16.size
  have E := E.step _cw_16 (fun i hi => .inl (by have _h1 := List.mem_singleton.1 hi; omega))
  replace _m_17 : Blk _w_16 _b3 57 [(.int .i64 a.kind), (.int .i64 a.letter), (.int .i64 a.low), (.int .i64 0)] := _m_17
  refine WL_nil ?_
  refine thn_nrm (_hK_14 _ _ ?_)
  clear _hK_14
  refine W_seq fun _K_18 _hK_18 => ?_
  refine W_region ?_
  refine WL_step rfl rfl (r_fieldAddr fa90_3 rfl) ?_
  have _f_19 := (_f_15.ch _cw_16 (fun hm => by have _h1 := List.mem_singleton.1 hm; omega))
  refine WL_step rfl rfl (r_loadAt _f_19.at_ agg3 rfl rfl) ?_
  refine WL_step rfl rfl (r_fieldAddr fa57_3 rfl) ?_
  refine WL_s rfl rfl ?_
  refine s_store1 (off := 3) _m_17 sz3 rfl rfl rfl rfl fun _w_20 _m_21 _cw_20 => ?_
  have _cw_20z := _cw_20.size
  have E := E.step _cw_20 (fun i hi => .inl (by have _h1 := List.mem_singleton.1 hi; omega))
  replace _m_21 : Blk _w_20 _b3 57 [(.int .i64 a.kind), (.int .i64 a.letter), (.int .i64 a.low), (.int .i64 a.high)] := _m_21
  refine WL_nil ?_
  refine thn_nrm (_hK_18 _ _ ?_)
  clear _hK_18
  refine W_seq fun _K_22 _hK_22 => ?_
  refine W_region ?_
  refine WL_step rfl rfl (r_loadAtA0 _m_21.at_ agg57 sz57 rfl) ?_
  refine WL_s rfl rfl ?_
  have _f_23 := (((((_m2.ch0 _cw_5).ch _cw_8 (fun hm => by have _h1 := List.mem_singleton.1 hm; omega)).ch _cw_12 (fun hm => by have _h1 := List.mem_singleton.1 hm; omega)).ch _cw_16 (fun hm => by have _h1 := List.mem_singleton.1 hm; omega)).ch _cw_20 (fun hm => by have _h1 := List.mem_singleton.1 hm; omega))
  refine s_storeA (off := 0) 4 _f_23 sz57 rfl (us := [(.int .i64 a.kind), (.int .i64 a.letter), (.int .i64 a.low), (.int .i64 a.high)]) rfl rfl rfl rfl fun _w_24 _m_25 _cw_24 => ?_
  have _cw_24z := _cw_24.size
  have E := E.step _cw_24 (fun i hi => .inl (by have _h1 := List.mem_singleton.1 hi; omega))
  replace _m_25 : Blk _w_24 _b2 57 [(.int .i64 a.kind), (.int .i64 a.letter), (.int .i64 a.low), (.int .i64 a.high)] := _m_25
  refine WL_nil ?_
  refine thn_nrm (_hK_22 _ _ ?_)
  clear _hK_22
  refine W_ret ?_
  exact ret_intro [_] (resOf_loadA _m_25 rfl agg57 sz57 trivial) ⟨by simp [packed, Token.cs], E⟩

/-- laws.toTokenS -/
theorem c_laws_toTokenS {w : World} {LL_a _B_a : Nat} {_v_a : Value} {a : List Token} (_h_a : Ls Token.cs 4 w LL_a _B_a _v_a a) (hb : a.length ≤ 1048576) :
    Ctr Try.prog 50 #[_v_a] w (fun v w' => Ol Token.cs 57 4 w' v (a) ∧ Lo w.heap.size v ∧ Ch [] w w') := by
  obtain ⟨_A_a, _C_a, _e1_a⟩ := _h_a.val
  subst _e1_a
  have _l_a := _h_a.len
  have _h_a := _h_a.here (by decide)
  have E := Ch.refl [] w
  refine Ctr_of_W (N := 23) (vs0 := [(.slice _A_a a.length _C_a)]) Try.func50 rfl rfl rfl ?_
  refine W_seq fun _K_1 _hK_1 => ?_
  refine W_region ?_
  refine WL_step rfl rfl (r_assign rfl) ?_
  refine WL_nil ?_
  refine thn_nrm (_hK_1 _ _ ?_)
  clear _hK_1
  refine W_seq fun _K_2 _hK_2 => ?_
  refine W_region ?_
  refine WL_step rfl rfl (r_move rfl) ?_
  refine WL_step rfl rfl (r_len (by rw [el22]; rfl) rfl) ?_
  refine WL_s rfl rfl ?_
  refine s_make (cs := Token.cs) (⟨0, 0, 0, 0⟩ : Token) el27 sz57 by57 zr57 Token.len (by decide) rfl rfl (by omega) (by omega) fun _v7 _w_3 _q7 _lo7 _cw_3 => ?_
  have _cw_3z := _cw_3.size
  have E := E.trans _cw_3
  obtain ⟨_Av7, _Cv7, _ev7⟩ := _q7.val
  subst _ev7
  have _lv7 := _q7.len
  have _hiv7 := _q7.lt
  refine WL_step rfl rfl (r_assign rfl) ?_
  refine WL_nil ?_
  refine thn_nrm (_hK_2 _ _ ?_)
  clear _hK_2
  refine W_seq fun _K_4 _hK_4 => ?_
  refine W_seq fun _K_5 _hK_5 => ?_
  refine W_region ?_
  refine WL_step rfl rfl (r_assign rfl) ?_
  refine WL_nil ?_
  refine thn_nrm (_hK_5 _ _ ?_)
  clear _hK_5
  refine W_block ?_
  have _oi_6 : Ol Token.cs 57 4 _w_3 (.slice _Av7 ((List.replicate a.length (⟨0, 0, 0, 0⟩ : Token))).length _Cv7) (a.take 0 ++ List.replicate (a.length - 0) (⟨0, 0, 0, 0⟩ : Token)) := by
    have hx := _q7
    simpa using hx
  refine W_loop (σ := Nat) (fun (k : Nat) => [(0, (.slice _A_a a.length _C_a)), (2, (.slice none 0 0)), (3, (.slice _Av7 ((List.replicate a.length (⟨0, 0, 0, 0⟩ : Token))).length _Cv7)), (4, (.int .i64 ((k : Nat) : Int)))]) (fun (k : Nat) wx => Ch [] w wx ∧ _w_3.heap.size ≤ wx.heap.size ∧ (k ≤ a.length) ∧ Ol Token.cs 57 4 wx (.slice _Av7 ((List.replicate a.length (⟨0, 0, 0, 0⟩ : Token))).length _Cv7) (a.take k ++ List.replicate (a.length - k) (⟨0, 0, 0, 0⟩ : Token))) (fun (k : Nat) => a.length - k) 0 (Sub.cons rfl (Sub.cons rfl (Sub.cons rfl (Sub.cons rfl (Sub.nil _))))) ⟨E, (Nat.le_refl _), (by omega), _oi_6⟩ ?_
  rintro k _wr_7 ⟨E, _zz0, _hk, _o0_3⟩
  have _E0h := E
  have _E0hz := _E0h.size
  refine W_seq fun _K_8 _hK_8 => ?_
  refine W_seq fun _K_9 _hK_9 => ?_
  refine W_region ?_
  refine WL_step rfl rfl (r_move rfl) ?_
  refine WL_step rfl rfl (r_move rfl) ?_
  refine WL_step rfl rfl (r_len (by rw [el22]; rfl) rfl) ?_
  refine WL_step rfl rfl (r_lss rfl rfl) ?_
  refine WL_nil ?_
  refine thn_nrm (_hK_9 _ _ ?_)
  clear _hK_9
  refine W_cond rfl (fun _h11 => ?_) (fun _h11 => ?_)
  · have _kb_10 := _h11
    have _h11 := bt_d _h11
    refine W_skip ?_
    refine thn_nrm (_hK_8 _ _ ?_)
    clear _hK_8
    refine W_seq fun _K_11 _hK_11 => ?_
    refine W_block ?_
    refine W_region ?_
    refine WL_step rfl rfl (r_move rfl) ?_
    refine WL_step rfl rfl (r_move rfl) ?_
    refine WL_step rfl rfl (r_move rfl) ?_
    refine WL_step rfl rfl (r_move rfl) ?_
    refine WL_s rfl rfl ?_
    have _f_12 := (_h_a.ch0 _E0h)
    refine (s_index _f_12 Token.len el22 sz90 rfl rfl rfl (by omega) fun _p18 _y18 _hy18 _a18 => ?_)
    refine WL_step rfl rfl (r_loadAtA0 _a18 agg90 sz90 rfl) ?_
    refine WL_s rfl rfl ?_
    refine Step.call (r_call (xs := [.tmp 19]) fk80 rfl) (c_laws_toToken _y18 ) fun _v20 _w_13 _q20 => ?_
    obtain ⟨rfl, _cw_13⟩ := _q20
    have _cw_13z := _cw_13.size
    have E := E.trans _cw_13
    refine WL_s rfl rfl ?_
    have _f_14 := (_o0_3.ch0 _cw_13)
    refine s_indexO (j := k) _f_14 el27 sz57 rfl rfl rfl (by simp; omega) fun _g21 _o21 _cp21 _q21 => ?_
    refine WL_s rfl rfl ?_
    refine s_storeO (j := k) _y18 _f_14 _q21 Token.len sz57 rfl rfl rfl rfl (by simp; omega) fun _w_15 _o_16 _cw_15 => ?_
    have _cw_15z := _cw_15.size
    have E := E.step _cw_15 (fun i hi => .inl (by have _h1 := _lo7 _ hi; omega))
    refine WL_nil ?_
    refine inB_nrm ?_
    refine thn_nrm (_hK_11 _ _ ?_)
    clear _hK_11
    refine W_region ?_
    refine WL_step rfl rfl (r_move rfl) ?_
    refine WL_step rfl rfl (r_add (by omega) rfl rfl) ?_
    refine WL_step rfl rfl (r_assign rfl) ?_
    refine WL_nil ?_
    have _on_17 : Ol Token.cs 57 4 _w_15 (.slice _Av7 ((List.replicate a.length (⟨0, 0, 0, 0⟩ : Token))).length _Cv7) (a.take (k + 1) ++ List.replicate (a.length - (k + 1)) (⟨0, 0, 0, 0⟩ : Token)) := by
      have hx := _o_16
      rwa [fill_step a (⟨0, 0, 0, 0⟩ : Token) _hy18] at hx
    exact thn_nrm (Exists.intro (k + 1) ⟨⟨E, (by omega), (by omega), _on_17⟩, Sub.cons rfl (Sub.cons rfl (Sub.cons rfl (Sub.cons rfl (Sub.nil _)))), (by first | omega | (dsimp only; omega))⟩)
  · have _kb_10 := _h11
    have _h11 := bf_d _h11
    refine W_exit (thn_exit (thn_exit (inB_hit ?_)))
    refine thn_nrm (_hK_4 _ _ ?_)
    clear _hK_4
    refine W_seq fun _K_18 _hK_18 => ?_
    refine W_region ?_
    refine WL_step rfl rfl (r_move rfl) ?_
    refine WL_step rfl rfl (r_assign rfl) ?_
    refine WL_nil ?_
    refine thn_nrm (_hK_18 _ _ ?_)
    clear _hK_18
    refine W_ret ?_
    clear _hK_8
    have _o_19 : Ol Token.cs 57 4 _wr_7 (.slice _Av7 ((List.replicate a.length (⟨0, 0, 0, 0⟩ : Token))).length _Cv7) (a) := by
      have hx := _o0_3
      simpa [List.take_of_length_le (show a.length ≤ k by omega), show a.length - k = 0 by omega] using hx
    exact ret_intro [_] ⟨rfl, trivial⟩ ⟨_o_19, Lo.down _lo7 (by omega), E⟩

/-- laws.toExpr -/
theorem c_laws_toExpr {w : World} {LL_a _B_a : Nat} {_v_a : Value} {a : List Token} (_h_a : Ls Token.cs 4 w LL_a _B_a _v_a a) (hb : a.length ≤ 1048576) :
    Ctr Try.prog 16 #[(.agg #[_v_a])] w (fun v w' => ∃ u, v = .agg #[u] ∧ Ol Token.cs 57 4 w' u (a) ∧ Lo w.heap.size u ∧ Ch [] w w') := by
  obtain ⟨_A_a, _C_a, _e1_a⟩ := _h_a.val
  subst _e1_a
  have _l_a := _h_a.len
  have _h_a := _h_a.here (by decide)
  have E := Ch.refl [] w
  refine Ctr_of_W (N := 9) (vs0 := [(.agg #[(.slice _A_a a.length _C_a)])]) Try.func16 rfl rfl rfl ?_
  refine W_seq fun _K_1 _hK_1 => ?_
  refine W_region ?_
  refine WL_s rfl rfl ?_
  refine s_box rfl fun _b1 _w_2 _m1 _cw_2 _e1 => ?_
  have _cw_2z := _cw_2.size
  have E := E.trans _cw_2
  have _z1 := _m1.lt
  replace _m1 : Blk _w_2 _b1 24 [(.slice _A_a a.length _C_a)] := _m1
  refine WL_s rfl rfl ?_
  refine s_alloc zr29 fun _b2 _w_3 _m2 _cw_3 _e2 => ?_
  have _cw_3z := _cw_3.size
  have E := E.trans _cw_3
  have _z2 := _m2.lt
  replace _m2 : Blk _w_3 _b2 29 [(.slice none 0 0)] := _m2
  refine WL_nil ?_
  refine thn_nrm (_hK_1 _ _ ?_)
  clear _hK_1
  refine W_seq fun _K_4 _hK_4 => ?_
  refine W_region ?_
  refine WL_s rfl rfl ?_
  refine s_alloc zr29 fun _b3 _w_5 _m3 _cw_5 _e3 => ?_
  have _cw_5z := _cw_5.size
  have E := E.trans _cw_5
  have _z3 := _m3.lt
  replace _m3 : Blk _w_5 _b3 29 [(.slice none 0 0)] := _m3
  refine WL_nil ?_
  refine thn_nrm (_hK_4 _ _ ?_)
  clear _hK_4
  refine W_seq fun _K_6 _hK_6 => ?_
  refine W_region ?_
  refine WL_step rfl rfl (r_fieldAddr fa24_0 rfl) ?_
  have _f_7 := ((_m1.ch0 _cw_3).ch0 _cw_5)
  refine WL_step rfl rfl (r_loadAt _f_7.at_ agg22 rfl rfl) ?_
  refine WL_s rfl rfl ?_
  have _f_8 := (((_h_a.ch0 _cw_2).ch0 _cw_3).ch0 _cw_5)
  refine Step.call (r_call (xs := [.tmp 5]) fk50 rfl) (c_laws_toTokenS _f_8 (by omega)) fun _v6 _w_9 _q6 => ?_
  obtain ⟨_q6, _lo6, _cw_9⟩ := _q6
  have _cw_9z := _cw_9.size
  have E := E.trans _cw_9
  obtain ⟨_Av6, _Cv6, _ev6⟩ := _q6.val
  subst _ev6
  have _lv6 := _q6.len
  have _hiv6 := _q6.lt
  refine WL_step rfl rfl (r_fieldAddr fa29_0 rfl) ?_
  refine WL_s rfl rfl ?_
  have _f_10 := (_m3.ch0 _cw_9)
  refine s_store1 (off := 0) _f_10 sz27 rfl rfl rfl rfl fun _w_11 _m_12 _cw_11 => ?_
  have _cw_11z := _cw_11.size
  have E := E.step _cw_11 (fun i hi => .inl (by have _h1 := List.mem_singleton.1 hi; omega))
  replace _m_12 : Blk _w_11 _b3 29 [(.slice _Av6 (a).length _Cv6)] := _m_12
  refine WL_nil ?_
  refine thn_nrm (_hK_6 _ _ ?_)
  clear _hK_6
  refine W_seq fun _K_13 _hK_13 => ?_
  refine W_region ?_
  refine WL_step rfl rfl (r_loadAtA0 _m_12.at_ agg29 sz29 rfl) ?_
  refine WL_s rfl rfl ?_
  have _f_14 := (((_m2.ch0 _cw_5).ch0 _cw_9).ch _cw_11 (fun hm => by have _h1 := List.mem_singleton.1 hm; omega))
  refine s_storeA (off := 0) 1 _f_14 sz29 rfl (us := [(.slice _Av6 (a).length _Cv6)]) rfl rfl rfl rfl fun _w_15 _m_16 _cw_15 => ?_
  have _cw_15z := _cw_15.size
  have E := E.step _cw_15 (fun i hi => .inl (by have _h1 := List.mem_singleton.1 hi; omega))
  replace _m_16 : Blk _w_15 _b2 29 [(.slice _Av6 (a).length _Cv6)] := _m_16
  refine WL_nil ?_
  refine thn_nrm (_hK_13 _ _ ?_)
  clear _hK_13
  refine W_ret ?_
  have _f_18 := ((_q6.ch _cw_11 (fun g hg hm => by have _h0 := List.mem_singleton.1 hm; have _h2 := _lo6 _ hg; have _h3 := _hiv6 _ hg; omega)).ch _cw_15 (fun g hg hm => by have _h0 := List.mem_singleton.1 hm; have _h2 := _lo6 _ hg; have _h3 := _hiv6 _ hg; omega))
  have _o_17 : Ol Token.cs 57 4 _w_15 (.slice _Av6 (a).length _Cv6) (a) := by
    have hx := _f_18
    first | exact hx | simpa using hx
  exact ret_intro [_] (resOf_loadA _m_16 rfl agg29 sz29 trivial) ⟨_, rfl, _o_17, Lo.down _lo6 (by omega), E⟩

/-- spec.l1In -/
theorem c_spec_l1In {w : World} (n : Int) (a : Int) (b : Int) :
    Ctr Try.prog 79 #[(.int .i64 n), (.int .i64 a), (.int .i64 b)] w (fun v w' => v = .bool (decide (a ≤ n ∧ n ≤ b)) ∧ Ch [] w w') := by
  have E := Ch.refl [] w
  refine Ctr_of_W (N := 15) (vs0 := [(.int .i64 n), (.int .i64 a), (.int .i64 b)]) Try.func79 rfl rfl rfl ?_
  refine W_seq fun _K_1 _hK_1 => ?_
  refine W_region ?_
  refine WL_step rfl rfl (r_assign rfl) ?_
  refine WL_nil ?_
  refine thn_nrm (_hK_1 _ _ ?_)
  clear _hK_1
  refine W_seq fun _K_2 _hK_2 => ?_
  refine W_region ?_
  refine WL_step rfl rfl (r_move rfl) ?_
  refine WL_step rfl rfl (r_move rfl) ?_
  refine WL_step rfl rfl (r_geq rfl rfl) ?_
  refine WL_step rfl rfl (r_move rfl) ?_
  refine WL_split (d := 10) rfl (fun _h10 => ?_) (fun _h10 => ?_)
  · have _kb_3 := _h10
    have _h10 := bt_d _h10
    refine WL_step rfl rfl (r_move rfl) ?_
    refine WL_step rfl rfl (r_move rfl) ?_
    refine WL_step rfl rfl (r_leq rfl rfl) ?_
    refine WL_step rfl rfl (r_pickT rfl rfl) ?_
    refine WL_step rfl rfl (r_assign rfl) ?_
    refine WL_nil ?_
    refine thn_nrm (_hK_2 _ _ ?_)
    clear _hK_2
    refine W_ret ?_
    exact ret_intro [_] ⟨rfl, trivial⟩ ⟨congrArg Value.bool (by first | rfl | (rw [Bool.eq_iff_iff]; simp <;> omega) | (rw [Bool.eq_iff_iff]; simp_all; done) | simp_all), E⟩
  · have _kb_3 := _h10
    have _h10 := bf_d _h10
    refine WL_skip rfl rfl ?_
    refine WL_skip rfl rfl ?_
    refine WL_skip rfl rfl ?_
    refine WL_step rfl rfl (r_pickF rfl rfl) ?_
    refine WL_step rfl rfl (r_assign rfl) ?_
    refine WL_nil ?_
    refine thn_nrm (_hK_2 _ _ ?_)
    clear _hK_2
    refine W_ret ?_
    exact ret_intro [_] ⟨rfl, trivial⟩ ⟨congrArg Value.bool (by first | rfl | (rw [Bool.eq_iff_iff]; simp <;> omega) | (rw [Bool.eq_iff_iff]; simp_all; done) | simp_all), E⟩

/-- spec.l2Letter -/
theorem c_spec_l2Letter {w : World} (n : Int) :
    Ctr Try.prog 62 #[(.int .i64 n)] w (fun v w' => v = .bool (decide (0 ≤ n ∧ n ≤ 8)) ∧ Ch [] w w') := by
  have E := Ch.refl [] w
  refine Ctr_of_W (N := 5) (vs0 := [(.int .i64 n)]) Try.func62 rfl rfl rfl ?_
  refine W_seq fun _K_1 _hK_1 => ?_
  refine W_region ?_
  refine WL_step rfl rfl (r_assign rfl) ?_
  refine WL_nil ?_
  refine thn_nrm (_hK_1 _ _ ?_)
  clear _hK_1
  refine W_seq fun _K_2 _hK_2 => ?_
  refine W_region ?_
  refine WL_step rfl rfl (r_move rfl) ?_
  refine WL_s rfl rfl ?_
  refine Step.call (r_call (xs := [.tmp 3, .const (Go.Value.int Go.IntKind.i64 0), .const (Go.Value.int Go.IntKind.i64 8)]) fk79 rfl) (c_spec_l1In _ _ _ ) fun _v4 _w_3 _q4 => ?_
  obtain ⟨rfl, _cw_3⟩ := _q4
  have _cw_3z := _cw_3.size
  have E := E.trans _cw_3
  refine WL_step rfl rfl (r_assign rfl) ?_
  refine WL_nil ?_
  refine thn_nrm (_hK_2 _ _ ?_)
  clear _hK_2
  refine W_ret ?_
  exact ret_intro [_] ⟨rfl, trivial⟩ ⟨congrArg Value.bool rfl, E⟩

/-- spec.l8Arity -/
theorem c_spec_l8Arity {w : World} (t : Token) :
    Ctr Try.prog 49 #[(.agg #[(.int .i64 t.kind), (.int .i64 t.letter), (.int .i64 t.low), (.int .i64 t.high)])] w (fun v w' => v = .int .i64 (arT t) ∧ Ch [] w w') := by
  have E := Ch.refl [] w
  refine Ctr_of_W (N := 87) (vs0 := [(.agg #[(.int .i64 t.kind), (.int .i64 t.letter), (.int .i64 t.low), (.int .i64 t.high)])]) Try.func49 rfl rfl rfl ?_
  refine W_seq fun _K_1 _hK_1 => ?_
  refine W_region ?_
  refine WL_s rfl rfl ?_
  refine s_box rfl fun _b1 _w_2 _m1 _cw_2 _e1 => ?_
  have _cw_2z := _cw_2.size
  have E := E.trans _cw_2
  have _z1 := _m1.lt
  replace _m1 : Blk _w_2 _b1 57 [(.int .i64 t.kind), (.int .i64 t.letter), (.int .i64 t.low), (.int .i64 t.high)] := _m1
  refine WL_step rfl rfl (r_assign rfl) ?_
  refine WL_nil ?_
  refine thn_nrm (_hK_1 _ _ ?_)
  clear _hK_1
  refine W_seq fun _K_3 _hK_3 => ?_
  refine W_seq fun _K_4 _hK_4 => ?_
  refine W_region ?_
  refine WL_step rfl rfl (r_fieldAddr fa57_0 rfl) ?_
  refine WL_step rfl rfl (r_loadAt _m1.at_ agg3 rfl rfl) ?_
  refine WL_nil ?_
  refine thn_nrm (_hK_4 _ _ ?_)
  clear _hK_4
  refine W_block ?_
  refine W_seq fun _K_5 _hK_5 => ?_
  refine W_seq fun _K_6 _hK_6 => ?_
  refine W_region ?_
  refine WL_step rfl rfl (r_eql rfl rfl) ?_
  refine WL_step rfl rfl (r_assign rfl) ?_
  refine WL_nil ?_
  refine thn_nrm (_hK_6 _ _ ?_)
  clear _hK_6
  refine W_cond rfl (fun _h5 => ?_) (fun _h5 => ?_)
  · have _kb_7 := _h5
    have _h5 := bt_d _h5
    refine W_skip ?_
    refine thn_nrm (_hK_5 _ _ ?_)
    clear _hK_5
    refine W_condTk rfl _kb_7 ?_
    refine W_seq fun _K_8 _hK_8 => ?_
    refine W_seq fun _K_9 _hK_9 => ?_
    refine W_region ?_
    refine WL_step rfl rfl (r_fieldAddr fa57_1 rfl) ?_
    refine WL_step rfl rfl (r_loadAt _m1.at_ agg3 rfl rfl) ?_
    refine WL_step rfl rfl (r_neq rfl rfl) ?_
    refine WL_step rfl rfl (r_move rfl) ?_
    refine WL_split (d := 11) rfl (fun _h11 => ?_) (fun _h11 => ?_)
    · have _kb_10 := _h11
      have _h11 := bf_d (bt_n _h11)
      refine WL_skip rfl rfl ?_
      refine WL_skip rfl rfl ?_
      refine WL_skip rfl rfl ?_
      refine WL_step rfl rfl (r_pickT rfl rfl) ?_
      refine WL_step rfl rfl (r_move rfl) ?_
      refine WL_skip rfl rfl ?_
      refine WL_skip rfl rfl ?_
      refine WL_skip rfl rfl ?_
      refine WL_step rfl rfl (r_pickT rfl rfl) ?_
      refine WL_nil ?_
      refine thn_nrm (_hK_9 _ _ ?_)
      clear _hK_9
      refine W_condT rfl ?_
      refine W_seq fun _K_11 _hK_11 => ?_
      refine W_region ?_
      refine WL_step rfl rfl (r_assign rfl) ?_
      refine WL_nil ?_
      refine thn_nrm (_hK_11 _ _ ?_)
      clear _hK_11
      refine W_ret (thn_ret (inB_ret (thn_ret ?_)))
      clear _hK_3 _hK_8
      exact ret_intro [_] ⟨rfl, trivial⟩ ⟨congrArg (Value.int .i64) (by unfold arT; repeat (first | rw [if_pos (by omega)] | rw [if_neg (by omega)])), E⟩
    · have _kb_10 := _h11
      have _h11 := bt_d (bf_n _h11)
      refine WL_step rfl rfl (r_fieldAddr fa57_2 rfl) ?_
      refine WL_step rfl rfl (r_loadAt _m1.at_ agg3 rfl rfl) ?_
      refine WL_step rfl rfl (r_neq rfl rfl) ?_
      refine WL_step rfl rfl (r_pickF rfl rfl) ?_
      refine WL_step rfl rfl (r_move rfl) ?_
      refine WL_split (d := 16) rfl (fun _h16 => ?_) (fun _h16 => ?_)
      · have _kb_12 := _h16
        have _h16 := bf_d (bt_n _h16)
        refine WL_skip rfl rfl ?_
        refine WL_skip rfl rfl ?_
        refine WL_skip rfl rfl ?_
        refine WL_step rfl rfl (r_pickT rfl rfl) ?_
        refine WL_nil ?_
        refine thn_nrm (_hK_9 _ _ ?_)
        clear _hK_9
        refine W_condT rfl ?_
        refine W_seq fun _K_13 _hK_13 => ?_
        refine W_region ?_
        refine WL_step rfl rfl (r_assign rfl) ?_
        refine WL_nil ?_
        refine thn_nrm (_hK_13 _ _ ?_)
        clear _hK_13
        refine W_ret (thn_ret (inB_ret (thn_ret ?_)))
        clear _hK_3 _hK_8
        exact ret_intro [_] ⟨rfl, trivial⟩ ⟨congrArg (Value.int .i64) (by unfold arT; repeat (first | rw [if_pos (by omega)] | rw [if_neg (by omega)])), E⟩
      · have _kb_12 := _h16
        have _h16 := bt_d (bf_n _h16)
        refine WL_step rfl rfl (r_fieldAddr fa57_3 rfl) ?_
        refine WL_step rfl rfl (r_loadAt _m1.at_ agg3 rfl rfl) ?_
        refine WL_step rfl rfl (r_neq rfl rfl) ?_
        refine WL_step rfl rfl (r_pickF rfl rfl) ?_
        refine WL_nil ?_
        refine thn_nrm (_hK_9 _ _ ?_)
        clear _hK_9
        refine W_cond rfl (fun _h20 => ?_) (fun _h20 => ?_)
        · have _kb_14 := _h20
          have _h20 := bf_d (bt_n _h20)
          refine W_seq fun _K_15 _hK_15 => ?_
          refine W_region ?_
          refine WL_step rfl rfl (r_assign rfl) ?_
          refine WL_nil ?_
          refine thn_nrm (_hK_15 _ _ ?_)
          clear _hK_15
          refine W_ret (thn_ret (inB_ret (thn_ret ?_)))
          clear _hK_3 _hK_8
          exact ret_intro [_] ⟨rfl, trivial⟩ ⟨congrArg (Value.int .i64) (by unfold arT; repeat (first | rw [if_pos (by omega)] | rw [if_neg (by omega)])), E⟩
        · have _kb_14 := _h20
          have _h20 := bt_d (bf_n _h20)
          refine W_skip ?_
          refine thn_nrm (_hK_8 _ _ ?_)
          clear _hK_8
          refine W_seq fun _K_16 _hK_16 => ?_
          refine W_region ?_
          refine WL_step rfl rfl (r_assign rfl) ?_
          refine WL_nil ?_
          refine thn_nrm (_hK_16 _ _ ?_)
          clear _hK_16
          refine W_ret (inB_ret (thn_ret ?_))
          clear _hK_3
          exact ret_intro [_] ⟨rfl, trivial⟩ ⟨congrArg (Value.int .i64) (by unfold arT; repeat (first | rw [if_pos (by omega)] | rw [if_neg (by omega)])), E⟩
  · have _kb_7 := _h5
    have _h5 := bf_d _h5
    refine W_region ?_
    refine WL_step rfl rfl (r_eql rfl rfl) ?_
    refine WL_step rfl rfl (r_assign rfl) ?_
    refine WL_nil ?_
    refine thn_nrm (_hK_5 _ _ ?_)
    clear _hK_5
    refine W_cond rfl (fun _h5 => ?_) (fun _h5 => ?_)
    · have _kb_17 := _h5
      have _h5 := bt_d _h5
      refine W_seq fun _K_18 _hK_18 => ?_
      refine W_seq fun _K_19 _hK_19 => ?_
      refine W_region ?_
      refine WL_step rfl rfl (r_fieldAddr fa57_1 rfl) ?_
      refine WL_step rfl rfl (r_loadAt _m1.at_ agg3 rfl rfl) ?_
      refine WL_step rfl rfl (r_neq rfl rfl) ?_
      refine WL_step rfl rfl (r_move rfl) ?_
      refine WL_split (d := 11) rfl (fun _h11 => ?_) (fun _h11 => ?_)
      · have _kb_20 := _h11
        have _h11 := bf_d (bt_n _h11)
        refine WL_skip rfl rfl ?_
        refine WL_skip rfl rfl ?_
        refine WL_skip rfl rfl ?_
        refine WL_step rfl rfl (r_pickT rfl rfl) ?_
        refine WL_step rfl rfl (r_move rfl) ?_
        refine WL_skip rfl rfl ?_
        refine WL_skip rfl rfl ?_
        refine WL_skip rfl rfl ?_
        refine WL_step rfl rfl (r_pickT rfl rfl) ?_
        refine WL_nil ?_
        refine thn_nrm (_hK_19 _ _ ?_)
        clear _hK_19
        refine W_condT rfl ?_
        refine W_seq fun _K_21 _hK_21 => ?_
        refine W_region ?_
        refine WL_step rfl rfl (r_assign rfl) ?_
        refine WL_nil ?_
        refine thn_nrm (_hK_21 _ _ ?_)
        clear _hK_21
        refine W_ret (thn_ret (inB_ret (thn_ret ?_)))
        clear _hK_3 _hK_18
        exact ret_intro [_] ⟨rfl, trivial⟩ ⟨congrArg (Value.int .i64) (by unfold arT; repeat (first | rw [if_pos (by omega)] | rw [if_neg (by omega)])), E⟩
      · have _kb_20 := _h11
        have _h11 := bt_d (bf_n _h11)
        refine WL_step rfl rfl (r_fieldAddr fa57_2 rfl) ?_
        refine WL_step rfl rfl (r_loadAt _m1.at_ agg3 rfl rfl) ?_
        refine WL_step rfl rfl (r_neq rfl rfl) ?_
        refine WL_step rfl rfl (r_pickF rfl rfl) ?_
        refine WL_step rfl rfl (r_move rfl) ?_
        refine WL_split (d := 16) rfl (fun _h16 => ?_) (fun _h16 => ?_)
        · have _kb_22 := _h16
          have _h16 := bf_d (bt_n _h16)
          refine WL_skip rfl rfl ?_
          refine WL_skip rfl rfl ?_
          refine WL_skip rfl rfl ?_
          refine WL_step rfl rfl (r_pickT rfl rfl) ?_
          refine WL_nil ?_
          refine thn_nrm (_hK_19 _ _ ?_)
          clear _hK_19
          refine W_condT rfl ?_
          refine W_seq fun _K_23 _hK_23 => ?_
          refine W_region ?_
          refine WL_step rfl rfl (r_assign rfl) ?_
          refine WL_nil ?_
          refine thn_nrm (_hK_23 _ _ ?_)
          clear _hK_23
          refine W_ret (thn_ret (inB_ret (thn_ret ?_)))
          clear _hK_3 _hK_18
          exact ret_intro [_] ⟨rfl, trivial⟩ ⟨congrArg (Value.int .i64) (by unfold arT; repeat (first | rw [if_pos (by omega)] | rw [if_neg (by omega)])), E⟩
        · have _kb_22 := _h16
          have _h16 := bt_d (bf_n _h16)
          refine WL_step rfl rfl (r_fieldAddr fa57_3 rfl) ?_
          refine WL_step rfl rfl (r_loadAt _m1.at_ agg3 rfl rfl) ?_
          refine WL_step rfl rfl (r_neq rfl rfl) ?_
          refine WL_step rfl rfl (r_pickF rfl rfl) ?_
          refine WL_nil ?_
          refine thn_nrm (_hK_19 _ _ ?_)
          clear _hK_19
          refine W_cond rfl (fun _h20 => ?_) (fun _h20 => ?_)
          · have _kb_24 := _h20
            have _h20 := bf_d (bt_n _h20)
            refine W_seq fun _K_25 _hK_25 => ?_
            refine W_region ?_
            refine WL_step rfl rfl (r_assign rfl) ?_
            refine WL_nil ?_
            refine thn_nrm (_hK_25 _ _ ?_)
            clear _hK_25
            refine W_ret (thn_ret (inB_ret (thn_ret ?_)))
            clear _hK_3 _hK_18
            exact ret_intro [_] ⟨rfl, trivial⟩ ⟨congrArg (Value.int .i64) (by unfold arT; repeat (first | rw [if_pos (by omega)] | rw [if_neg (by omega)])), E⟩
          · have _kb_24 := _h20
            have _h20 := bt_d (bf_n _h20)
            refine W_skip ?_
            refine thn_nrm (_hK_18 _ _ ?_)
            clear _hK_18
            refine W_seq fun _K_26 _hK_26 => ?_
            refine W_region ?_
            refine WL_step rfl rfl (r_assign rfl) ?_
            refine WL_nil ?_
            refine thn_nrm (_hK_26 _ _ ?_)
            clear _hK_26
            refine W_ret (inB_ret (thn_ret ?_))
            clear _hK_3
            exact ret_intro [_] ⟨rfl, trivial⟩ ⟨congrArg (Value.int .i64) (by unfold arT; repeat (first | rw [if_pos (by omega)] | rw [if_neg (by omega)])), E⟩
    · have _kb_17 := _h5
      have _h5 := bf_d _h5
      refine W_seq fun _K_27 _hK_27 => ?_
      refine W_region ?_
      refine WL_step rfl rfl (r_eql rfl rfl) ?_
      refine WL_step rfl rfl (r_assign rfl) ?_
      refine WL_nil ?_
      refine thn_nrm (_hK_27 _ _ ?_)
      clear _hK_27
      refine W_cond rfl (fun _h21 => ?_) (fun _h21 => ?_)
      · have _kb_28 := _h21
        have _h21 := bt_d _h21
        refine W_seq fun _K_29 _hK_29 => ?_
        refine W_seq fun _K_30 _hK_30 => ?_
        refine W_region ?_
        refine WL_step rfl rfl (r_fieldAddr fa57_1 rfl) ?_
        refine WL_step rfl rfl (r_loadAt _m1.at_ agg3 rfl rfl) ?_
        refine WL_s rfl rfl ?_
        refine Step.call (r_call (xs := [.tmp 24]) fk62 rfl) (c_spec_l2Letter _ ) fun _v25 _w_31 _q25 => ?_
        obtain ⟨rfl, _cw_31⟩ := _q25
        have _cw_31z := _cw_31.size
        have E := E.trans _cw_31
        refine WL_step rfl rfl (r_not rfl) ?_
        refine WL_step rfl rfl (r_move rfl) ?_
        refine WL_split (d := 27) rfl (fun _h27 => ?_) (fun _h27 => ?_)
        · have _kb_32 := _h27
          have _h27 := bf_d (bt_n _h27)
          refine WL_skip rfl rfl ?_
          refine WL_skip rfl rfl ?_
          refine WL_skip rfl rfl ?_
          refine WL_step rfl rfl (r_pickT rfl rfl) ?_
          refine WL_step rfl rfl (r_move rfl) ?_
          refine WL_skip rfl rfl ?_
          refine WL_skip rfl rfl ?_
          refine WL_skip rfl rfl ?_
          refine WL_step rfl rfl (r_pickT rfl rfl) ?_
          refine WL_nil ?_
          refine thn_nrm (_hK_30 _ _ ?_)
          clear _hK_30
          refine W_condT rfl ?_
          refine W_seq fun _K_33 _hK_33 => ?_
          refine W_region ?_
          refine WL_step rfl rfl (r_assign rfl) ?_
          refine WL_nil ?_
          refine thn_nrm (_hK_33 _ _ ?_)
          clear _hK_33
          refine W_ret (thn_ret (inB_ret (thn_ret ?_)))
          clear _hK_3 _hK_29
          exact ret_intro [_] ⟨rfl, trivial⟩ ⟨congrArg (Value.int .i64) (by unfold arT; repeat (first | rw [if_pos (by omega)] | rw [if_neg (by omega)])), E⟩
        · have _kb_32 := _h27
          have _h27 := bt_d (bf_n _h27)
          refine WL_step rfl rfl (r_fieldAddr fa57_2 rfl) ?_
          have _f_34 := (_m1.ch0 _cw_31)
          refine WL_step rfl rfl (r_loadAt _f_34.at_ agg3 rfl rfl) ?_
          refine WL_step rfl rfl (r_neq rfl rfl) ?_
          refine WL_step rfl rfl (r_pickF rfl rfl) ?_
          refine WL_step rfl rfl (r_move rfl) ?_
          refine WL_split (d := 32) rfl (fun _h32 => ?_) (fun _h32 => ?_)
          · have _kb_35 := _h32
            have _h32 := bf_d (bt_n _h32)
            refine WL_skip rfl rfl ?_
            refine WL_skip rfl rfl ?_
            refine WL_skip rfl rfl ?_
            refine WL_step rfl rfl (r_pickT rfl rfl) ?_
            refine WL_nil ?_
            refine thn_nrm (_hK_30 _ _ ?_)
            clear _hK_30
            refine W_condT rfl ?_
            refine W_seq fun _K_36 _hK_36 => ?_
            refine W_region ?_
            refine WL_step rfl rfl (r_assign rfl) ?_
            refine WL_nil ?_
            refine thn_nrm (_hK_36 _ _ ?_)
            clear _hK_36
            refine W_ret (thn_ret (inB_ret (thn_ret ?_)))
            clear _hK_3 _hK_29
            exact ret_intro [_] ⟨rfl, trivial⟩ ⟨congrArg (Value.int .i64) (by unfold arT; repeat (first | rw [if_pos (by omega)] | rw [if_neg (by omega)])), E⟩
          · have _kb_35 := _h32
            have _h32 := bt_d (bf_n _h32)
            refine WL_step rfl rfl (r_fieldAddr fa57_3 rfl) ?_
            refine WL_step rfl rfl (r_loadAt _f_34.at_ agg3 rfl rfl) ?_
            refine WL_step rfl rfl (r_neq rfl rfl) ?_
            refine WL_step rfl rfl (r_pickF rfl rfl) ?_
            refine WL_nil ?_
            refine thn_nrm (_hK_30 _ _ ?_)
            clear _hK_30
            refine W_cond rfl (fun _h36 => ?_) (fun _h36 => ?_)
            · have _kb_37 := _h36
              have _h36 := bf_d (bt_n _h36)
              refine W_seq fun _K_38 _hK_38 => ?_
              refine W_region ?_
              refine WL_step rfl rfl (r_assign rfl) ?_
              refine WL_nil ?_
              refine thn_nrm (_hK_38 _ _ ?_)
              clear _hK_38
              refine W_ret (thn_ret (inB_ret (thn_ret ?_)))
              clear _hK_3 _hK_29
              exact ret_intro [_] ⟨rfl, trivial⟩ ⟨congrArg (Value.int .i64) (by unfold arT; repeat (first | rw [if_pos (by omega)] | rw [if_neg (by omega)])), E⟩
            · have _kb_37 := _h36
              have _h36 := bt_d (bf_n _h36)
              refine W_skip ?_
              refine thn_nrm (_hK_29 _ _ ?_)
              clear _hK_29
              refine W_seq fun _K_39 _hK_39 => ?_
              refine W_region ?_
              refine WL_step rfl rfl (r_assign rfl) ?_
              refine WL_nil ?_
              refine thn_nrm (_hK_39 _ _ ?_)
              clear _hK_39
              refine W_ret (inB_ret (thn_ret ?_))
              clear _hK_3
              exact ret_intro [_] ⟨rfl, trivial⟩ ⟨congrArg (Value.int .i64) (by unfold arT; repeat (first | rw [if_pos (by omega)] | rw [if_neg (by omega)])), E⟩
      · have _kb_28 := _h21
        have _h21 := bf_d _h21
        refine W_seq fun _K_40 _hK_40 => ?_
        refine W_seq fun _K_41 _hK_41 => ?_
        refine W_region ?_
        refine WL_step rfl rfl (r_eql rfl rfl) ?_
        refine WL_step rfl rfl (r_assign rfl) ?_
        refine WL_nil ?_
        refine thn_nrm (_hK_41 _ _ ?_)
        clear _hK_41
        refine W_cond rfl (fun _h37 => ?_) (fun _h37 => ?_)
        · have _kb_42 := _h37
          have _h37 := bt_d _h37
          refine W_skip ?_
          refine thn_nrm (_hK_40 _ _ ?_)
          clear _hK_40
          refine W_condTk rfl _kb_42 ?_
          refine W_seq fun _K_43 _hK_43 => ?_
          refine W_seq fun _K_44 _hK_44 => ?_
          refine W_region ?_
          refine WL_step rfl rfl (r_fieldAddr fa57_1 rfl) ?_
          refine WL_step rfl rfl (r_loadAt _m1.at_ agg3 rfl rfl) ?_
          refine WL_step rfl rfl (r_neq rfl rfl) ?_
          refine WL_step rfl rfl (r_move rfl) ?_
          refine WL_split (d := 43) rfl (fun _h43 => ?_) (fun _h43 => ?_)
          · have _kb_45 := _h43
            have _h43 := bf_d (bt_n _h43)
            refine WL_skip rfl rfl ?_
            refine WL_skip rfl rfl ?_
            refine WL_skip rfl rfl ?_
            refine WL_step rfl rfl (r_pickT rfl rfl) ?_
            refine WL_step rfl rfl (r_move rfl) ?_
            refine WL_skip rfl rfl ?_
            refine WL_skip rfl rfl ?_
            refine WL_skip rfl rfl ?_
            refine WL_step rfl rfl (r_pickT rfl rfl) ?_
            refine WL_nil ?_
            refine thn_nrm (_hK_44 _ _ ?_)
            clear _hK_44
            refine W_condT rfl ?_
            refine W_seq fun _K_46 _hK_46 => ?_
            refine W_region ?_
            refine WL_step rfl rfl (r_assign rfl) ?_
            refine WL_nil ?_
            refine thn_nrm (_hK_46 _ _ ?_)
            clear _hK_46
            refine W_ret (thn_ret (inB_ret (thn_ret ?_)))
            clear _hK_3 _hK_43
            exact ret_intro [_] ⟨rfl, trivial⟩ ⟨congrArg (Value.int .i64) (by unfold arT; repeat (first | rw [if_pos (by omega)] | rw [if_neg (by omega)])), E⟩
          · have _kb_45 := _h43
            have _h43 := bt_d (bf_n _h43)
            refine WL_step rfl rfl (r_fieldAddr fa57_2 rfl) ?_
            refine WL_step rfl rfl (r_loadAt _m1.at_ agg3 rfl rfl) ?_
            refine WL_step rfl rfl (r_neq rfl rfl) ?_
            refine WL_step rfl rfl (r_pickF rfl rfl) ?_
            refine WL_step rfl rfl (r_move rfl) ?_
            refine WL_split (d := 48) rfl (fun _h48 => ?_) (fun _h48 => ?_)
            · have _kb_47 := _h48
              have _h48 := bf_d (bt_n _h48)
              refine WL_skip rfl rfl ?_
              refine WL_skip rfl rfl ?_
              refine WL_skip rfl rfl ?_
              refine WL_step rfl rfl (r_pickT rfl rfl) ?_
              refine WL_nil ?_
              refine thn_nrm (_hK_44 _ _ ?_)
              clear _hK_44
              refine W_condT rfl ?_
              refine W_seq fun _K_48 _hK_48 => ?_
              refine W_region ?_
              refine WL_step rfl rfl (r_assign rfl) ?_
              refine WL_nil ?_
              refine thn_nrm (_hK_48 _ _ ?_)
              clear _hK_48
              refine W_ret (thn_ret (inB_ret (thn_ret ?_)))
              clear _hK_3 _hK_43
              exact ret_intro [_] ⟨rfl, trivial⟩ ⟨congrArg (Value.int .i64) (by unfold arT; repeat (first | rw [if_pos (by omega)] | rw [if_neg (by omega)])), E⟩
            · have _kb_47 := _h48
              have _h48 := bt_d (bf_n _h48)
              refine WL_step rfl rfl (r_fieldAddr fa57_3 rfl) ?_
              refine WL_step rfl rfl (r_loadAt _m1.at_ agg3 rfl rfl) ?_
              refine WL_step rfl rfl (r_neq rfl rfl) ?_
              refine WL_step rfl rfl (r_pickF rfl rfl) ?_
              refine WL_nil ?_
              refine thn_nrm (_hK_44 _ _ ?_)
              clear _hK_44
              refine W_cond rfl (fun _h52 => ?_) (fun _h52 => ?_)
              · have _kb_49 := _h52
                have _h52 := bf_d (bt_n _h52)
                refine W_seq fun _K_50 _hK_50 => ?_
                refine W_region ?_
                refine WL_step rfl rfl (r_assign rfl) ?_
                refine WL_nil ?_
                refine thn_nrm (_hK_50 _ _ ?_)
                clear _hK_50
                refine W_ret (thn_ret (inB_ret (thn_ret ?_)))
                clear _hK_3 _hK_43
                exact ret_intro [_] ⟨rfl, trivial⟩ ⟨congrArg (Value.int .i64) (by unfold arT; repeat (first | rw [if_pos (by omega)] | rw [if_neg (by omega)])), E⟩
              · have _kb_49 := _h52
                have _h52 := bt_d (bf_n _h52)
                refine W_skip ?_
                refine thn_nrm (_hK_43 _ _ ?_)
                clear _hK_43
                refine W_seq fun _K_51 _hK_51 => ?_
                refine W_region ?_
                refine WL_step rfl rfl (r_assign rfl) ?_
                refine WL_nil ?_
                refine thn_nrm (_hK_51 _ _ ?_)
                clear _hK_51
                refine W_ret (inB_ret (thn_ret ?_))
                clear _hK_3
                exact ret_intro [_] ⟨rfl, trivial⟩ ⟨congrArg (Value.int .i64) (by unfold arT; repeat (first | rw [if_pos (by omega)] | rw [if_neg (by omega)])), E⟩
        · have _kb_42 := _h37
          have _h37 := bf_d _h37
          refine W_region ?_
          refine WL_step rfl rfl (r_eql rfl rfl) ?_
          refine WL_step rfl rfl (r_assign rfl) ?_
          refine WL_nil ?_
          refine thn_nrm (_hK_40 _ _ ?_)
          clear _hK_40
          refine W_cond rfl (fun _h37 => ?_) (fun _h37 => ?_)
          · have _kb_52 := _h37
            have _h37 := bt_d _h37
            refine W_seq fun _K_53 _hK_53 => ?_
            refine W_seq fun _K_54 _hK_54 => ?_
            refine W_region ?_
            refine WL_step rfl rfl (r_fieldAddr fa57_1 rfl) ?_
            refine WL_step rfl rfl (r_loadAt _m1.at_ agg3 rfl rfl) ?_
            refine WL_step rfl rfl (r_neq rfl rfl) ?_
            refine WL_step rfl rfl (r_move rfl) ?_
            refine WL_split (d := 43) rfl (fun _h43 => ?_) (fun _h43 => ?_)
            · have _kb_55 := _h43
              have _h43 := bf_d (bt_n _h43)
              refine WL_skip rfl rfl ?_
              refine WL_skip rfl rfl ?_
              refine WL_skip rfl rfl ?_
              refine WL_step rfl rfl (r_pickT rfl rfl) ?_
              refine WL_step rfl rfl (r_move rfl) ?_
              refine WL_skip rfl rfl ?_
              refine WL_skip rfl rfl ?_
              refine WL_skip rfl rfl ?_
              refine WL_step rfl rfl (r_pickT rfl rfl) ?_
              refine WL_nil ?_
              refine thn_nrm (_hK_54 _ _ ?_)
              clear _hK_54
              refine W_condT rfl ?_
              refine W_seq fun _K_56 _hK_56 => ?_
              refine W_region ?_
              refine WL_step rfl rfl (r_assign rfl) ?_
              refine WL_nil ?_
              refine thn_nrm (_hK_56 _ _ ?_)
              clear _hK_56
              refine W_ret (thn_ret (inB_ret (thn_ret ?_)))
              clear _hK_3 _hK_53
              exact ret_intro [_] ⟨rfl, trivial⟩ ⟨congrArg (Value.int .i64) (by unfold arT; repeat (first | rw [if_pos (by omega)] | rw [if_neg (by omega)])), E⟩
            · have _kb_55 := _h43
              have _h43 := bt_d (bf_n _h43)
              refine WL_step rfl rfl (r_fieldAddr fa57_2 rfl) ?_
              refine WL_step rfl rfl (r_loadAt _m1.at_ agg3 rfl rfl) ?_
              refine WL_step rfl rfl (r_neq rfl rfl) ?_
              refine WL_step rfl rfl (r_pickF rfl rfl) ?_
              refine WL_step rfl rfl (r_move rfl) ?_
              refine WL_split (d := 48) rfl (fun _h48 => ?_) (fun _h48 => ?_)
              · have _kb_57 := _h48
                have _h48 := bf_d (bt_n _h48)
                refine WL_skip rfl rfl ?_
                refine WL_skip rfl rfl ?_
                refine WL_skip rfl rfl ?_
                refine WL_step rfl rfl (r_pickT rfl rfl) ?_
                refine WL_nil ?_
                refine thn_nrm (_hK_54 _ _ ?_)
                clear _hK_54
                refine W_condT rfl ?_
                refine W_seq fun _K_58 _hK_58 => ?_
                refine W_region ?_
                refine WL_step rfl rfl (r_assign rfl) ?_
                refine WL_nil ?_
                refine thn_nrm (_hK_58 _ _ ?_)
                clear _hK_58
                refine W_ret (thn_ret (inB_ret (thn_ret ?_)))
                clear _hK_3 _hK_53
                exact ret_intro [_] ⟨rfl, trivial⟩ ⟨congrArg (Value.int .i64) (by unfold arT; repeat (first | rw [if_pos (by omega)] | rw [if_neg (by omega)])), E⟩
              · have _kb_57 := _h48
                have _h48 := bt_d (bf_n _h48)
                refine WL_step rfl rfl (r_fieldAddr fa57_3 rfl) ?_
                refine WL_step rfl rfl (r_loadAt _m1.at_ agg3 rfl rfl) ?_
                refine WL_step rfl rfl (r_neq rfl rfl) ?_
                refine WL_step rfl rfl (r_pickF rfl rfl) ?_
                refine WL_nil ?_
                refine thn_nrm (_hK_54 _ _ ?_)
                clear _hK_54
                refine W_cond rfl (fun _h52 => ?_) (fun _h52 => ?_)
                · have _kb_59 := _h52
                  have _h52 := bf_d (bt_n _h52)
                  refine W_seq fun _K_60 _hK_60 => ?_
                  refine W_region ?_
                  refine WL_step rfl rfl (r_assign rfl) ?_
                  refine WL_nil ?_
                  refine thn_nrm (_hK_60 _ _ ?_)
                  clear _hK_60
                  refine W_ret (thn_ret (inB_ret (thn_ret ?_)))
                  clear _hK_3 _hK_53
                  exact ret_intro [_] ⟨rfl, trivial⟩ ⟨congrArg (Value.int .i64) (by unfold arT; repeat (first | rw [if_pos (by omega)] | rw [if_neg (by omega)])), E⟩
                · have _kb_59 := _h52
                  have _h52 := bt_d (bf_n _h52)
                  refine W_skip ?_
                  refine thn_nrm (_hK_53 _ _ ?_)
                  clear _hK_53
                  refine W_seq fun _K_61 _hK_61 => ?_
                  refine W_region ?_
                  refine WL_step rfl rfl (r_assign rfl) ?_
                  refine WL_nil ?_
                  refine thn_nrm (_hK_61 _ _ ?_)
                  clear _hK_61
                  refine W_ret (inB_ret (thn_ret ?_))
                  clear _hK_3
                  exact ret_intro [_] ⟨rfl, trivial⟩ ⟨congrArg (Value.int .i64) (by unfold arT; repeat (first | rw [if_pos (by omega)] | rw [if_neg (by omega)])), E⟩
          · have _kb_52 := _h37
            have _h37 := bf_d _h37
            refine W_seq fun _K_62 _hK_62 => ?_
            refine W_region ?_
            refine WL_step rfl rfl (r_eql rfl rfl) ?_
            refine WL_step rfl rfl (r_assign rfl) ?_
            refine WL_nil ?_
            refine thn_nrm (_hK_62 _ _ ?_)
            clear _hK_62
            refine W_cond rfl (fun _h53 => ?_) (fun _h53 => ?_)
            · have _kb_63 := _h53
              have _h53 := bt_d _h53
              refine W_seq fun _K_64 _hK_64 => ?_
              refine W_seq fun _K_65 _hK_65 => ?_
              refine W_region ?_
              refine WL_step rfl rfl (r_fieldAddr fa57_1 rfl) ?_
              refine WL_step rfl rfl (r_loadAt _m1.at_ agg3 rfl rfl) ?_
              refine WL_step rfl rfl (r_neq rfl rfl) ?_
              refine WL_step rfl rfl (r_move rfl) ?_
              refine WL_split (d := 58) rfl (fun _h58 => ?_) (fun _h58 => ?_)
              · have _kb_66 := _h58
                have _h58 := bf_d (bt_n _h58)
                refine WL_skip rfl rfl ?_
                refine WL_skip rfl rfl ?_
                refine WL_skip rfl rfl ?_
                refine WL_step rfl rfl (r_pickT rfl rfl) ?_
                refine WL_step rfl rfl (r_move rfl) ?_
                refine WL_skip rfl rfl ?_
                refine WL_skip rfl rfl ?_
                refine WL_skip rfl rfl ?_
                refine WL_step rfl rfl (r_pickT rfl rfl) ?_
                refine WL_nil ?_
                refine thn_nrm (_hK_65 _ _ ?_)
                clear _hK_65
                refine W_condT rfl ?_
                refine W_seq fun _K_67 _hK_67 => ?_
                refine W_region ?_
                refine WL_step rfl rfl (r_assign rfl) ?_
                refine WL_nil ?_
                refine thn_nrm (_hK_67 _ _ ?_)
                clear _hK_67
                refine W_ret (thn_ret (inB_ret (thn_ret ?_)))
                clear _hK_3 _hK_64
                exact ret_intro [_] ⟨rfl, trivial⟩ ⟨congrArg (Value.int .i64) (by unfold arT; repeat (first | rw [if_pos (by omega)] | rw [if_neg (by omega)])), E⟩
              · have _kb_66 := _h58
                have _h58 := bt_d (bf_n _h58)
                refine WL_step rfl rfl (r_fieldAddr fa57_2 rfl) ?_
                refine WL_step rfl rfl (r_loadAt _m1.at_ agg3 rfl rfl) ?_
                refine WL_step rfl rfl (r_neq rfl rfl) ?_
                refine WL_step rfl rfl (r_pickF rfl rfl) ?_
                refine WL_step rfl rfl (r_move rfl) ?_
                refine WL_split (d := 63) rfl (fun _h63 => ?_) (fun _h63 => ?_)
                · have _kb_68 := _h63
                  have _h63 := bf_d (bt_n _h63)
                  refine WL_skip rfl rfl ?_
                  refine WL_skip rfl rfl ?_
                  refine WL_skip rfl rfl ?_
                  refine WL_step rfl rfl (r_pickT rfl rfl) ?_
                  refine WL_nil ?_
                  refine thn_nrm (_hK_65 _ _ ?_)
                  clear _hK_65
                  refine W_condT rfl ?_
                  refine W_seq fun _K_69 _hK_69 => ?_
                  refine W_region ?_
                  refine WL_step rfl rfl (r_assign rfl) ?_
                  refine WL_nil ?_
                  refine thn_nrm (_hK_69 _ _ ?_)
                  clear _hK_69
                  refine W_ret (thn_ret (inB_ret (thn_ret ?_)))
                  clear _hK_3 _hK_64
                  exact ret_intro [_] ⟨rfl, trivial⟩ ⟨congrArg (Value.int .i64) (by unfold arT; repeat (first | rw [if_pos (by omega)] | rw [if_neg (by omega)])), E⟩
                · have _kb_68 := _h63
                  have _h63 := bt_d (bf_n _h63)
                  refine WL_step rfl rfl (r_fieldAddr fa57_3 rfl) ?_
                  refine WL_step rfl rfl (r_loadAt _m1.at_ agg3 rfl rfl) ?_
                  refine WL_step rfl rfl (r_neq rfl rfl) ?_
                  refine WL_step rfl rfl (r_pickF rfl rfl) ?_
                  refine WL_nil ?_
                  refine thn_nrm (_hK_65 _ _ ?_)
                  clear _hK_65
                  refine W_cond rfl (fun _h67 => ?_) (fun _h67 => ?_)
                  · have _kb_70 := _h67
                    have _h67 := bf_d (bt_n _h67)
                    refine W_seq fun _K_71 _hK_71 => ?_
                    refine W_region ?_
                    refine WL_step rfl rfl (r_assign rfl) ?_
                    refine WL_nil ?_
                    refine thn_nrm (_hK_71 _ _ ?_)
                    clear _hK_71
                    refine W_ret (thn_ret (inB_ret (thn_ret ?_)))
                    clear _hK_3 _hK_64
                    exact ret_intro [_] ⟨rfl, trivial⟩ ⟨congrArg (Value.int .i64) (by unfold arT; repeat (first | rw [if_pos (by omega)] | rw [if_neg (by omega)])), E⟩
                  · have _kb_70 := _h67
                    have _h67 := bt_d (bf_n _h67)
                    refine W_skip ?_
                    refine thn_nrm (_hK_64 _ _ ?_)
                    clear _hK_64
                    refine W_seq fun _K_72 _hK_72 => ?_
                    refine W_region ?_
                    refine WL_step rfl rfl (r_assign rfl) ?_
                    refine WL_nil ?_
                    refine thn_nrm (_hK_72 _ _ ?_)
                    clear _hK_72
                    refine W_ret (inB_ret (thn_ret ?_))
                    clear _hK_3
                    exact ret_intro [_] ⟨rfl, trivial⟩ ⟨congrArg (Value.int .i64) (by unfold arT; repeat (first | rw [if_pos (by omega)] | rw [if_neg (by omega)])), E⟩
            · have _kb_63 := _h53
              have _h53 := bf_d _h53
              refine W_seq fun _K_73 _hK_73 => ?_
              refine W_region ?_
              refine WL_step rfl rfl (r_eql rfl rfl) ?_
              refine WL_step rfl rfl (r_assign rfl) ?_
              refine WL_nil ?_
              refine thn_nrm (_hK_73 _ _ ?_)
              clear _hK_73
              refine W_cond rfl (fun _h68 => ?_) (fun _h68 => ?_)
              · have _kb_74 := _h68
                have _h68 := bt_d _h68
                refine W_seq fun _K_75 _hK_75 => ?_
                refine W_seq fun _K_76 _hK_76 => ?_
                refine W_region ?_
                refine WL_step rfl rfl (r_fieldAddr fa57_1 rfl) ?_
                refine WL_step rfl rfl (r_loadAt _m1.at_ agg3 rfl rfl) ?_
                refine WL_step rfl rfl (r_neq rfl rfl) ?_
                refine WL_step rfl rfl (r_move rfl) ?_
                refine WL_split (d := 73) rfl (fun _h73 => ?_) (fun _h73 => ?_)
                · have _kb_77 := _h73
                  have _h73 := bf_d (bt_n _h73)
                  refine WL_skip rfl rfl ?_
                  refine WL_skip rfl rfl ?_
                  refine WL_skip rfl rfl ?_
                  refine WL_skip rfl rfl ?_
                  refine WL_step rfl rfl (r_pickT rfl rfl) ?_
                  refine WL_step rfl rfl (r_move rfl) ?_
                  refine WL_skip rfl rfl ?_
                  refine WL_skip rfl rfl ?_
                  refine WL_skip rfl rfl ?_
                  refine WL_skip rfl rfl ?_
                  refine WL_skip rfl rfl ?_
                  refine WL_skip rfl rfl ?_
                  refine WL_step rfl rfl (r_pickT rfl rfl) ?_
                  refine WL_nil ?_
                  refine thn_nrm (_hK_76 _ _ ?_)
                  clear _hK_76
                  refine W_condT rfl ?_
                  refine W_seq fun _K_78 _hK_78 => ?_
                  refine W_region ?_
                  refine WL_step rfl rfl (r_assign rfl) ?_
                  refine WL_nil ?_
                  refine thn_nrm (_hK_78 _ _ ?_)
                  clear _hK_78
                  refine W_ret (thn_ret (inB_ret (thn_ret ?_)))
                  clear _hK_3 _hK_75
                  exact ret_intro [_] ⟨rfl, trivial⟩ ⟨congrArg (Value.int .i64) (by unfold arT; repeat (first | rw [if_pos (by omega)] | rw [if_neg (by omega)])), E⟩
                · have _kb_77 := _h73
                  have _h73 := bt_d (bf_n _h73)
                  refine WL_step rfl rfl (r_fieldAddr fa57_3 rfl) ?_
                  refine WL_step rfl rfl (r_loadAt _m1.at_ agg3 rfl rfl) ?_
                  refine WL_s rfl rfl ?_
                  refine Step.call (r_call (xs := [.tmp 75, .const (Go.Value.int Go.IntKind.i64 1), .const (Go.Value.int Go.IntKind.i64 3)]) fk79 rfl) (c_spec_l1In _ _ _ ) fun _v76 _w_79 _q76 => ?_
                  obtain ⟨rfl, _cw_79⟩ := _q76
                  have _cw_79z := _cw_79.size
                  have E := E.trans _cw_79
                  refine WL_step rfl rfl (r_not rfl) ?_
                  refine WL_step rfl rfl (r_pickF rfl rfl) ?_
                  refine WL_step rfl rfl (r_move rfl) ?_
                  refine WL_split (d := 79) rfl (fun _h79 => ?_) (fun _h79 => ?_)
                  · have _kb_80 := _h79
                    have _h79 := bf_d (bt_n _h79)
                    refine WL_skip rfl rfl ?_
                    refine WL_skip rfl rfl ?_
                    refine WL_skip rfl rfl ?_
                    refine WL_skip rfl rfl ?_
                    refine WL_skip rfl rfl ?_
                    refine WL_skip rfl rfl ?_
                    refine WL_step rfl rfl (r_pickT rfl rfl) ?_
                    refine WL_nil ?_
                    refine thn_nrm (_hK_76 _ _ ?_)
                    clear _hK_76
                    refine W_condT rfl ?_
                    refine W_seq fun _K_81 _hK_81 => ?_
                    refine W_region ?_
                    refine WL_step rfl rfl (r_assign rfl) ?_
                    refine WL_nil ?_
                    refine thn_nrm (_hK_81 _ _ ?_)
                    clear _hK_81
                    refine W_ret (thn_ret (inB_ret (thn_ret ?_)))
                    clear _hK_3 _hK_75
                    exact ret_intro [_] ⟨rfl, trivial⟩ ⟨congrArg (Value.int .i64) (by unfold arT; repeat (first | rw [if_pos (by omega)] | rw [if_neg (by omega)])), E⟩
                  · have _kb_80 := _h79
                    have _h79 := bt_d (bf_n _h79)
                    refine WL_step rfl rfl (r_fieldAddr fa57_2 rfl) ?_
                    have _f_82 := (_m1.ch0 _cw_79)
                    refine WL_step rfl rfl (r_loadAt _f_82.at_ agg3 rfl rfl) ?_
                    refine WL_step rfl rfl (r_fieldAddr fa57_3 rfl) ?_
                    refine WL_step rfl rfl (r_loadAt _f_82.at_ agg3 rfl rfl) ?_
                    refine WL_s rfl rfl ?_
                    refine Step.call (r_call (xs := [.tmp 81, .const (Go.Value.int Go.IntKind.i64 0), .tmp 83]) fk79 rfl) (c_spec_l1In _ _ _ ) fun _v84 _w_83 _q84 => ?_
                    obtain ⟨rfl, _cw_83⟩ := _q84
                    have _cw_83z := _cw_83.size
                    have E := E.trans _cw_83
                    refine WL_step rfl rfl (r_not rfl) ?_
                    refine WL_step rfl rfl (r_pickF rfl rfl) ?_
                    refine WL_nil ?_
                    refine thn_nrm (_hK_76 _ _ ?_)
                    clear _hK_76
                    refine W_cond rfl (fun _h86 => ?_) (fun _h86 => ?_)
                    · have _kb_84 := _h86
                      have _h86 := bf_d (bt_n _h86)
                      refine W_seq fun _K_85 _hK_85 => ?_
                      refine W_region ?_
                      refine WL_step rfl rfl (r_assign rfl) ?_
                      refine WL_nil ?_
                      refine thn_nrm (_hK_85 _ _ ?_)
                      clear _hK_85
                      refine W_ret (thn_ret (inB_ret (thn_ret ?_)))
                      clear _hK_3 _hK_75
                      exact ret_intro [_] ⟨rfl, trivial⟩ ⟨congrArg (Value.int .i64) (by unfold arT; repeat (first | rw [if_pos (by omega)] | rw [if_neg (by omega)])), E⟩
                    · have _kb_84 := _h86
                      have _h86 := bt_d (bf_n _h86)
                      refine W_skip ?_
                      refine thn_nrm (_hK_75 _ _ ?_)
                      clear _hK_75
                      refine W_seq fun _K_86 _hK_86 => ?_
                      refine W_region ?_
                      refine WL_step rfl rfl (r_assign rfl) ?_
                      refine WL_nil ?_
                      refine thn_nrm (_hK_86 _ _ ?_)
                      clear _hK_86
                      refine W_ret (inB_ret (thn_ret ?_))
                      clear _hK_3
                      exact ret_intro [_] ⟨rfl, trivial⟩ ⟨congrArg (Value.int .i64) (by unfold arT; repeat (first | rw [if_pos (by omega)] | rw [if_neg (by omega)])), E⟩
              · have _kb_74 := _h68
                have _h68 := bf_d _h68
                refine W_skip ?_
                refine inB_nrm ?_
                refine thn_nrm (_hK_3 _ _ ?_)
                clear _hK_3
                refine W_seq fun _K_87 _hK_87 => ?_
                refine W_region ?_
                refine WL_step rfl rfl (r_assign rfl) ?_
                refine WL_nil ?_
                refine thn_nrm (_hK_87 _ _ ?_)
                clear _hK_87
                refine W_ret ?_
                exact ret_intro [_] ⟨rfl, trivial⟩ ⟨congrArg (Value.int .i64) (by unfold arT; repeat (first | rw [if_pos (by omega)] | rw [if_neg (by omega)])), E⟩

/-- spec.IsExpr -/
theorem c_spec_IsExpr {w : World} {LL_e _B_e : Nat} {_v_e : Value} {e : List Token} (_h_e : Ls Token.cs 4 w LL_e _B_e _v_e e) :
    Ctr Try.prog 15 #[(.agg #[_v_e])] w (fun v w' => v = .bool (isE e) ∧ Ch [] w w') := by
  obtain ⟨_A_e, _C_e, _e1_e⟩ := _h_e.val
  subst _e1_e
  have _l_e := _h_e.len
  have _h_e := _h_e.here (by decide)
  have E := Ch.refl [] w
  refine Ctr_of_W (N := 32) (vs0 := [(.agg #[(.slice _A_e e.length _C_e)])]) Try.func15 rfl rfl rfl ?_
  refine W_seq fun _K_1 _hK_1 => ?_
  refine W_region ?_
  refine WL_s rfl rfl ?_
  refine s_box rfl fun _b1 _w_2 _m1 _cw_2 _e1 => ?_
  have _cw_2z := _cw_2.size
  have E := E.trans _cw_2
  have _z1 := _m1.lt
  replace _m1 : Blk _w_2 _b1 29 [(.slice _A_e e.length _C_e)] := _m1
  refine WL_step rfl rfl (r_assign rfl) ?_
  refine WL_nil ?_
  refine thn_nrm (_hK_1 _ _ ?_)
  clear _hK_1
  refine W_seq fun _K_3 _hK_3 => ?_
  refine W_region ?_
  refine WL_step rfl rfl (r_assign rfl) ?_
  refine WL_nil ?_
  refine thn_nrm (_hK_3 _ _ ?_)
  clear _hK_3
  refine W_seq fun _K_4 _hK_4 => ?_
  refine W_seq fun _K_5 _hK_5 => ?_
  refine W_region ?_
  refine WL_step rfl rfl (r_assign rfl) ?_
  refine WL_nil ?_
  refine thn_nrm (_hK_5 _ _ ?_)
  clear _hK_5
  refine W_block ?_
  refine W_loop (σ := Nat × Int × List Tr) (fun ⟨i, d, st⟩ => [(1, (.pointer (some ⟨_b1, 0, none⟩))), (3, (.int .i64 d)), (4, (.int .i64 ((i : Nat) : Int)))]) (fun ⟨i, d, st⟩ wx => Ch [] w wx ∧ _w_2.heap.size ≤ wx.heap.size ∧ (i ≤ e.length) ∧ (d = st.length) ∧ (st.length ≤ i) ∧ (prs [] (e.take i) = some st) ∧ Blk wx _b1 29 [(.slice _A_e e.length _C_e)]) (fun ⟨i, d, st⟩ => e.length - i) (0, 0, ([] : List Tr)) (Sub.cons rfl (Sub.cons rfl (Sub.cons rfl (Sub.nil _)))) ⟨E, (Nat.le_refl _), (by omega), rfl, (Nat.le_refl _), rfl, _m1⟩ ?_
  rintro ⟨i, d, st⟩ _wr_6 ⟨E, _zz0, hi, hd, hs, hp, _F0_0⟩
  have _E0h := E
  have _E0hz := _E0h.size
  have _F0_0z := _F0_0.lt
  refine W_seq fun _K_7 _hK_7 => ?_
  refine W_seq fun _K_8 _hK_8 => ?_
  refine W_region ?_
  refine WL_step rfl rfl (r_move rfl) ?_
  refine WL_step rfl rfl (r_fieldAddr fa29_0 rfl) ?_
  refine WL_step rfl rfl (r_loadAt _F0_0.at_ agg27 rfl rfl) ?_
  refine WL_step rfl rfl (r_len (by rw [el27]; rfl) rfl) ?_
  refine WL_step rfl rfl (r_lss rfl rfl) ?_
  refine WL_nil ?_
  refine thn_nrm (_hK_8 _ _ ?_)
  clear _hK_8
  refine W_cond rfl (fun _h10 => ?_) (fun _h10 => ?_)
  · have _kb_9 := _h10
    have _h10 := bt_d _h10
    refine W_skip ?_
    refine thn_nrm (_hK_7 _ _ ?_)
    clear _hK_7
    refine W_seq fun _K_10 _hK_10 => ?_
    refine W_block ?_
    refine W_seq fun _K_11 _hK_11 => ?_
    refine W_region ?_
    refine WL_step rfl rfl (r_fieldAddr fa29_0 rfl) ?_
    refine WL_step rfl rfl (r_loadAt _F0_0.at_ agg27 rfl rfl) ?_
    refine WL_step rfl rfl (r_move rfl) ?_
    refine WL_s rfl rfl ?_
    have _f_12 := (_h_e.ch0 _E0h)
    refine (s_index _f_12 Token.len el27 sz57 rfl rfl rfl (by omega) fun _p16 _y16 _hy16 _a16 => ?_)
    refine WL_step rfl rfl (r_loadAtA0 _a16 agg57 sz57 rfl) ?_
    refine WL_s rfl rfl ?_
    refine Step.call (r_call (xs := [.tmp 17]) fk49 rfl) (c_spec_l8Arity _y16 ) fun _v18 _w_13 _q18 => ?_
    obtain ⟨rfl, _cw_13⟩ := _q18
    have _cw_13z := _cw_13.size
    have E := E.trans _cw_13
    have _a18 := arT_cases _y16
    refine WL_step rfl rfl (r_assign rfl) ?_
    refine WL_nil ?_
    refine thn_nrm (_hK_11 _ _ ?_)
    clear _hK_11
    refine W_seq fun _K_14 _hK_14 => ?_
    refine W_seq fun _K_15 _hK_15 => ?_
    refine W_region ?_
    refine WL_step rfl rfl (r_move rfl) ?_
    refine WL_step rfl rfl (r_lss rfl rfl) ?_
    refine WL_step rfl rfl (r_move rfl) ?_
    refine WL_split (d := 21) rfl (fun _h21 => ?_) (fun _h21 => ?_)
    · have _kb_16 := _h21
      have _h21 := bt_d _h21
      refine WL_skip rfl rfl ?_
      refine WL_skip rfl rfl ?_
      refine WL_skip rfl rfl ?_
      refine WL_step rfl rfl (r_pickT rfl rfl) ?_
      refine WL_nil ?_
      refine thn_nrm (_hK_15 _ _ ?_)
      clear _hK_15
      refine W_condT rfl ?_
      refine W_seq fun _K_17 _hK_17 => ?_
      refine W_region ?_
      refine WL_step rfl rfl (r_assign rfl) ?_
      refine WL_nil ?_
      refine thn_nrm (_hK_17 _ _ ?_)
      clear _hK_17
      refine W_ret (thn_ret (inB_ret (thn_ret (thn_ret (inB_ret (thn_ret ?_))))))
      clear _hK_4 _hK_10 _hK_14
      exact ret_intro [_] ⟨rfl, trivial⟩ ⟨congrArg Value.bool (by first | (rw [isE_end hp (by omega), hd]; done) | exact isE_none (isE_no hp _hy16 (push_no (by omega)))), E⟩
    · have _kb_16 := _h21
      have _h21 := bf_d _h21
      refine WL_step rfl rfl (r_move rfl) ?_
      refine WL_step rfl rfl (r_move rfl) ?_
      refine WL_step rfl rfl (r_gtr rfl rfl) ?_
      refine WL_step rfl rfl (r_pickF rfl rfl) ?_
      refine WL_nil ?_
      refine thn_nrm (_hK_15 _ _ ?_)
      clear _hK_15
      refine W_cond rfl (fun _h25 => ?_) (fun _h25 => ?_)
      · have _kb_18 := _h25
        have _h25 := bt_d _h25
        refine W_seq fun _K_19 _hK_19 => ?_
        refine W_region ?_
        refine WL_step rfl rfl (r_assign rfl) ?_
        refine WL_nil ?_
        refine thn_nrm (_hK_19 _ _ ?_)
        clear _hK_19
        refine W_ret (thn_ret (inB_ret (thn_ret (thn_ret (inB_ret (thn_ret ?_))))))
        clear _hK_4 _hK_10 _hK_14
        exact ret_intro [_] ⟨rfl, trivial⟩ ⟨congrArg Value.bool (by first | (rw [isE_end hp (by omega), hd]; done) | exact isE_none (isE_no hp _hy16 (push_no (by omega)))), E⟩
      · have _kb_18 := _h25
        have _h25 := bf_d _h25
        refine W_skip ?_
        refine thn_nrm (_hK_14 _ _ ?_)
        clear _hK_14
        refine W_region ?_
        refine WL_step rfl rfl (r_move rfl) ?_
        refine WL_step rfl rfl (r_move rfl) ?_
        refine WL_step rfl rfl (r_sub (by omega) rfl rfl) ?_
        refine WL_step rfl rfl (r_add (by omega) rfl rfl) ?_
        refine WL_step rfl rfl (r_assign rfl) ?_
        refine WL_nil ?_
        refine inB_nrm ?_
        refine thn_nrm (_hK_10 _ _ ?_)
        clear _hK_10
        refine W_region ?_
        refine WL_step rfl rfl (r_move rfl) ?_
        refine WL_step rfl rfl (r_add (by omega) rfl rfl) ?_
        refine WL_step rfl rfl (r_assign rfl) ?_
        refine WL_nil ?_
        obtain ⟨s2, _p2, _l2⟩ := push_yes (t := _y16) (st := st) (by omega) (by omega)
        have _f_20 := (_F0_0.ch0 _cw_13)
        exact thn_nrm (Exists.intro ((i + 1), ((d - arT _y16) + 1), s2) ⟨⟨E, (by omega), (by omega), (by omega), (by omega), ((prs_snoc hp _hy16).trans _p2), _f_20⟩, Sub.cons rfl (Sub.cons rfl (Sub.cons rfl (Sub.nil _))), (by first | omega | (dsimp only; omega))⟩)
  · have _kb_9 := _h10
    have _h10 := bf_d _h10
    refine W_exit (thn_exit (thn_exit (inB_hit ?_)))
    refine thn_nrm (_hK_4 _ _ ?_)
    clear _hK_4
    refine W_seq fun _K_21 _hK_21 => ?_
    refine W_region ?_
    refine WL_step rfl rfl (r_move rfl) ?_
    refine WL_step rfl rfl (r_eql rfl rfl) ?_
    refine WL_step rfl rfl (r_assign rfl) ?_
    refine WL_nil ?_
    refine thn_nrm (_hK_21 _ _ ?_)
    clear _hK_21
    refine W_ret ?_
    clear _hK_7
    exact ret_intro [_] ⟨rfl, trivial⟩ ⟨congrArg Value.bool (by first | (rw [isE_end hp (by omega), hd]; done) | exact isE_none (isE_no hp _hy16 (push_no (by omega)))), E⟩

/-- spec.l8Copy -/
theorem c_spec_l8Copy {w : World} {LL_l _B_l : Nat} {_v_l : Value} {l : List Token} (_h_l : Ls Token.cs 4 w LL_l _B_l _v_l l) (hb : l.length ≤ 4194304) :
    Ctr Try.prog 55 #[_v_l] w (fun v w' => ∃ u, v = .agg #[u] ∧ Ol Token.cs 57 4 w' u (l) ∧ Lo w.heap.size u ∧ Ch [] w w') := by
  obtain ⟨_A_l, _C_l, _e1_l⟩ := _h_l.val
  subst _e1_l
  have _l_l := _h_l.len
  have _h_l := _h_l.here (by decide)
  have E := Ch.refl [] w
  refine Ctr_of_W (N := 7) (vs0 := [(.slice _A_l l.length _C_l)]) Try.func55 rfl rfl rfl ?_
  refine W_seq fun _K_1 _hK_1 => ?_
  refine W_region ?_
  refine WL_s rfl rfl ?_
  refine s_alloc zr29 fun _b2 _w_2 _m2 _cw_2 _e2 => ?_
  have _cw_2z := _cw_2.size
  have E := E.trans _cw_2
  have _z2 := _m2.lt
  replace _m2 : Blk _w_2 _b2 29 [(.slice none 0 0)] := _m2
  refine WL_nil ?_
  refine thn_nrm (_hK_1 _ _ ?_)
  clear _hK_1
  refine W_seq fun _K_3 _hK_3 => ?_
  refine W_region ?_
  refine WL_s rfl rfl ?_
  refine s_buildSlice0 (k := 4) Token.cs el27 sz57 fun _v3 _w_4 _q3 _lo3 _cw_4 => ?_
  have _cw_4z := _cw_4.size
  have E := E.trans _cw_4
  obtain ⟨_Av3, _Cv3, _ev3⟩ := _q3.val
  subst _ev3
  have _lv3 := _q3.len
  have _hiv3 := _q3.lt
  refine WL_step rfl rfl (r_move rfl) ?_
  refine WL_s rfl rfl ?_
  have _f_6 := ((_h_l.ch0 _cw_2).ch0 _cw_4)
  refine s_append (cs := Token.cs) el27 sz57 by57 zr57 rfl (by decide) Token.one _q3 _f_6 rfl rfl (by first | omega | (simp only [List.length_append, List.length_nil, List.length_cons, List.length_replicate, List.length_set, List.length_reverse, List.length_map] at *; omega) | (simp at *; omega)) (by first | omega | (simp only [List.length_append, List.length_nil, List.length_cons, List.length_replicate, List.length_set, List.length_reverse, List.length_map] at *; omega) | (simp at *; omega)) _lo3 (by omega) fun _v5 _w_5 _q5 _lo5 _ap5 _cw_5 => ?_
  have _cw_5z := _cw_5.size
  have E := E.step _cw_5 (fun i hi => .inl (by have _h1 := _lo3 _ hi; omega))
  replace _q5 : Ol Token.cs 57 4 _w_5 _v5 l := _q5
  obtain ⟨_Av5, _Cv5, _ev5⟩ := _q5.val
  subst _ev5
  have _lv5 := _q5.len
  have _hiv5 := _q5.lt
  refine WL_step rfl rfl (r_build (parts := [(0, .tmp 5)]) (cells := [(.slice _Av5 (l).length _Cv5)]) zr29 pl29 rfl rfl) ?_
  refine WL_s rfl rfl ?_
  have _f_7 := ((_m2.ch0 _cw_4).ch _cw_5 (fun hm => by have _h1 := _lo3 _ hm; have _h2 := _hiv3 _ hm; omega))
  refine s_storeA (off := 0) 1 _f_7 sz29 rfl (us := [(.slice _Av5 (l).length _Cv5)]) rfl rfl rfl rfl fun _w_8 _m_9 _cw_8 => ?_
  have _cw_8z := _cw_8.size
  have E := E.step _cw_8 (fun i hi => .inl (by have _h1 := List.mem_singleton.1 hi; omega))
  replace _m_9 : Blk _w_8 _b2 29 [(.slice _Av5 (l).length _Cv5)] := _m_9
  refine WL_nil ?_
  refine thn_nrm (_hK_3 _ _ ?_)
  clear _hK_3
  refine W_ret ?_
  have _f_11 := (_q5.ch _cw_8 (fun g hg hm => by have _h0 := List.mem_singleton.1 hm; rcases _ap5 with ea | ea; (rw [ea] at hg; have _h2 := _lo3 _ hg; have _h3 := _hiv3 _ hg; omega); (rw [ea] at hg; have _z1 := List.mem_singleton.1 hg; omega)))
  have _o_10 : Ol Token.cs 57 4 _w_8 (.slice _Av5 (l).length _Cv5) (l) := by
    have hx := _f_11
    first | exact hx | simpa using hx
  exact ret_intro [_] (resOf_loadA _m_9 rfl agg29 sz29 trivial) ⟨_, rfl, _o_10, Lo.down _lo5 (by omega), E⟩

/-- spec.l8Start -/
theorem c_spec_l8Start {w : World} {LL_l _B_l : Nat} {_v_l : Value} {l : List Token} (_h_l : Ls Token.cs 4 w LL_l _B_l _v_l l) (p : List Token) (t : Tr) (hok : Okd t) (hl : l = p ++ t.flat) :
    Ctr Try.prog 56 #[_v_l] w (fun v w' => v = .int .i64 (((p.length : Nat) : Int)) ∧ Ch [] w w') := by
  obtain ⟨_A_l, _C_l, _e1_l⟩ := _h_l.val
  subst _e1_l
  have _l_l := _h_l.len
  have _h_l := _h_l.here (by decide)
  have E := Ch.refl [] w
  refine Ctr_of_W (N := 20) (vs0 := [(.slice _A_l l.length _C_l)]) Try.func56 rfl rfl rfl ?_
  refine W_seq fun _K_1 _hK_1 => ?_
  refine W_region ?_
  refine WL_step rfl rfl (r_assign rfl) ?_
  refine WL_nil ?_
  refine thn_nrm (_hK_1 _ _ ?_)
  clear _hK_1
  refine W_seq fun _K_2 _hK_2 => ?_
  refine W_region ?_
  refine WL_step rfl rfl (r_assign rfl) ?_
  refine WL_nil ?_
  refine thn_nrm (_hK_2 _ _ ?_)
  clear _hK_2
  refine W_seq fun _K_3 _hK_3 => ?_
  refine W_region ?_
  refine WL_step rfl rfl (r_move rfl) ?_
  refine WL_step rfl rfl (r_len (by rw [el27]; rfl) rfl) ?_
  refine WL_step rfl rfl (r_assign rfl) ?_
  refine WL_nil ?_
  refine thn_nrm (_hK_3 _ _ ?_)
  clear _hK_3
  refine W_seq fun _K_4 _hK_4 => ?_
  refine W_block ?_
  refine W_loop (σ := Int × Int × List Tr) (fun ⟨n, k, ts⟩ => [(0, (.slice _A_l l.length _C_l)), (2, (.int .i64 0)), (3, (.int .i64 n)), (4, (.int .i64 k))]) (fun ⟨n, k, ts⟩ wx => Ch [] w wx ∧ w.heap.size ≤ wx.heap.size ∧ (0 ≤ k) ∧ (k ≤ l.length) ∧ (n = ts.length) ∧ (l.take k.toNat = p ++ flats ts) ∧ (∀ x ∈ ts, Okd x)) (fun ⟨n, k, ts⟩ => k.toNat) (1, (l.length : Int), [t]) (Sub.cons rfl (Sub.cons rfl (Sub.cons rfl (Sub.cons rfl (Sub.nil _))))) ⟨E, (Nat.le_refl _), (by omega), (by omega), rfl, (by rw [show ((l.length : Int)).toNat = l.length from by omega, List.take_length, hl]; simp [flats]), (fun x hx => by rw [List.mem_singleton.1 hx]; exact hok)⟩ ?_
  rintro ⟨n, k, ts⟩ _wr_5 ⟨E, _zz0, _h0, _hk, hn, hp, ho⟩
  have _E0h := E
  have _E0hz := _E0h.size
  have s1 := start_len hp _h0
  refine W_seq fun _K_6 _hK_6 => ?_
  refine W_seq fun _K_7 _hK_7 => ?_
  refine W_region ?_
  refine WL_step rfl rfl (r_move rfl) ?_
  refine WL_step rfl rfl (r_gtr rfl rfl) ?_
  refine WL_nil ?_
  refine thn_nrm (_hK_7 _ _ ?_)
  clear _hK_7
  refine W_cond rfl (fun _h8 => ?_) (fun _h8 => ?_)
  · have _kb_8 := _h8
    have _h8 := bt_d _h8
    refine W_skip ?_
    refine thn_nrm (_hK_6 _ _ ?_)
    clear _hK_6
    refine W_block ?_
    refine W_seq fun _K_9 _hK_9 => ?_
    refine W_region ?_
    refine WL_step rfl rfl (r_move rfl) ?_
    refine WL_step rfl rfl (r_sub (by omega) rfl rfl) ?_
    refine WL_step rfl rfl (r_assign rfl) ?_
    refine WL_nil ?_
    refine thn_nrm (_hK_9 _ _ ?_)
    clear _hK_9
    refine W_region ?_
    refine WL_step rfl rfl (r_move rfl) ?_
    refine WL_step rfl rfl (r_sub (by omega) rfl rfl) ?_
    refine WL_step rfl rfl (r_move rfl) ?_
    refine WL_step rfl rfl (r_move rfl) ?_
    refine WL_s rfl rfl ?_
    have _f_10 := (_h_l.ch0 _E0h)
    refine (s_index (j := (k - 1).toNat) _f_10 Token.len el27 sz57 rfl rfl (by omega) (by omega) fun _p15 _y15 _hy15 _a15 => ?_)
    refine WL_step rfl rfl (r_loadAtA0 _a15 agg57 sz57 rfl) ?_
    refine WL_s rfl rfl ?_
    refine Step.call (r_call (xs := [.tmp 16]) fk49 rfl) (c_spec_l8Arity _y15 ) fun _v17 _w_11 _q17 => ?_
    obtain ⟨rfl, _cw_11⟩ := _q17
    have _cw_11z := _cw_11.size
    have E := E.trans _cw_11
    have _a17 := arT_cases _y15
    obtain ⟨s2, _p2, _l2, _o2⟩ := start_step hp ho (by omega) _h0 _hk _hy15
    have s3 := start_len _p2 (by omega)
    refine WL_step rfl rfl (r_add (by omega) rfl rfl) ?_
    refine WL_step rfl rfl (r_assign rfl) ?_
    refine WL_nil ?_
    refine inB_nrm ?_
    exact thn_nrm (Exists.intro (((n - 1) + arT _y15), (k - 1), s2) ⟨⟨E, (by omega), (by omega), (by omega), (by omega), _p2, _o2⟩, Sub.cons rfl (Sub.cons rfl (Sub.cons rfl (Sub.cons rfl (Sub.nil _)))), (by first | omega | (dsimp only; omega))⟩)
  · have _kb_8 := _h8
    have _h8 := bf_d _h8
    refine W_exit (thn_exit (thn_exit (inB_hit ?_)))
    refine thn_nrm (_hK_4 _ _ ?_)
    clear _hK_4
    refine W_seq fun _K_12 _hK_12 => ?_
    refine W_region ?_
    refine WL_step rfl rfl (r_move rfl) ?_
    refine WL_step rfl rfl (r_assign rfl) ?_
    refine WL_nil ?_
    refine thn_nrm (_hK_12 _ _ ?_)
    clear _hK_12
    refine W_ret ?_
    clear _hK_6
    exact ret_intro [_] ⟨rfl, trivial⟩ ⟨congrArg (Value.int .i64) (start_end hp hn (by omega) _h0 _hk), E⟩

/-- spec.SplitExpr -/
theorem c_spec_SplitExpr {w : World} {LL_e _B_e : Nat} {_v_e : Value} {e : List Token} (_h_e : Ls Token.cs 4 w LL_e _B_e _v_e e) (hb : e.length ≤ 1048576) :
    Ctr Try.prog 23 #[(.agg #[_v_e])] w (fun v w' => ∃ (u0x0 : Value) (u1x0 : Value), v = .tuple #[.agg #[u0x0], .agg #[u1x0]] ∧ Ol Token.cs 57 4 w' u0x0 ((splE e).1) ∧ Lo w.heap.size u0x0 ∧ Ol Token.cs 57 4 w' u1x0 ((splE e).2) ∧ Lo w.heap.size u1x0 ∧ (∀ g ∈ bl u0x0, g ∉ bl u1x0) ∧ Ch [] w w') := by
  obtain ⟨_A_e, _C_e, _e1_e⟩ := _h_e.val
  subst _e1_e
  have _l_e := _h_e.len
  have _h_e := _h_e.here (by decide)
  have E := Ch.refl [] w
  refine Ctr_of_W (N := 49) (vs0 := [(.agg #[(.slice _A_e e.length _C_e)])]) Try.func23 rfl rfl rfl ?_
  refine W_seq fun _K_1 _hK_1 => ?_
  refine W_region ?_
  refine WL_s rfl rfl ?_
  refine s_box rfl fun _b1 _w_2 _m1 _cw_2 _e1 => ?_
  have _cw_2z := _cw_2.size
  have E := E.trans _cw_2
  have _z1 := _m1.lt
  replace _m1 : Blk _w_2 _b1 29 [(.slice _A_e e.length _C_e)] := _m1
  refine WL_s rfl rfl ?_
  refine s_alloc zr29 fun _b2 _w_3 _m2 _cw_3 _e2 => ?_
  have _cw_3z := _cw_3.size
  have E := E.trans _cw_3
  have _z2 := _m2.lt
  replace _m2 : Blk _w_3 _b2 29 [(.slice none 0 0)] := _m2
  refine WL_s rfl rfl ?_
  refine s_alloc zr29 fun _b3 _w_4 _m3 _cw_4 _e3 => ?_
  have _cw_4z := _cw_4.size
  have E := E.trans _cw_4
  have _z3 := _m3.lt
  replace _m3 : Blk _w_4 _b3 29 [(.slice none 0 0)] := _m3
  refine WL_nil ?_
  refine thn_nrm (_hK_1 _ _ ?_)
  clear _hK_1
  refine W_seq fun _K_5 _hK_5 => ?_
  refine W_seq fun _K_6 _hK_6 => ?_
  refine W_region ?_
  have _f_7 := ((_m1.ch0 _cw_3).ch0 _cw_4)
  refine WL_step rfl rfl (r_loadAtA0 _f_7.at_ agg29 sz29 rfl) ?_
  refine WL_s rfl rfl ?_
  have _f_8 := (((_h_e.ch0 _cw_2).ch0 _cw_3).ch0 _cw_4)
  refine Step.call (r_call (xs := [.tmp 6]) fk15 rfl) (c_spec_IsExpr _f_8 ) fun _v7 _w_9 _q7 => ?_
  obtain ⟨rfl, _cw_9⟩ := _q7
  have _cw_9z := _cw_9.size
  have E := E.trans _cw_9
  refine WL_step rfl rfl (r_not rfl) ?_
  refine WL_nil ?_
  refine thn_nrm (_hK_6 _ _ ?_)
  clear _hK_6
  refine W_cond rfl (fun _h8 => ?_) (fun _h8 => ?_)
  · have _kb_10 := _h8
    have _h8 := bt_n _h8
    refine W_seq fun _K_11 _hK_11 => ?_
    refine W_region ?_
    refine WL_step rfl rfl (r_build (parts := []) (cells := [(.slice none 0 0)]) zr29 pl29 rfl rfl) ?_
    refine WL_step rfl rfl (r_build (parts := []) (cells := [(.slice none 0 0)]) zr29 pl29 rfl rfl) ?_
    refine WL_s rfl rfl ?_
    have _f_12 := ((_m2.ch0 _cw_4).ch0 _cw_9)
    refine s_storeA (off := 0) 1 _f_12 sz29 rfl (us := [(.slice none 0 0)]) rfl rfl rfl rfl fun _w_13 _m_14 _cw_13 => ?_
    have _cw_13z := _cw_13.size
    have E := E.step _cw_13 (fun i hi => .inl (by have _h1 := List.mem_singleton.1 hi; omega))
    replace _m_14 : Blk _w_13 _b2 29 [(.slice none 0 0)] := _m_14
    refine WL_s rfl rfl ?_
    have _f_15 := ((_m3.ch0 _cw_9).ch _cw_13 (fun hm => by have _h1 := List.mem_singleton.1 hm; omega))
    refine s_storeA (off := 0) 1 _f_15 sz29 rfl (us := [(.slice none 0 0)]) rfl rfl rfl rfl fun _w_16 _m_17 _cw_16 => ?_
    have _cw_16z := _cw_16.size
    have E := E.step _cw_16 (fun i hi => .inl (by have _h1 := List.mem_singleton.1 hi; omega))
    replace _m_17 : Blk _w_16 _b3 29 [(.slice none 0 0)] := _m_17
    refine WL_nil ?_
    refine thn_nrm (_hK_11 _ _ ?_)
    clear _hK_11
    refine W_ret (thn_ret ?_)
    clear _hK_5
    have _f_18 := (_m_14.ch _cw_16 (fun hm => by have _h1 := List.mem_singleton.1 hm; omega))
    have _o_19 : Ol Token.cs 57 4 _w_16 (.slice none 0 0) ((splE e).1) := by
      have hx := (Ol.nil (cs := Token.cs) (e := 57) (k := 4) _w_16)
      first | (rw [splE_n (isE_n _h8)]; exact hx) | (rw [splE_y _e5, spl0 (by omega)]; exact hx) | (rw [splE_y _e5]; first | exact (show Ol _ _ _ _ _ ta.flat from hx.eq (cut_1 hla (by omega))) | exact (show Ol _ _ _ _ _ ta.flat from hx.eq (cut_a hla (by omega))) | exact (show Ol _ _ _ _ _ tb.flat from hx.eq (cut_b hla (by omega) (by omega))) | exact hx)
    have _o_20 : Ol Token.cs 57 4 _w_16 (.slice none 0 0) ((splE e).2) := by
      have hx := (Ol.nil (cs := Token.cs) (e := 57) (k := 4) _w_16)
      first | (rw [splE_n (isE_n _h8)]; exact hx) | (rw [splE_y _e5, spl0 (by omega)]; exact hx) | (rw [splE_y _e5]; first | exact (show Ol _ _ _ _ _ ta.flat from hx.eq (cut_1 hla (by omega))) | exact (show Ol _ _ _ _ _ ta.flat from hx.eq (cut_a hla (by omega))) | exact (show Ol _ _ _ _ _ tb.flat from hx.eq (cut_b hla (by omega) (by omega))) | exact hx)
    exact ret_intro [_, _] (resOf_loadA _f_18 rfl agg29 sz29 (resOf_loadA _m_17 rfl agg29 sz29 trivial)) ⟨(.slice none 0 0), (.slice none 0 0), rfl, _o_19, (Lo.nil _), _o_20, (Lo.nil _), (fun g hm hg => by cases hm), E⟩
  · have _kb_10 := _h8
    have _h8 := bf_n _h8
    obtain ⟨t, _e5, hok, hl⟩ := isE_y _h8
    have hn1 := t.flat_pos
    rw [← hl] at hn1
    refine W_skip ?_
    refine thn_nrm (_hK_5 _ _ ?_)
    clear _hK_5
    refine W_seq fun _K_21 _hK_21 => ?_
    refine W_region ?_
    refine WL_step rfl rfl (r_fieldAddr fa29_0 rfl) ?_
    have _f_22 := (_f_7.ch0 _cw_9)
    refine WL_step rfl rfl (r_loadAt _f_22.at_ agg27 rfl rfl) ?_
    refine WL_step rfl rfl (r_len (by rw [el27]; rfl) rfl) ?_
    refine WL_step rfl rfl (r_sub (by omega) rfl rfl) ?_
    refine WL_step rfl rfl (r_assign rfl) ?_
    refine WL_nil ?_
    refine thn_nrm (_hK_21 _ _ ?_)
    clear _hK_21
    refine W_seq fun _K_23 _hK_23 => ?_
    refine W_seq fun _K_24 _hK_24 => ?_
    refine W_region ?_
    refine WL_step rfl rfl (r_fieldAddr fa29_0 rfl) ?_
    refine WL_step rfl rfl (r_loadAt _f_22.at_ agg27 rfl rfl) ?_
    refine WL_step rfl rfl (r_move rfl) ?_
    refine WL_s rfl rfl ?_
    have _f_25 := (_f_8.ch0 _cw_9)
    refine (s_index (j := (((e.length : Nat) : Int) - 1).toNat) _f_25 Token.len el27 sz57 rfl rfl (by omega) (by omega) fun _p18 _y18 _hy18 _a18 => ?_)
    have _ht := last_tok hl (by omega) _hy18
    have k2 := t.kids_le
    refine WL_step rfl rfl (r_loadAtA0 _a18 agg57 sz57 rfl) ?_
    refine WL_s rfl rfl ?_
    refine Step.call (r_call (xs := [.tmp 19]) fk49 rfl) (c_spec_l8Arity _y18 ) fun _v20 _w_26 _q20 => ?_
    obtain ⟨rfl, _cw_26⟩ := _q20
    have _cw_26z := _cw_26.size
    have E := E.trans _cw_26
    have _a20 : arT _y18 = t.kids.length := by rw [_ht]; exact hok.ar
    refine WL_nil ?_
    refine thn_nrm (_hK_24 _ _ ?_)
    clear _hK_24
    refine W_block ?_
    refine W_seq fun _K_27 _hK_27 => ?_
    refine W_region ?_
    refine WL_step rfl rfl (r_eql rfl rfl) ?_
    refine WL_step rfl rfl (r_assign rfl) ?_
    refine WL_nil ?_
    refine thn_nrm (_hK_27 _ _ ?_)
    clear _hK_27
    refine W_cond rfl (fun _h21 => ?_) (fun _h21 => ?_)
    · have _kb_28 := _h21
      have _h21 := bt_d _h21
      obtain ⟨kt, ta, et⟩ := Tr.k1 (t := t) (by omega)
      subst et
      have hla : e = ta.flat ++ [kt] := hl
      have hn2 := len_1 hla
      refine W_seq fun _K_29 _hK_29 => ?_
      refine W_region ?_
      refine WL_step rfl rfl (r_fieldAddr fa29_0 rfl) ?_
      have _f_30 := (_f_22.ch0 _cw_26)
      refine WL_step rfl rfl (r_loadAt _f_30.at_ agg27 rfl rfl) ?_
      refine WL_step rfl rfl (r_move rfl) ?_
      refine WL_s rfl rfl ?_
      have _f_31 := (_f_25.ch0 _cw_26)
      refine (s_cut (ys := (e.take ((((e.length : Nat) : Int) - 1).toNat))) 0 ((((e.length : Nat) : Int) - 1).toNat) _f_31 Token.len el27 sz57 rfl rfl ⟨_, _, rfl, by omega⟩ (by omega) (by omega) rfl fun _v26 _q26 _bb26 _ln26 => ?_)
      obtain ⟨_A26, _C26, _e26⟩ := _q26.val
      subst _e26
      have _l26 := _q26.len
      refine WL_s rfl rfl ?_
      refine Step.call (r_call (xs := [.tmp 26]) fk55 rfl) (c_spec_l8Copy _q26 (by simp only [List.length_take]; omega)) fun _v27 _w_32 _q27 => ?_
      obtain ⟨_u27, rfl, _q27, _lo27, _cw_32⟩ := _q27
      have _cw_32z := _cw_32.size
      have E := E.trans _cw_32
      obtain ⟨_Au27, _Cu27, _eu27⟩ := _q27.val
      subst _eu27
      have _lu27 := _q27.len
      have _hiu27 := _q27.lt
      refine WL_step rfl rfl (r_build (parts := []) (cells := [(.slice none 0 0)]) zr29 pl29 rfl rfl) ?_
      refine WL_s rfl rfl ?_
      have _f_33 := ((((_m2.ch0 _cw_4).ch0 _cw_9).ch0 _cw_26).ch0 _cw_32)
      refine s_storeA (off := 0) 1 _f_33 sz29 rfl (us := [(.slice _Au27 ((e.take ((((e.length : Nat) : Int) - 1).toNat))).length _Cu27)]) rfl rfl rfl rfl fun _w_34 _m_35 _cw_34 => ?_
      have _cw_34z := _cw_34.size
      have E := E.step _cw_34 (fun i hi => .inl (by have _h1 := List.mem_singleton.1 hi; omega))
      replace _m_35 : Blk _w_34 _b2 29 [(.slice _Au27 ((e.take ((((e.length : Nat) : Int) - 1).toNat))).length _Cu27)] := _m_35
      refine WL_s rfl rfl ?_
      have _f_36 := ((((_m3.ch0 _cw_9).ch0 _cw_26).ch0 _cw_32).ch _cw_34 (fun hm => by have _h1 := List.mem_singleton.1 hm; omega))
      refine s_storeA (off := 0) 1 _f_36 sz29 rfl (us := [(.slice none 0 0)]) rfl rfl rfl rfl fun _w_37 _m_38 _cw_37 => ?_
      have _cw_37z := _cw_37.size
      have E := E.step _cw_37 (fun i hi => .inl (by have _h1 := List.mem_singleton.1 hi; omega))
      replace _m_38 : Blk _w_37 _b3 29 [(.slice none 0 0)] := _m_38
      refine WL_nil ?_
      refine thn_nrm (_hK_29 _ _ ?_)
      clear _hK_29
      refine W_ret (inB_ret (thn_ret ?_))
      clear _hK_23
      have _f_39 := (_m_35.ch _cw_37 (fun hm => by have _h1 := List.mem_singleton.1 hm; omega))
      have _f_40 := ((_q27.ch _cw_34 (fun g hg hm => by have _h0 := List.mem_singleton.1 hm; have _h2 := _lo27 _ hg; have _h3 := _hiu27 _ hg; omega)).ch _cw_37 (fun g hg hm => by have _h0 := List.mem_singleton.1 hm; have _h2 := _lo27 _ hg; have _h3 := _hiu27 _ hg; omega))
      have _o_41 : Ol Token.cs 57 4 _w_37 (.slice _Au27 ((e.take ((((e.length : Nat) : Int) - 1).toNat))).length _Cu27) ((splE e).1) := by
        have hx := _f_40
        first | (rw [splE_n (isE_n _h8)]; exact hx) | (rw [splE_y _e5, spl0 (by omega)]; exact hx) | (rw [splE_y _e5]; first | exact (show Ol _ _ _ _ _ ta.flat from hx.eq (cut_1 hla (by omega))) | exact (show Ol _ _ _ _ _ ta.flat from hx.eq (cut_a hla (by omega))) | exact (show Ol _ _ _ _ _ tb.flat from hx.eq (cut_b hla (by omega) (by omega))) | exact hx)
      have _o_42 : Ol Token.cs 57 4 _w_37 (.slice none 0 0) ((splE e).2) := by
        have hx := (Ol.nil (cs := Token.cs) (e := 57) (k := 4) _w_37)
        first | (rw [splE_n (isE_n _h8)]; exact hx) | (rw [splE_y _e5, spl0 (by omega)]; exact hx) | (rw [splE_y _e5]; first | exact (show Ol _ _ _ _ _ ta.flat from hx.eq (cut_1 hla (by omega))) | exact (show Ol _ _ _ _ _ ta.flat from hx.eq (cut_a hla (by omega))) | exact (show Ol _ _ _ _ _ tb.flat from hx.eq (cut_b hla (by omega) (by omega))) | exact hx)
      exact ret_intro [_, _] (resOf_loadA _f_39 rfl agg29 sz29 (resOf_loadA _m_38 rfl agg29 sz29 trivial)) ⟨(.slice _Au27 ((e.take ((((e.length : Nat) : Int) - 1).toNat))).length _Cu27), (.slice none 0 0), rfl, _o_41, (Lo.down _lo27 (by omega)), _o_42, (Lo.nil _), (fun g hm hg => by cases hg), E⟩
    · have _kb_28 := _h21
      have _h21 := bf_d _h21
      refine W_seq fun _K_43 _hK_43 => ?_
      refine W_region ?_
      refine WL_step rfl rfl (r_eql rfl rfl) ?_
      refine WL_step rfl rfl (r_assign rfl) ?_
      refine WL_nil ?_
      refine thn_nrm (_hK_43 _ _ ?_)
      clear _hK_43
      refine W_cond rfl (fun _h29 => ?_) (fun _h29 => ?_)
      · have _kb_44 := _h29
        have _h29 := bt_d _h29
        obtain ⟨kt, ta, tb, et⟩ := Tr.k2 (t := t) (by omega)
        subst et
        have hla : e = ta.flat ++ tb.flat ++ [kt] := hl
        have hn2 := len_2 hla
        refine W_seq fun _K_45 _hK_45 => ?_
        refine W_region ?_
        refine WL_step rfl rfl (r_fieldAddr fa29_0 rfl) ?_
        have _f_46 := (_f_22.ch0 _cw_26)
        refine WL_step rfl rfl (r_loadAt _f_46.at_ agg27 rfl rfl) ?_
        refine WL_step rfl rfl (r_move rfl) ?_
        refine WL_s rfl rfl ?_
        have _f_47 := (_f_25.ch0 _cw_26)
        refine (s_cut (ys := (e.take ((((e.length : Nat) : Int) - 1).toNat))) 0 ((((e.length : Nat) : Int) - 1).toNat) _f_47 Token.len el27 sz57 rfl rfl ⟨_, _, rfl, by omega⟩ (by omega) (by omega) rfl fun _v34 _q34 _bb34 _ln34 => ?_)
        obtain ⟨_A34, _C34, _e34⟩ := _q34.val
        subst _e34
        have _l34 := _q34.len
        refine WL_s rfl rfl ?_
        refine Step.call (r_call (xs := [.tmp 34]) fk56 rfl) (c_spec_l8Start _q34 ta.flat tb hok.2.2 (cut_ab hla (by omega))) fun _v35 _w_48 _q35 => ?_
        obtain ⟨rfl, _cw_48⟩ := _q35
        have _cw_48z := _cw_48.size
        have E := E.trans _cw_48
        refine WL_step rfl rfl (r_assign rfl) ?_
        refine WL_nil ?_
        refine thn_nrm (_hK_45 _ _ ?_)
        clear _hK_45
        refine W_seq fun _K_49 _hK_49 => ?_
        refine W_drawC ([_b2] ++ [_b3]) 13 mixed rfl fun _w_50 _cw_50 => ?_
        have _cw_50z := _cw_50.size
        have E := E.trans _cw_50
        refine DR_s 0 rfl (by kernel_rfl) rfl rfl (t_v (fun _ => (r_fieldAddr fa29_0 rfl)) ?_)
        have _f_51 := ((_f_46.ch0 _cw_48).ch0 _cw_50)
        refine DR_s 1 rfl (by kernel_rfl) rfl rfl (t_loadAt _f_51.at_ (fun i hm => by rcases List.mem_append.1 hm with hm | hm; (have _h1 := List.mem_singleton.1 hm; omega); (have _h1 := List.mem_singleton.1 hm; omega)) agg27 rfl rfl ?_)
        refine DR_s 2 rfl (by kernel_rfl) rfl rfl (t_v (fun _ => (r_move rfl)) ?_)
        have _f_52 := ((_f_47.ch0 _cw_48).ch0 _cw_50)
        refine DR_s 3 rfl (by kernel_rfl) rfl rfl (t_cut (ys := (e.take ta.flat.length)) 0 ta.flat.length _f_52 Token.len el27 sz57 rfl rfl ⟨_, _, rfl, by omega⟩ (by omega) (by omega) rfl fun _v39 _q39 _bb39 _ln39 => ?_)
        obtain ⟨_A39, _C39, _e39⟩ := _q39.val
        subst _e39
        have _l39 := _q39.len
        refine DR_s 5 rfl (by kernel_rfl) rfl rfl (t_v (fun _ => (r_fieldAddr fa29_0 rfl)) ?_)
        refine DR_s 6 rfl (by kernel_rfl) rfl rfl (t_loadAt _f_51.at_ (fun i hm => by rcases List.mem_append.1 hm with hm | hm; (have _h1 := List.mem_singleton.1 hm; omega); (have _h1 := List.mem_singleton.1 hm; omega)) agg27 rfl rfl ?_)
        refine DR_s 7 rfl (by kernel_rfl) rfl rfl (t_v (fun _ => (r_move rfl)) ?_)
        refine DR_s 8 rfl (by kernel_rfl) rfl rfl (t_v (fun _ => (r_move rfl)) ?_)
        refine DR_s 9 rfl (by kernel_rfl) rfl rfl (t_cut (ys := ((e.drop ta.flat.length).take ((((e.length : Nat) : Int) - 1).toNat - ta.flat.length))) ta.flat.length ((((e.length : Nat) : Int) - 1).toNat) _f_52 Token.len el27 sz57 rfl ⟨_, _, rfl, by omega⟩ ⟨_, _, rfl, by omega⟩ (by omega) (by omega) rfl fun _v45 _q45 _bb45 _ln45 => ?_)
        obtain ⟨_A45, _C45, _e45⟩ := _q45.val
        subst _e45
        have _l45 := _q45.len
        refine DR_one 4 (by kernel_rfl) ?_
        refine DO_s rfl rfl rfl ?_
        refine Step.call (r_call (xs := [.tmp 39]) fk55 rfl) (c_spec_l8Copy _q39 (by simp only [List.length_take]; omega)) fun _v40 _w_53 _q40 => ?_
        obtain ⟨_u40, rfl, _q40, _lo40, _cw_53⟩ := _q40
        have _cw_53z := _cw_53.size
        have E := E.trans _cw_53
        obtain ⟨_Au40, _Cu40, _eu40⟩ := _q40.val
        subst _eu40
        have _lu40 := _q40.len
        have _hiu40 := _q40.lt
        have _S_54 : Ch ([_b2] ++ [_b3]) _w_50 _w_53 := ((Ch.refl _ _).trans _cw_53.of_nil)
        refine ⟨_S_54, ?_⟩
        refine DR_one 10 (by kernel_rfl) ?_
        refine DO_s rfl rfl rfl ?_
        have _f_55 := (_q45.ch0 _cw_53)
        refine Step.call (r_call (xs := [.tmp 45]) fk55 rfl) (c_spec_l8Copy _f_55 (by simp only [List.length_take, List.length_drop]; omega)) fun _v46 _w_56 _q46 => ?_
        obtain ⟨_u46, rfl, _q46, _lo46, _cw_56⟩ := _q46
        have _cw_56z := _cw_56.size
        have E := E.trans _cw_56
        obtain ⟨_Au46, _Cu46, _eu46⟩ := _q46.val
        subst _eu46
        have _lu46 := _q46.len
        have _hiu46 := _q46.lt
        have _S_57 : Ch ([_b2] ++ [_b3]) _w_50 _w_56 := (_S_54.trans _cw_56.of_nil)
        refine ⟨_S_57, ?_⟩
        refine DR_one 11 (by kernel_rfl) ?_
        refine DO_s rfl rfl rfl ?_
        have _f_58 := (((((((_m2.ch0 _cw_4).ch0 _cw_9).ch0 _cw_26).ch0 _cw_48).ch0 _cw_50).ch0 _cw_53).ch0 _cw_56)
        refine s_storeA (off := 0) 1 _f_58 sz29 rfl (us := [(.slice _Au40 ((e.take ta.flat.length)).length _Cu40)]) rfl rfl rfl rfl fun _w_59 _m_60 _cw_59 => ?_
        have _cw_59z := _cw_59.size
        have E := E.step _cw_59 (fun i hi => .inl (by have _h1 := List.mem_singleton.1 hi; omega))
        replace _m_60 : Blk _w_59 _b2 29 [(.slice _Au40 ((e.take ta.flat.length)).length _Cu40)] := _m_60
        have _S_61 : Ch ([_b2] ++ [_b3]) _w_50 _w_59 := (_S_57.step _cw_59 (fun i hm => by have _h0 := List.mem_singleton.1 hm; exact .inr (by rw [_h0]; exact (List.mem_append_left _ (List.mem_singleton.2 rfl)))))
        refine ⟨_S_61, ?_⟩
        refine DR_one 12 (by kernel_rfl) ?_
        refine DO_s rfl rfl rfl ?_
        have _f_62 := (((((((_m3.ch0 _cw_9).ch0 _cw_26).ch0 _cw_48).ch0 _cw_50).ch0 _cw_53).ch0 _cw_56).ch _cw_59 (fun hm => by have _h1 := List.mem_singleton.1 hm; omega))
        refine s_storeA (off := 0) 1 _f_62 sz29 rfl (us := [(.slice _Au46 (((e.drop ta.flat.length).take ((((e.length : Nat) : Int) - 1).toNat - ta.flat.length))).length _Cu46)]) rfl rfl rfl rfl fun _w_63 _m_64 _cw_63 => ?_
        have _cw_63z := _cw_63.size
        have E := E.step _cw_63 (fun i hi => .inl (by have _h1 := List.mem_singleton.1 hi; omega))
        replace _m_64 : Blk _w_63 _b3 29 [(.slice _Au46 (((e.drop ta.flat.length).take ((((e.length : Nat) : Int) - 1).toNat - ta.flat.length))).length _Cu46)] := _m_64
        have _S_65 : Ch ([_b2] ++ [_b3]) _w_50 _w_63 := (_S_61.step _cw_63 (fun i hm => by have _h0 := List.mem_singleton.1 hm; exact .inr (by rw [_h0]; exact (List.mem_append_right _ (List.mem_singleton.2 rfl)))))
        refine ⟨_S_65, ?_⟩
        refine DR_done (by kernel_rfl) ?_
        refine thn_nrm (_hK_49 _ _ ?_)
        clear _hK_49
        refine W_ret (inB_ret (thn_ret ?_))
        clear _hK_23
        have _f_66 := (_m_60.ch _cw_63 (fun hm => by have _h1 := List.mem_singleton.1 hm; omega))
        have _f_67 := (((_q40.ch0 _cw_56).ch _cw_59 (fun g hg hm => by have _h0 := List.mem_singleton.1 hm; have _h2 := _lo40 _ hg; have _h3 := _hiu40 _ hg; omega)).ch _cw_63 (fun g hg hm => by have _h0 := List.mem_singleton.1 hm; have _h2 := _lo40 _ hg; have _h3 := _hiu40 _ hg; omega))
        have _o_68 : Ol Token.cs 57 4 _w_63 (.slice _Au40 ((e.take ta.flat.length)).length _Cu40) ((splE e).1) := by
          have hx := _f_67
          first | (rw [splE_n (isE_n _h8)]; exact hx) | (rw [splE_y _e5, spl0 (by omega)]; exact hx) | (rw [splE_y _e5]; first | exact (show Ol _ _ _ _ _ ta.flat from hx.eq (cut_1 hla (by omega))) | exact (show Ol _ _ _ _ _ ta.flat from hx.eq (cut_a hla (by omega))) | exact (show Ol _ _ _ _ _ tb.flat from hx.eq (cut_b hla (by omega) (by omega))) | exact hx)
        have _f_69 := ((_q46.ch _cw_59 (fun g hg hm => by have _h0 := List.mem_singleton.1 hm; have _h2 := _lo46 _ hg; have _h3 := _hiu46 _ hg; omega)).ch _cw_63 (fun g hg hm => by have _h0 := List.mem_singleton.1 hm; have _h2 := _lo46 _ hg; have _h3 := _hiu46 _ hg; omega))
        have _o_70 : Ol Token.cs 57 4 _w_63 (.slice _Au46 (((e.drop ta.flat.length).take ((((e.length : Nat) : Int) - 1).toNat - ta.flat.length))).length _Cu46) ((splE e).2) := by
          have hx := _f_69
          first | (rw [splE_n (isE_n _h8)]; exact hx) | (rw [splE_y _e5, spl0 (by omega)]; exact hx) | (rw [splE_y _e5]; first | exact (show Ol _ _ _ _ _ ta.flat from hx.eq (cut_1 hla (by omega))) | exact (show Ol _ _ _ _ _ ta.flat from hx.eq (cut_a hla (by omega))) | exact (show Ol _ _ _ _ _ tb.flat from hx.eq (cut_b hla (by omega) (by omega))) | exact hx)
        exact ret_intro [_, _] (resOf_loadA _f_66 rfl agg29 sz29 (resOf_loadA _m_64 rfl agg29 sz29 trivial)) ⟨(.slice _Au40 ((e.take ta.flat.length)).length _Cu40), (.slice _Au46 (((e.drop ta.flat.length).take ((((e.length : Nat) : Int) - 1).toNat - ta.flat.length))).length _Cu46), rfl, _o_68, (Lo.down _lo40 (by omega)), _o_70, (Lo.down _lo46 (by omega)), (fun g hm hg => by have _h1 := _lo40 _ hm; have _h2 := _hiu40 _ hm; have _h3 := _lo46 _ hg; have _h4 := _hiu46 _ hg; omega), E⟩
      · have _kb_44 := _h29
        have _h29 := bf_d _h29
        refine W_skip ?_
        refine inB_nrm ?_
        refine thn_nrm (_hK_23 _ _ ?_)
        clear _hK_23
        refine W_seq fun _K_71 _hK_71 => ?_
        refine W_region ?_
        refine WL_step rfl rfl (r_build (parts := []) (cells := [(.slice none 0 0)]) zr29 pl29 rfl rfl) ?_
        refine WL_step rfl rfl (r_build (parts := []) (cells := [(.slice none 0 0)]) zr29 pl29 rfl rfl) ?_
        refine WL_s rfl rfl ?_
        have _f_72 := (((_m2.ch0 _cw_4).ch0 _cw_9).ch0 _cw_26)
        refine s_storeA (off := 0) 1 _f_72 sz29 rfl (us := [(.slice none 0 0)]) rfl rfl rfl rfl fun _w_73 _m_74 _cw_73 => ?_
        have _cw_73z := _cw_73.size
        have E := E.step _cw_73 (fun i hi => .inl (by have _h1 := List.mem_singleton.1 hi; omega))
        replace _m_74 : Blk _w_73 _b2 29 [(.slice none 0 0)] := _m_74
        refine WL_s rfl rfl ?_
        have _f_75 := (((_m3.ch0 _cw_9).ch0 _cw_26).ch _cw_73 (fun hm => by have _h1 := List.mem_singleton.1 hm; omega))
        refine s_storeA (off := 0) 1 _f_75 sz29 rfl (us := [(.slice none 0 0)]) rfl rfl rfl rfl fun _w_76 _m_77 _cw_76 => ?_
        have _cw_76z := _cw_76.size
        have E := E.step _cw_76 (fun i hi => .inl (by have _h1 := List.mem_singleton.1 hi; omega))
        replace _m_77 : Blk _w_76 _b3 29 [(.slice none 0 0)] := _m_77
        refine WL_nil ?_
        refine thn_nrm (_hK_71 _ _ ?_)
        clear _hK_71
        refine W_ret ?_
        have _f_78 := (_m_74.ch _cw_76 (fun hm => by have _h1 := List.mem_singleton.1 hm; omega))
        have _o_79 : Ol Token.cs 57 4 _w_76 (.slice none 0 0) ((splE e).1) := by
          have hx := (Ol.nil (cs := Token.cs) (e := 57) (k := 4) _w_76)
          first | (rw [splE_n (isE_n _h8)]; exact hx) | (rw [splE_y _e5, spl0 (by omega)]; exact hx) | (rw [splE_y _e5]; first | exact (show Ol _ _ _ _ _ ta.flat from hx.eq (cut_1 hla (by omega))) | exact (show Ol _ _ _ _ _ ta.flat from hx.eq (cut_a hla (by omega))) | exact (show Ol _ _ _ _ _ tb.flat from hx.eq (cut_b hla (by omega) (by omega))) | exact hx)
        have _o_80 : Ol Token.cs 57 4 _w_76 (.slice none 0 0) ((splE e).2) := by
          have hx := (Ol.nil (cs := Token.cs) (e := 57) (k := 4) _w_76)
          first | (rw [splE_n (isE_n _h8)]; exact hx) | (rw [splE_y _e5, spl0 (by omega)]; exact hx) | (rw [splE_y _e5]; first | exact (show Ol _ _ _ _ _ ta.flat from hx.eq (cut_1 hla (by omega))) | exact (show Ol _ _ _ _ _ ta.flat from hx.eq (cut_a hla (by omega))) | exact (show Ol _ _ _ _ _ tb.flat from hx.eq (cut_b hla (by omega) (by omega))) | exact hx)
        exact ret_intro [_, _] (resOf_loadA _f_78 rfl agg29 sz29 (resOf_loadA _m_77 rfl agg29 sz29 trivial)) ⟨(.slice none 0 0), (.slice none 0 0), rfl, _o_79, (Lo.nil _), _o_80, (Lo.nil _), (fun g hm hg => by cases hm), E⟩

/-- laws.FnExactSplitExpr -/
theorem c_laws_FnExactSplitExpr {w : World} {LL_e _B_e : Nat} {_v_e : Value} {e : List Token} (_h_e : Ls Token.cs 4 w LL_e _B_e _v_e e) :
    Ctr Try.prog 6 #[(.agg #[_v_e])] w (fun v w' => v = .bool (true) ∧ Ch [] w w') := by
  obtain ⟨_A_e, _C_e, _e1_e⟩ := _h_e.val
  subst _e1_e
  have _l_e := _h_e.len
  have _h_e := _h_e.here (by decide)
  have E := Ch.refl [] w
  have sl := splE_len e
  refine Ctr_of_W (N := 112) (vs0 := [(.agg #[(.slice _A_e e.length _C_e)])]) Try.func6 rfl rfl rfl ?_
  refine W_seq fun _K_1 _hK_1 => ?_
  refine W_region ?_
  refine WL_s rfl rfl ?_
  refine s_box rfl fun _b1 _w_2 _m1 _cw_2 _e1 => ?_
  have _cw_2z := _cw_2.size
  have E := E.trans _cw_2
  have _z1 := _m1.lt
  replace _m1 : Blk _w_2 _b1 24 [(.slice _A_e e.length _C_e)] := _m1
  refine WL_step rfl rfl (r_assign rfl) ?_
  refine WL_nil ?_
  refine thn_nrm (_hK_1 _ _ ?_)
  clear _hK_1
  refine W_seq fun _K_3 _hK_3 => ?_
  refine W_region ?_
  refine WL_step rfl rfl (r_assign rfl) ?_
  refine WL_nil ?_
  refine thn_nrm (_hK_3 _ _ ?_)
  clear _hK_3
  refine W_seq fun _K_4 _hK_4 => ?_
  refine W_region ?_
  refine WL_step rfl rfl (r_loadAtA0 _m1.at_ agg24 sz24 rfl) ?_
  refine WL_step rfl rfl (r_move rfl) ?_
  refine WL_s rfl rfl ?_
  have _f_5 := (_h_e.ch0 _cw_2)
  refine Step.call (r_call (xs := [.tmp 14, .tmp 15]) fk14 rfl) (c_laws_szExpr _f_5 _ (by omega) (by omega)) fun _v16 _w_6 _q16 => ?_
  obtain ⟨rfl, _cw_6⟩ := _q16
  have _cw_6z := _cw_6.size
  have E := E.trans _cw_6
  refine WL_step rfl rfl (r_assign rfl) ?_
  refine WL_nil ?_
  refine thn_nrm (_hK_4 _ _ ?_)
  clear _hK_4
  refine W_seq fun _K_7 _hK_7 => ?_
  refine W_seq fun _K_8 _hK_8 => ?_
  refine W_region ?_
  refine WL_step rfl rfl (r_move rfl) ?_
  refine WL_step rfl rfl (r_lss rfl rfl) ?_
  refine WL_nil ?_
  refine thn_nrm (_hK_8 _ _ ?_)
  clear _hK_8
  refine W_cond rfl (fun _h18 => ?_) (fun _h18 => ?_)
  · have _kb_9 := _h18
    have _h18 := bt_d _h18
    refine W_seq fun _K_10 _hK_10 => ?_
    refine W_region ?_
    refine WL_step rfl rfl (r_assign rfl) ?_
    refine WL_nil ?_
    refine thn_nrm (_hK_10 _ _ ?_)
    clear _hK_10
    refine W_ret (thn_ret ?_)
    clear _hK_7
    exact ret_intro [_] ⟨rfl, trivial⟩ ⟨congrArg Value.bool (by first | rfl | (exfalso; omega) | (exfalso; revert _h18; simp; done) | (exfalso; revert _h18; simp; omega)), E⟩
  · have _kb_9 := _h18
    have _h18 := bf_d _h18
    refine W_skip ?_
    refine thn_nrm (_hK_7 _ _ ?_)
    clear _hK_7
    refine W_seq fun _K_11 _hK_11 => ?_
    refine W_region ?_
    have _f_12 := (_m1.ch0 _cw_6)
    refine WL_step rfl rfl (r_loadAtA0 _f_12.at_ agg24 sz24 rfl) ?_
    refine WL_s rfl rfl ?_
    have _f_13 := (_f_5.ch0 _cw_6)
    refine Step.call (r_call (xs := [.tmp 20]) fk16 rfl) (c_laws_toExpr _f_13 (by omega)) fun _v21 _w_14 _q21 => ?_
    obtain ⟨_u21, rfl, _q21, _lo21, _cw_14⟩ := _q21
    have _cw_14z := _cw_14.size
    have E := E.trans _cw_14
    obtain ⟨_Au21, _Cu21, _eu21⟩ := _q21.val
    subst _eu21
    have _lu21 := _q21.len
    have _hiu21 := _q21.lt
    refine WL_s rfl rfl ?_
    refine Step.call (r_call (xs := [.tmp 21]) fk23 rfl) (c_spec_SplitExpr _q21.ls (by omega)) fun _v22 _w_15 _q22 => ?_
    obtain ⟨u22_0x0, u22_1x0, rfl, _q_u22_0x0, _lo_u22_0x0, _q_u22_1x0, _lo_u22_1x0, _dj_u22_0x0_u22_1x0, _cw_15⟩ := _q22
    have _cw_15z := _cw_15.size
    have E := E.trans _cw_15
    obtain ⟨Au22_0x0, Cu22_0x0, eu22_0x0⟩ := _q_u22_0x0.val
    subst eu22_0x0
    have lu22_0x0 := _q_u22_0x0.len
    have _hiu22_0x0 := _q_u22_0x0.lt
    obtain ⟨Au22_1x0, Cu22_1x0, eu22_1x0⟩ := _q_u22_1x0.val
    subst eu22_1x0
    have lu22_1x0 := _q_u22_1x0.len
    have _hiu22_1x0 := _q_u22_1x0.lt
    refine WL_step rfl rfl (r_move rfl) ?_
    refine WL_step rfl rfl (r_extract rfl rfl) ?_
    refine WL_step rfl rfl (r_extract rfl rfl) ?_
    refine WL_s rfl rfl ?_
    refine s_alloc zr29 fun _b4 _w_16 _m4 _cw_16 _e4 => ?_
    have _cw_16z := _cw_16.size
    have E := E.trans _cw_16
    have _z4 := _m4.lt
    replace _m4 : Blk _w_16 _b4 29 [(.slice none 0 0)] := _m4
    refine WL_s rfl rfl ?_
    refine s_alloc zr29 fun _b5 _w_17 _m5 _cw_17 _e5 => ?_
    have _cw_17z := _cw_17.size
    have E := E.trans _cw_17
    have _z5 := _m5.lt
    replace _m5 : Blk _w_17 _b5 29 [(.slice none 0 0)] := _m5
    refine WL_s rfl rfl ?_
    have _f_18 := (_m4.ch0 _cw_17)
    refine s_storeA (off := 0) 1 _f_18 sz29 rfl (us := [(.slice Au22_0x0 ((splE e).1).length Cu22_0x0)]) rfl rfl rfl rfl fun _w_19 _m_20 _cw_19 => ?_
    have _cw_19z := _cw_19.size
    have E := E.step _cw_19 (fun i hi => .inl (by have _h1 := List.mem_singleton.1 hi; omega))
    replace _m_20 : Blk _w_19 _b4 29 [(.slice Au22_0x0 ((splE e).1).length Cu22_0x0)] := _m_20
    refine WL_s rfl rfl ?_
    have _f_21 := (_m5.ch _cw_19 (fun hm => by have _h1 := List.mem_singleton.1 hm; omega))
    refine s_storeA (off := 0) 1 _f_21 sz29 rfl (us := [(.slice Au22_1x0 ((splE e).2).length Cu22_1x0)]) rfl rfl rfl rfl fun _w_22 _m_23 _cw_22 => ?_
    have _cw_22z := _cw_22.size
    have E := E.step _cw_22 (fun i hi => .inl (by have _h1 := List.mem_singleton.1 hi; omega))
    replace _m_23 : Blk _w_22 _b5 29 [(.slice Au22_1x0 ((splE e).2).length Cu22_1x0)] := _m_23
    refine WL_nil ?_
    refine thn_nrm (_hK_11 _ _ ?_)
    clear _hK_11
    refine W_seq fun _K_24 _hK_24 => ?_
    refine W_region ?_
    have _f_25 := ((((((_f_12.ch0 _cw_14).ch0 _cw_15).ch0 _cw_16).ch0 _cw_17).ch _cw_19 (fun hm => by have _h1 := List.mem_singleton.1 hm; omega)).ch _cw_22 (fun hm => by have _h1 := List.mem_singleton.1 hm; omega))
    refine WL_step rfl rfl (r_loadAtA0 _f_25.at_ agg24 sz24 rfl) ?_
    refine WL_s rfl rfl ?_
    have _f_26 := ((((((_f_13.ch0 _cw_14).ch0 _cw_15).ch0 _cw_16).ch0 _cw_17).ch _cw_19 (fun i hi => by have _h1 := List.mem_singleton.1 hi; omega)).ch _cw_22 (fun i hi => by have _h1 := List.mem_singleton.1 hi; omega))
    refine Step.call (r_call (xs := [.tmp 25]) fk16 rfl) (c_laws_toExpr _f_26 (by omega)) fun _v26 _w_27 _q26 => ?_
    obtain ⟨_u26, rfl, _q26, _lo26, _cw_27⟩ := _q26
    have _cw_27z := _cw_27.size
    have E := E.trans _cw_27
    obtain ⟨_Au26, _Cu26, _eu26⟩ := _q26.val
    subst _eu26
    have _lu26 := _q26.len
    have _hiu26 := _q26.lt
    refine WL_s rfl rfl ?_
    refine s_alloc zr29 fun _b6 _w_28 _m6 _cw_28 _e6 => ?_
    have _cw_28z := _cw_28.size
    have E := E.trans _cw_28
    have _z6 := _m6.lt
    replace _m6 : Blk _w_28 _b6 29 [(.slice none 0 0)] := _m6
    refine WL_s rfl rfl ?_
    refine s_storeA (off := 0) 1 _m6 sz29 rfl (us := [(.slice _Au26 (e).length _Cu26)]) rfl rfl rfl rfl fun _w_29 _m_30 _cw_29 => ?_
    have _cw_29z := _cw_29.size
    have E := E.step _cw_29 (fun i hi => .inl (by have _h1 := List.mem_singleton.1 hi; omega))
    replace _m_30 : Blk _w_29 _b6 29 [(.slice _Au26 (e).length _Cu26)] := _m_30
    refine WL_nil ?_
    refine thn_nrm (_hK_24 _ _ ?_)
    clear _hK_24
    refine W_seq fun _K_31 _hK_31 => ?_
    refine W_region ?_
    refine WL_step rfl rfl (r_loadAtA0 _m_30.at_ agg29 sz29 rfl) ?_
    refine WL_s rfl rfl ?_
    have _f_32 := ((_q26.ch0 _cw_28).ch _cw_29 (fun g hg hm => by have _h0 := List.mem_singleton.1 hm; have _h2 := _lo26 _ hg; have _h3 := _hiu26 _ hg; omega))
    refine Step.call (r_call (xs := [.tmp 28]) fk24 rfl) (c_impl_SplitExpr _f_32.ls (by omega)) fun _v29 _w_33 _q29 => ?_
    obtain ⟨u29_0x0, u29_1x0, rfl, _q_u29_0x0, _lo_u29_0x0, _q_u29_1x0, _lo_u29_1x0, _dj_u29_0x0_u29_1x0, _cw_33⟩ := _q29
    have _cw_33z := _cw_33.size
    have E := E.trans _cw_33
    obtain ⟨Au29_0x0, Cu29_0x0, eu29_0x0⟩ := _q_u29_0x0.val
    subst eu29_0x0
    have lu29_0x0 := _q_u29_0x0.len
    have _hiu29_0x0 := _q_u29_0x0.lt
    obtain ⟨Au29_1x0, Cu29_1x0, eu29_1x0⟩ := _q_u29_1x0.val
    subst eu29_1x0
    have lu29_1x0 := _q_u29_1x0.len
    have _hiu29_1x0 := _q_u29_1x0.lt
    refine WL_step rfl rfl (r_move rfl) ?_
    refine WL_step rfl rfl (r_extract rfl rfl) ?_
    refine WL_step rfl rfl (r_extract rfl rfl) ?_
    refine WL_s rfl rfl ?_
    refine s_alloc zr29 fun _b7 _w_34 _m7 _cw_34 _e7 => ?_
    have _cw_34z := _cw_34.size
    have E := E.trans _cw_34
    have _z7 := _m7.lt
    replace _m7 : Blk _w_34 _b7 29 [(.slice none 0 0)] := _m7
    refine WL_s rfl rfl ?_
    refine s_alloc zr29 fun _b8 _w_35 _m8 _cw_35 _e8 => ?_
    have _cw_35z := _cw_35.size
    have E := E.trans _cw_35
    have _z8 := _m8.lt
    replace _m8 : Blk _w_35 _b8 29 [(.slice none 0 0)] := _m8
    refine WL_s rfl rfl ?_
    have _f_36 := (_m7.ch0 _cw_35)
    refine s_storeA (off := 0) 1 _f_36 sz29 rfl (us := [(.slice Au29_0x0 ((splE e).1).length Cu29_0x0)]) rfl rfl rfl rfl fun _w_37 _m_38 _cw_37 => ?_
    have _cw_37z := _cw_37.size
    have E := E.step _cw_37 (fun i hi => .inl (by have _h1 := List.mem_singleton.1 hi; omega))
    replace _m_38 : Blk _w_37 _b7 29 [(.slice Au29_0x0 ((splE e).1).length Cu29_0x0)] := _m_38
    refine WL_s rfl rfl ?_
    have _f_39 := (_m8.ch _cw_37 (fun hm => by have _h1 := List.mem_singleton.1 hm; omega))
    refine s_storeA (off := 0) 1 _f_39 sz29 rfl (us := [(.slice Au29_1x0 ((splE e).2).length Cu29_1x0)]) rfl rfl rfl rfl fun _w_40 _m_41 _cw_40 => ?_
    have _cw_40z := _cw_40.size
    have E := E.step _cw_40 (fun i hi => .inl (by have _h1 := List.mem_singleton.1 hi; omega))
    replace _m_41 : Blk _w_40 _b8 29 [(.slice Au29_1x0 ((splE e).2).length Cu29_1x0)] := _m_41
    refine WL_nil ?_
    refine thn_nrm (_hK_31 _ _ ?_)
    clear _hK_31
    refine W_seq fun _K_42 _hK_42 => ?_
    refine W_seq fun _K_43 _hK_43 => ?_
    refine W_region ?_
    have _f_44 := (_m_38.ch _cw_40 (fun hm => by have _h1 := List.mem_singleton.1 hm; omega))
    refine WL_step rfl rfl (r_loadAtA0 _f_44.at_ agg29 sz29 rfl) ?_
    have _f_45 := (((((((((_m_20.ch _cw_22 (fun hm => by have _h1 := List.mem_singleton.1 hm; omega)).ch0 _cw_27).ch0 _cw_28).ch _cw_29 (fun hm => by have _h1 := List.mem_singleton.1 hm; omega)).ch0 _cw_33).ch0 _cw_34).ch0 _cw_35).ch _cw_37 (fun hm => by have _h1 := List.mem_singleton.1 hm; omega)).ch _cw_40 (fun hm => by have _h1 := List.mem_singleton.1 hm; omega))
    refine WL_step rfl rfl (r_loadAtA0 _f_45.at_ agg29 sz29 rfl) ?_
    refine WL_s rfl rfl ?_
    have _f_46 := ((((_q_u29_0x0.ch0 _cw_34).ch0 _cw_35).ch _cw_37 (fun g hg hm => by have _h0 := List.mem_singleton.1 hm; have _h2 := _lo_u29_0x0 _ hg; have _h3 := _hiu29_0x0 _ hg; omega)).ch _cw_40 (fun g hg hm => by have _h0 := List.mem_singleton.1 hm; have _h2 := _lo_u29_0x0 _ hg; have _h3 := _hiu29_0x0 _ hg; omega))
    have _f_47 := ((((((((((((_q_u22_0x0.ch0 _cw_16).ch0 _cw_17).ch _cw_19 (fun g hg hm => by have _h0 := List.mem_singleton.1 hm; have _h2 := _lo_u22_0x0 _ hg; have _h3 := _hiu22_0x0 _ hg; omega)).ch _cw_22 (fun g hg hm => by have _h0 := List.mem_singleton.1 hm; have _h2 := _lo_u22_0x0 _ hg; have _h3 := _hiu22_0x0 _ hg; omega)).ch0 _cw_27).ch0 _cw_28).ch _cw_29 (fun g hg hm => by have _h0 := List.mem_singleton.1 hm; have _h2 := _lo_u22_0x0 _ hg; have _h3 := _hiu22_0x0 _ hg; omega)).ch0 _cw_33).ch0 _cw_34).ch0 _cw_35).ch _cw_37 (fun g hg hm => by have _h0 := List.mem_singleton.1 hm; have _h2 := _lo_u22_0x0 _ hg; have _h3 := _hiu22_0x0 _ hg; omega)).ch _cw_40 (fun g hg hm => by have _h0 := List.mem_singleton.1 hm; have _h2 := _lo_u22_0x0 _ hg; have _h3 := _hiu22_0x0 _ hg; omega))
    refine Step.call (r_call (xs := [.tmp 32, .tmp 33]) fk18 rfl) (c_laws_eqExpr _f_46.ls _f_47.ls ) fun _v34 _w_48 _q34 => ?_
    obtain ⟨rfl, _cw_48⟩ := _q34
    have _cw_48z := _cw_48.size
    have E := E.trans _cw_48
    refine WL_step rfl rfl (r_not rfl) ?_
    refine WL_step rfl rfl (r_move rfl) ?_
    refine WL_split (d := 36) rfl (fun _h36 => ?_) (fun _h36 => ?_)
    · have _kb_49 := _h36
      have _h36 := bf_d (bt_n _h36)
      refine WL_skip rfl rfl ?_
      refine WL_skip rfl rfl ?_
      refine WL_skip rfl rfl ?_
      refine WL_skip rfl rfl ?_
      refine WL_step rfl rfl (r_pickT rfl rfl) ?_
      refine WL_nil ?_
      refine thn_nrm (_hK_43 _ _ ?_)
      clear _hK_43
      refine W_condT rfl ?_
      refine W_seq fun _K_50 _hK_50 => ?_
      refine W_region ?_
      refine WL_step rfl rfl (r_assign rfl) ?_
      refine WL_nil ?_
      refine thn_nrm (_hK_50 _ _ ?_)
      clear _hK_50
      refine W_ret (thn_ret ?_)
      clear _hK_42
      exact ret_intro [_] ⟨rfl, trivial⟩ ⟨congrArg Value.bool (by first | rfl | (exfalso; omega) | (exfalso; revert _h36; simp; done) | (exfalso; revert _h36; simp; omega)), E⟩
    · have _kb_49 := _h36
      have _h36 := bt_d (bf_n _h36)
      have _f_51 := (_m_41.ch0 _cw_48)
      refine WL_step rfl rfl (r_loadAtA0 _f_51.at_ agg29 sz29 rfl) ?_
      have _f_52 := (((((((((_m_23.ch0 _cw_27).ch0 _cw_28).ch _cw_29 (fun hm => by have _h1 := List.mem_singleton.1 hm; omega)).ch0 _cw_33).ch0 _cw_34).ch0 _cw_35).ch _cw_37 (fun hm => by have _h1 := List.mem_singleton.1 hm; omega)).ch _cw_40 (fun hm => by have _h1 := List.mem_singleton.1 hm; omega)).ch0 _cw_48)
      refine WL_step rfl rfl (r_loadAtA0 _f_52.at_ agg29 sz29 rfl) ?_
      refine WL_s rfl rfl ?_
      have _f_53 := (((((_q_u29_1x0.ch0 _cw_34).ch0 _cw_35).ch _cw_37 (fun g hg hm => by have _h0 := List.mem_singleton.1 hm; have _h2 := _lo_u29_1x0 _ hg; have _h3 := _hiu29_1x0 _ hg; omega)).ch _cw_40 (fun g hg hm => by have _h0 := List.mem_singleton.1 hm; have _h2 := _lo_u29_1x0 _ hg; have _h3 := _hiu29_1x0 _ hg; omega)).ch0 _cw_48)
      have _f_54 := (((((((((((((_q_u22_1x0.ch0 _cw_16).ch0 _cw_17).ch _cw_19 (fun g hg hm => by have _h0 := List.mem_singleton.1 hm; have _h2 := _lo_u22_1x0 _ hg; have _h3 := _hiu22_1x0 _ hg; omega)).ch _cw_22 (fun g hg hm => by have _h0 := List.mem_singleton.1 hm; have _h2 := _lo_u22_1x0 _ hg; have _h3 := _hiu22_1x0 _ hg; omega)).ch0 _cw_27).ch0 _cw_28).ch _cw_29 (fun g hg hm => by have _h0 := List.mem_singleton.1 hm; have _h2 := _lo_u22_1x0 _ hg; have _h3 := _hiu22_1x0 _ hg; omega)).ch0 _cw_33).ch0 _cw_34).ch0 _cw_35).ch _cw_37 (fun g hg hm => by have _h0 := List.mem_singleton.1 hm; have _h2 := _lo_u22_1x0 _ hg; have _h3 := _hiu22_1x0 _ hg; omega)).ch _cw_40 (fun g hg hm => by have _h0 := List.mem_singleton.1 hm; have _h2 := _lo_u22_1x0 _ hg; have _h3 := _hiu22_1x0 _ hg; omega)).ch0 _cw_48)
      refine Step.call (r_call (xs := [.tmp 37, .tmp 38]) fk18 rfl) (c_laws_eqExpr _f_53.ls _f_54.ls ) fun _v39 _w_55 _q39 => ?_
      obtain ⟨rfl, _cw_55⟩ := _q39
      have _cw_55z := _cw_55.size
      have E := E.trans _cw_55
      refine WL_step rfl rfl (r_not rfl) ?_
      refine WL_step rfl rfl (r_pickF rfl rfl) ?_
      refine WL_nil ?_
      refine thn_nrm (_hK_43 _ _ ?_)
      clear _hK_43
      refine W_cond rfl (fun _h41 => ?_) (fun _h41 => ?_)
      · have _kb_56 := _h41
        have _h41 := bf_d (bt_n _h41)
        refine W_seq fun _K_57 _hK_57 => ?_
        refine W_region ?_
        refine WL_step rfl rfl (r_assign rfl) ?_
        refine WL_nil ?_
        refine thn_nrm (_hK_57 _ _ ?_)
        clear _hK_57
        refine W_ret (thn_ret ?_)
        clear _hK_42
        exact ret_intro [_] ⟨rfl, trivial⟩ ⟨congrArg Value.bool (by first | rfl | (exfalso; omega) | (exfalso; revert _h41; simp; done) | (exfalso; revert _h41; simp; omega)), E⟩
      · have _kb_56 := _h41
        have _h41 := bt_d (bf_n _h41)
        refine W_skip ?_
        refine thn_nrm (_hK_42 _ _ ?_)
        clear _hK_42
        refine W_seq fun _K_58 _hK_58 => ?_
        refine W_seq fun _K_59 _hK_59 => ?_
        refine W_drawC [] 5 mixed rfl fun _w_60 _cw_60 => ?_
        have _cw_60z := _cw_60.size
        have E := E.trans _cw_60
        have _f_61 := ((((((((_m_30.ch0 _cw_33).ch0 _cw_34).ch0 _cw_35).ch _cw_37 (fun hm => by have _h1 := List.mem_singleton.1 hm; omega)).ch _cw_40 (fun hm => by have _h1 := List.mem_singleton.1 hm; omega)).ch0 _cw_48).ch0 _cw_55).ch0 _cw_60)
        refine DR_s 0 rfl (by kernel_rfl) rfl rfl (t_loadAtA0 _f_61.at_ (fun i hi => absurd hi List.not_mem_nil) agg29 sz29 rfl ?_)
        have _f_62 := (((((((((((_f_25.ch0 _cw_27).ch0 _cw_28).ch _cw_29 (fun hm => by have _h1 := List.mem_singleton.1 hm; omega)).ch0 _cw_33).ch0 _cw_34).ch0 _cw_35).ch _cw_37 (fun hm => by have _h1 := List.mem_singleton.1 hm; omega)).ch _cw_40 (fun hm => by have _h1 := List.mem_singleton.1 hm; omega)).ch0 _cw_48).ch0 _cw_55).ch0 _cw_60)
        refine DR_s 1 rfl (by kernel_rfl) rfl rfl (t_loadAtA0 _f_62.at_ (fun i hi => absurd hi List.not_mem_nil) agg24 sz24 rfl ?_)
        refine DR_one 2 (by kernel_rfl) ?_
        refine DO_s rfl rfl rfl ?_
        have _f_63 := (((((((((((_f_26.ch0 _cw_27).ch0 _cw_28).ch _cw_29 (fun i hi => by have _h1 := List.mem_singleton.1 hi; omega)).ch0 _cw_33).ch0 _cw_34).ch0 _cw_35).ch _cw_37 (fun i hi => by have _h1 := List.mem_singleton.1 hi; omega)).ch _cw_40 (fun i hi => by have _h1 := List.mem_singleton.1 hi; omega)).ch0 _cw_48).ch0 _cw_55).ch0 _cw_60)
        refine Step.call (r_call (xs := [.tmp 43]) fk16 rfl) (c_laws_toExpr _f_63 (by omega)) fun _v44 _w_64 _q44 => ?_
        obtain ⟨_u44, rfl, _q44, _lo44, _cw_64⟩ := _q44
        have _cw_64z := _cw_64.size
        have E := E.trans _cw_64
        obtain ⟨_Au44, _Cu44, _eu44⟩ := _q44.val
        subst _eu44
        have _lu44 := _q44.len
        have _hiu44 := _q44.lt
        have _S_65 : Ch [] _w_60 _w_64 := ((Ch.refl _ _).trans _cw_64)
        refine ⟨_S_65, ?_⟩
        refine DR_one 3 (by kernel_rfl) ?_
        refine DO_s rfl rfl rfl ?_
        have _f_66 := (((((((((_f_32.ch0 _cw_33).ch0 _cw_34).ch0 _cw_35).ch _cw_37 (fun g hg hm => by have _h0 := List.mem_singleton.1 hm; have _h2 := _lo26 _ hg; have _h3 := _hiu26 _ hg; omega)).ch _cw_40 (fun g hg hm => by have _h0 := List.mem_singleton.1 hm; have _h2 := _lo26 _ hg; have _h3 := _hiu26 _ hg; omega)).ch0 _cw_48).ch0 _cw_55).ch0 _cw_60).ch0 _cw_64)
        refine Step.call (r_call (xs := [.tmp 42, .tmp 44]) fk18 rfl) (c_laws_eqExpr _f_66.ls _q44.ls ) fun _v45 _w_67 _q45 => ?_
        obtain ⟨rfl, _cw_67⟩ := _q45
        have _cw_67z := _cw_67.size
        have E := E.trans _cw_67
        have _S_68 : Ch [] _w_60 _w_67 := (_S_65.trans _cw_67)
        refine ⟨_S_68, ?_⟩
        refine DR_s 4 rfl (by kernel_rfl) rfl rfl (t_v (fun _ => (r_not rfl)) ?_)
        refine DR_done (by kernel_rfl) ?_
        refine thn_nrm (_hK_59 _ _ ?_)
        clear _hK_59
        refine W_cond rfl (fun _h46 => ?_) (fun _h46 => ?_)
        · have _kb_69 := _h46
          have _h46 := bf_d (bt_n _h46)
          refine W_seq fun _K_70 _hK_70 => ?_
          refine W_region ?_
          refine WL_step rfl rfl (r_assign rfl) ?_
          refine WL_nil ?_
          refine thn_nrm (_hK_70 _ _ ?_)
          clear _hK_70
          refine W_ret (thn_ret ?_)
          clear _hK_58
          exact ret_intro [_] ⟨rfl, trivial⟩ ⟨congrArg Value.bool (by first | rfl | (exfalso; omega) | (exfalso; revert _h46; simp; done) | (exfalso; revert _h46; simp; omega)), E⟩
        · have _kb_69 := _h46
          have _h46 := bt_d (bf_n _h46)
          refine W_skip ?_
          refine thn_nrm (_hK_58 _ _ ?_)
          clear _hK_58
          refine W_seq fun _K_71 _hK_71 => ?_
          refine W_region ?_
          refine WL_step rfl rfl (r_assign rfl) ?_
          refine WL_nil ?_
          refine thn_nrm (_hK_71 _ _ ?_)
          clear _hK_71
          refine W_seq fun _K_72 _hK_72 => ?_
          refine W_region ?_
          have _f_73 := ((_f_61.ch0 _cw_64).ch0 _cw_67)
          refine WL_step rfl rfl (r_loadAtA0 _f_73.at_ agg29 sz29 rfl) ?_
          refine WL_step rfl rfl (r_move rfl) ?_
          refine WL_s rfl rfl ?_
          have _f_74 := (_f_66.ch0 _cw_67)
          refine Step.call (r_call (xs := [.tmp 47, .tmp 48]) fk25 rfl) (c_laws_markExpr _f_74 _ (by omega) (by first | omega | (simp <;> omega))) fun _v49 _w_75 _q49 => ?_
          obtain ⟨rfl, _q49, _cw_75⟩ := _q49
          have _cw_75z := _cw_75.size
          have E := E.step _cw_75 (fun i hi => .inl (by have _h1 := _lo26 _ hi; omega))
          refine WL_step rfl rfl (r_assign rfl) ?_
          refine WL_nil ?_
          refine thn_nrm (_hK_72 _ _ ?_)
          clear _hK_72
          refine W_seq fun _K_76 _hK_76 => ?_
          refine W_seq fun _K_77 _hK_77 => ?_
          refine W_region ?_
          refine WL_step rfl rfl (r_move rfl) ?_
          refine WL_step rfl rfl (r_lss rfl rfl) ?_
          refine WL_step rfl rfl (r_move rfl) ?_
          refine WL_split (d := 52) rfl (fun _h52 => ?_) (fun _h52 => ?_)
          · have _kb_78 := _h52
            have _h52 := bt_d _h52
            refine WL_skip rfl rfl ?_
            refine WL_skip rfl rfl ?_
            refine WL_skip rfl rfl ?_
            refine WL_skip rfl rfl ?_
            refine WL_step rfl rfl (r_pickT rfl rfl) ?_
            refine WL_step rfl rfl (r_move rfl) ?_
            refine WL_skip rfl rfl ?_
            refine WL_skip rfl rfl ?_
            refine WL_skip rfl rfl ?_
            refine WL_skip rfl rfl ?_
            refine WL_step rfl rfl (r_pickT rfl rfl) ?_
            refine WL_nil ?_
            refine thn_nrm (_hK_77 _ _ ?_)
            clear _hK_77
            refine W_condT rfl ?_
            refine W_seq fun _K_79 _hK_79 => ?_
            refine W_region ?_
            refine WL_step rfl rfl (r_assign rfl) ?_
            refine WL_nil ?_
            refine thn_nrm (_hK_79 _ _ ?_)
            clear _hK_79
            refine W_ret (thn_ret ?_)
            clear _hK_76
            exact ret_intro [_] ⟨rfl, trivial⟩ ⟨congrArg Value.bool (by first | rfl | (exfalso; omega) | (exfalso; revert _h52; simp; done) | (exfalso; revert _h52; simp; omega)), E⟩
          · have _kb_78 := _h52
            have _h52 := bf_d _h52
            have _f_80 := ((((((_f_44.ch0 _cw_48).ch0 _cw_55).ch0 _cw_60).ch0 _cw_64).ch0 _cw_67).ch _cw_75 (fun hm => by have _h1 := _lo26 _ hm; have _h2 := _hiu26 _ hm; omega))
            refine WL_step rfl rfl (r_loadAtA0 _f_80.at_ agg29 sz29 rfl) ?_
            have _f_81 := ((((((_f_45.ch0 _cw_48).ch0 _cw_55).ch0 _cw_60).ch0 _cw_64).ch0 _cw_67).ch _cw_75 (fun hm => by have _h1 := _lo26 _ hm; have _h2 := _hiu26 _ hm; omega))
            refine WL_step rfl rfl (r_loadAtA0 _f_81.at_ agg29 sz29 rfl) ?_
            refine WL_s rfl rfl ?_
            have _f_82 := ((((((_f_46.ch0 _cw_48).ch0 _cw_55).ch0 _cw_60).ch0 _cw_64).ch0 _cw_67).ch _cw_75 (fun g hg hm => by have _h1 := _lo26 _ hm; have _h2 := _hiu26 _ hm; have _h3 := _lo_u29_0x0 _ hg; have _h4 := _hiu29_0x0 _ hg; omega))
            have _f_83 := ((((((_f_47.ch0 _cw_48).ch0 _cw_55).ch0 _cw_60).ch0 _cw_64).ch0 _cw_67).ch _cw_75 (fun g hg hm => by have _h1 := _lo26 _ hm; have _h2 := _hiu26 _ hm; have _h3 := _lo_u22_0x0 _ hg; have _h4 := _hiu22_0x0 _ hg; omega))
            refine Step.call (r_call (xs := [.tmp 53, .tmp 54]) fk18 rfl) (c_laws_eqExpr _f_82.ls _f_83.ls ) fun _v55 _w_84 _q55 => ?_
            obtain ⟨rfl, _cw_84⟩ := _q55
            have _cw_84z := _cw_84.size
            have E := E.trans _cw_84
            refine WL_step rfl rfl (r_not rfl) ?_
            refine WL_step rfl rfl (r_pickF rfl rfl) ?_
            refine WL_step rfl rfl (r_move rfl) ?_
            refine WL_splitF (d := 58) rfl _kb_49 ?_
            have _f_85 := ((((((_f_51.ch0 _cw_55).ch0 _cw_60).ch0 _cw_64).ch0 _cw_67).ch _cw_75 (fun hm => by have _h1 := _lo26 _ hm; have _h2 := _hiu26 _ hm; omega)).ch0 _cw_84)
            refine WL_step rfl rfl (r_loadAtA0 _f_85.at_ agg29 sz29 rfl) ?_
            have _f_86 := ((((((_f_52.ch0 _cw_55).ch0 _cw_60).ch0 _cw_64).ch0 _cw_67).ch _cw_75 (fun hm => by have _h1 := _lo26 _ hm; have _h2 := _hiu26 _ hm; omega)).ch0 _cw_84)
            refine WL_step rfl rfl (r_loadAtA0 _f_86.at_ agg29 sz29 rfl) ?_
            refine WL_s rfl rfl ?_
            have _f_87 := ((((((_f_53.ch0 _cw_55).ch0 _cw_60).ch0 _cw_64).ch0 _cw_67).ch _cw_75 (fun g hg hm => by have _h1 := _lo26 _ hm; have _h2 := _hiu26 _ hm; have _h3 := _lo_u29_1x0 _ hg; have _h4 := _hiu29_1x0 _ hg; omega)).ch0 _cw_84)
            have _f_88 := ((((((_f_54.ch0 _cw_55).ch0 _cw_60).ch0 _cw_64).ch0 _cw_67).ch _cw_75 (fun g hg hm => by have _h1 := _lo26 _ hm; have _h2 := _hiu26 _ hm; have _h3 := _lo_u22_1x0 _ hg; have _h4 := _hiu22_1x0 _ hg; omega)).ch0 _cw_84)
            refine Step.call (r_call (xs := [.tmp 59, .tmp 60]) fk18 rfl) (c_laws_eqExpr _f_87.ls _f_88.ls ) fun _v61 _w_89 _q61 => ?_
            obtain ⟨rfl, _cw_89⟩ := _q61
            have _cw_89z := _cw_89.size
            have E := E.trans _cw_89
            refine WL_step rfl rfl (r_not rfl) ?_
            refine WL_step rfl rfl (r_pickF rfl rfl) ?_
            refine WL_nil ?_
            refine thn_nrm (_hK_77 _ _ ?_)
            clear _hK_77
            refine W_condFk rfl _kb_56 ?_
            refine W_skip ?_
            refine thn_nrm (_hK_76 _ _ ?_)
            clear _hK_76
            refine W_seq fun _K_90 _hK_90 => ?_
            refine W_region ?_
            refine WL_step rfl rfl (r_assign rfl) ?_
            refine WL_nil ?_
            refine thn_nrm (_hK_90 _ _ ?_)
            clear _hK_90
            refine W_seq fun _K_91 _hK_91 => ?_
            refine W_region ?_
            have _f_92 := ((_f_80.ch0 _cw_84).ch0 _cw_89)
            refine WL_step rfl rfl (r_loadAtA0 _f_92.at_ agg29 sz29 rfl) ?_
            refine WL_step rfl rfl (r_move rfl) ?_
            refine WL_s rfl rfl ?_
            have _f_93 := ((_f_82.ch0 _cw_84).ch0 _cw_89)
            refine Step.call (r_call (xs := [.tmp 64, .tmp 65]) fk25 rfl) (c_laws_markExpr _f_93 _ (by omega) (by first | omega | (simp <;> omega))) fun _v66 _w_94 _q66 => ?_
            obtain ⟨rfl, _q66, _cw_94⟩ := _q66
            have _cw_94z := _cw_94.size
            have E := E.step _cw_94 (fun i hi => .inl (by have _h1 := _lo_u29_0x0 _ hi; omega))
            refine WL_step rfl rfl (r_assign rfl) ?_
            refine WL_nil ?_
            refine thn_nrm (_hK_91 _ _ ?_)
            clear _hK_91
            refine W_seq fun _K_95 _hK_95 => ?_
            refine W_region ?_
            have _f_96 := ((_f_85.ch0 _cw_89).ch _cw_94 (fun hm => by have _h1 := _lo_u29_0x0 _ hm; have _h2 := _hiu29_0x0 _ hm; omega))
            refine WL_step rfl rfl (r_loadAtA0 _f_96.at_ agg29 sz29 rfl) ?_
            refine WL_step rfl rfl (r_move rfl) ?_
            refine WL_s rfl rfl ?_
            have _f_97 := ((_f_87.ch0 _cw_89).ch _cw_94 (fun g hg hm => by exact _dj_u29_0x0_u29_1x0 _ hm hg))
            refine Step.call (r_call (xs := [.tmp 67, .tmp 68]) fk25 rfl) (c_laws_markExpr _f_97 _ (by omega) (by first | omega | (simp <;> omega))) fun _v69 _w_98 _q69 => ?_
            obtain ⟨rfl, _q69, _cw_98⟩ := _q69
            have _cw_98z := _cw_98.size
            have E := E.step _cw_98 (fun i hi => .inl (by have _h1 := _lo_u29_1x0 _ hi; omega))
            refine WL_step rfl rfl (r_assign rfl) ?_
            refine WL_nil ?_
            refine thn_nrm (_hK_95 _ _ ?_)
            clear _hK_95
            refine W_seq fun _K_99 _hK_99 => ?_
            refine W_region ?_
            refine WL_step rfl rfl (r_assign rfl) ?_
            refine WL_nil ?_
            refine thn_nrm (_hK_99 _ _ ?_)
            clear _hK_99
            refine W_seq fun _K_100 _hK_100 => ?_
            refine W_region ?_
            have _f_101 := ((_f_92.ch _cw_94 (fun hm => by have _h1 := _lo_u29_0x0 _ hm; have _h2 := _hiu29_0x0 _ hm; omega)).ch _cw_98 (fun hm => by have _h1 := _lo_u29_1x0 _ hm; have _h2 := _hiu29_1x0 _ hm; omega))
            refine WL_step rfl rfl (r_loadAtA0 _f_101.at_ agg29 sz29 rfl) ?_
            refine WL_step rfl rfl (r_move rfl) ?_
            refine WL_s rfl rfl ?_
            have _f_102 := (_q66.ch _cw_98 (fun g hg hm => by exact _dj_u29_0x0_u29_1x0 _ hg hm))
            refine Step.call (r_call (xs := [.tmp 70, .tmp 71]) fk26 rfl) (c_laws_heldExpr _f_102.ls _ (by omega) (by first | omega | (simp <;> omega))) fun _v72 _w_103 _q72 => ?_
            obtain ⟨rfl, _cw_103⟩ := _q72
            have _cw_103z := _cw_103.size
            have E := E.trans _cw_103
            refine WL_step rfl rfl (r_assign rfl) ?_
            refine WL_nil ?_
            refine thn_nrm (_hK_100 _ _ ?_)
            clear _hK_100
            refine W_seq fun _K_104 _hK_104 => ?_
            refine W_seq fun _K_105 _hK_105 => ?_
            refine W_region ?_
            refine WL_step rfl rfl (r_move rfl) ?_
            refine WL_step rfl rfl (r_lss rfl rfl) ?_
            refine WL_nil ?_
            refine thn_nrm (_hK_105 _ _ ?_)
            clear _hK_105
            refine W_cond rfl (fun _h74 => ?_) (fun _h74 => ?_)
            · have _kb_106 := _h74
              have _h74 := bt_d _h74
              refine W_seq fun _K_107 _hK_107 => ?_
              refine W_region ?_
              refine WL_step rfl rfl (r_assign rfl) ?_
              refine WL_nil ?_
              refine thn_nrm (_hK_107 _ _ ?_)
              clear _hK_107
              refine W_ret (thn_ret ?_)
              clear _hK_104
              exact ret_intro [_] ⟨rfl, trivial⟩ ⟨congrArg Value.bool (by first | rfl | (exfalso; omega) | (exfalso; revert _h74; simp; done) | (exfalso; revert _h74; simp; omega)), E⟩
            · have _kb_106 := _h74
              have _h74 := bf_d _h74
              refine W_skip ?_
              refine thn_nrm (_hK_104 _ _ ?_)
              clear _hK_104
              refine W_seq fun _K_108 _hK_108 => ?_
              refine W_region ?_
              have _f_109 := ((_f_96.ch _cw_98 (fun hm => by have _h1 := _lo_u29_1x0 _ hm; have _h2 := _hiu29_1x0 _ hm; omega)).ch0 _cw_103)
              refine WL_step rfl rfl (r_loadAtA0 _f_109.at_ agg29 sz29 rfl) ?_
              refine WL_step rfl rfl (r_move rfl) ?_
              refine WL_s rfl rfl ?_
              have _f_110 := (_q69.ch0 _cw_103)
              refine Step.call (r_call (xs := [.tmp 75, .tmp 76]) fk26 rfl) (c_laws_heldExpr _f_110.ls _ (by omega) (by first | omega | (simp <;> omega))) fun _v77 _w_111 _q77 => ?_
              obtain ⟨rfl, _cw_111⟩ := _q77
              have _cw_111z := _cw_111.size
              have E := E.trans _cw_111
              refine WL_step rfl rfl (r_assign rfl) ?_
              refine WL_nil ?_
              refine thn_nrm (_hK_108 _ _ ?_)
              clear _hK_108
              refine W_seq fun _K_112 _hK_112 => ?_
              refine W_seq fun _K_113 _hK_113 => ?_
              refine W_region ?_
              refine WL_step rfl rfl (r_move rfl) ?_
              refine WL_step rfl rfl (r_lss rfl rfl) ?_
              refine WL_nil ?_
              refine thn_nrm (_hK_113 _ _ ?_)
              clear _hK_113
              refine W_cond rfl (fun _h79 => ?_) (fun _h79 => ?_)
              · have _kb_114 := _h79
                have _h79 := bt_d _h79
                refine W_seq fun _K_115 _hK_115 => ?_
                refine W_region ?_
                refine WL_step rfl rfl (r_assign rfl) ?_
                refine WL_nil ?_
                refine thn_nrm (_hK_115 _ _ ?_)
                clear _hK_115
                refine W_ret (thn_ret ?_)
                clear _hK_112
                exact ret_intro [_] ⟨rfl, trivial⟩ ⟨congrArg Value.bool (by first | rfl | (exfalso; omega) | (exfalso; revert _h79; simp; done) | (exfalso; revert _h79; simp; omega)), E⟩
              · have _kb_114 := _h79
                have _h79 := bf_d _h79
                refine W_skip ?_
                refine thn_nrm (_hK_112 _ _ ?_)
                clear _hK_112
                refine W_seq fun _K_116 _hK_116 => ?_
                refine W_seq fun _K_117 _hK_117 => ?_
                refine W_region ?_
                refine WL_step rfl rfl (r_move rfl) ?_
                refine WL_step rfl rfl (r_move rfl) ?_
                refine WL_step rfl rfl (r_neq rfl rfl) ?_
                refine WL_nil ?_
                refine thn_nrm (_hK_117 _ _ ?_)
                clear _hK_117
                refine W_cond rfl (fun _h82 => ?_) (fun _h82 => ?_)
                · have _kb_118 := _h82
                  have _h82 := bf_d (bt_n _h82)
                  refine W_seq fun _K_119 _hK_119 => ?_
                  refine W_region ?_
                  refine WL_step rfl rfl (r_assign rfl) ?_
                  refine WL_nil ?_
                  refine thn_nrm (_hK_119 _ _ ?_)
                  clear _hK_119
                  refine W_ret (thn_ret ?_)
                  clear _hK_116
                  exact ret_intro [_] ⟨rfl, trivial⟩ ⟨congrArg Value.bool (by first | rfl | (exfalso; omega) | (exfalso; revert _h82; simp; done) | (exfalso; revert _h82; simp; omega)), E⟩
                · have _kb_118 := _h82
                  have _h82 := bt_d (bf_n _h82)
                  refine W_skip ?_
                  refine thn_nrm (_hK_116 _ _ ?_)
                  clear _hK_116
                  refine W_seq fun _K_120 _hK_120 => ?_
                  refine W_region ?_
                  have _f_121 := (((((((((_f_62.ch0 _cw_64).ch0 _cw_67).ch _cw_75 (fun hm => by have _h1 := _lo26 _ hm; have _h2 := _hiu26 _ hm; omega)).ch0 _cw_84).ch0 _cw_89).ch _cw_94 (fun hm => by have _h1 := _lo_u29_0x0 _ hm; have _h2 := _hiu29_0x0 _ hm; omega)).ch _cw_98 (fun hm => by have _h1 := _lo_u29_1x0 _ hm; have _h2 := _hiu29_1x0 _ hm; omega)).ch0 _cw_103).ch0 _cw_111)
                  refine WL_step rfl rfl (r_loadAtA0 _f_121.at_ agg24 sz24 rfl) ?_
                  refine WL_s rfl rfl ?_
                  have _f_122 := (((((((((_f_63.ch0 _cw_64).ch0 _cw_67).ch _cw_75 (fun i hi => by have _h1 := _lo26 _ hi; omega)).ch0 _cw_84).ch0 _cw_89).ch _cw_94 (fun i hi => by have _h1 := _lo_u29_0x0 _ hi; omega)).ch _cw_98 (fun i hi => by have _h1 := _lo_u29_1x0 _ hi; omega)).ch0 _cw_103).ch0 _cw_111)
                  refine Step.call (r_call (xs := [.tmp 84]) fk16 rfl) (c_laws_toExpr _f_122 (by omega)) fun _v85 _w_123 _q85 => ?_
                  obtain ⟨_u85, rfl, _q85, _lo85, _cw_123⟩ := _q85
                  have _cw_123z := _cw_123.size
                  have E := E.trans _cw_123
                  obtain ⟨_Au85, _Cu85, _eu85⟩ := _q85.val
                  subst _eu85
                  have _lu85 := _q85.len
                  have _hiu85 := _q85.lt
                  refine WL_s rfl rfl ?_
                  refine Step.call (r_call (xs := [.tmp 85]) fk24 rfl) (c_impl_SplitExpr _q85.ls (by omega)) fun _v86 _w_124 _q86 => ?_
                  obtain ⟨u86_0x0, u86_1x0, rfl, _q_u86_0x0, _lo_u86_0x0, _q_u86_1x0, _lo_u86_1x0, _dj_u86_0x0_u86_1x0, _cw_124⟩ := _q86
                  have _cw_124z := _cw_124.size
                  have E := E.trans _cw_124
                  obtain ⟨Au86_0x0, Cu86_0x0, eu86_0x0⟩ := _q_u86_0x0.val
                  subst eu86_0x0
                  have lu86_0x0 := _q_u86_0x0.len
                  have _hiu86_0x0 := _q_u86_0x0.lt
                  obtain ⟨Au86_1x0, Cu86_1x0, eu86_1x0⟩ := _q_u86_1x0.val
                  subst eu86_1x0
                  have lu86_1x0 := _q_u86_1x0.len
                  have _hiu86_1x0 := _q_u86_1x0.lt
                  refine WL_step rfl rfl (r_move rfl) ?_
                  refine WL_step rfl rfl (r_extract rfl rfl) ?_
                  refine WL_step rfl rfl (r_extract rfl rfl) ?_
                  refine WL_s rfl rfl ?_
                  refine s_alloc zr29 fun _b12 _w_125 _m12 _cw_125 _e12 => ?_
                  have _cw_125z := _cw_125.size
                  have E := E.trans _cw_125
                  have _z12 := _m12.lt
                  replace _m12 : Blk _w_125 _b12 29 [(.slice none 0 0)] := _m12
                  refine WL_s rfl rfl ?_
                  refine s_alloc zr29 fun _b13 _w_126 _m13 _cw_126 _e13 => ?_
                  have _cw_126z := _cw_126.size
                  have E := E.trans _cw_126
                  have _z13 := _m13.lt
                  replace _m13 : Blk _w_126 _b13 29 [(.slice none 0 0)] := _m13
                  refine WL_s rfl rfl ?_
                  have _f_127 := (_m12.ch0 _cw_126)
                  refine s_storeA (off := 0) 1 _f_127 sz29 rfl (us := [(.slice Au86_0x0 ((splE e).1).length Cu86_0x0)]) rfl rfl rfl rfl fun _w_128 _m_129 _cw_128 => ?_
                  have _cw_128z := _cw_128.size
                  have E := E.step _cw_128 (fun i hi => .inl (by have _h1 := List.mem_singleton.1 hi; omega))
                  replace _m_129 : Blk _w_128 _b12 29 [(.slice Au86_0x0 ((splE e).1).length Cu86_0x0)] := _m_129
                  refine WL_s rfl rfl ?_
                  have _f_130 := (_m13.ch _cw_128 (fun hm => by have _h1 := List.mem_singleton.1 hm; omega))
                  refine s_storeA (off := 0) 1 _f_130 sz29 rfl (us := [(.slice Au86_1x0 ((splE e).2).length Cu86_1x0)]) rfl rfl rfl rfl fun _w_131 _m_132 _cw_131 => ?_
                  have _cw_131z := _cw_131.size
                  have E := E.step _cw_131 (fun i hi => .inl (by have _h1 := List.mem_singleton.1 hi; omega))
                  replace _m_132 : Blk _w_131 _b13 29 [(.slice Au86_1x0 ((splE e).2).length Cu86_1x0)] := _m_132
                  refine WL_nil ?_
                  refine thn_nrm (_hK_120 _ _ ?_)
                  clear _hK_120
                  refine W_seq fun _K_133 _hK_133 => ?_
                  refine W_seq fun _K_134 _hK_134 => ?_
                  refine W_region ?_
                  have _f_135 := (_m_129.ch _cw_131 (fun hm => by have _h1 := List.mem_singleton.1 hm; omega))
                  refine WL_step rfl rfl (r_loadAtA0 _f_135.at_ agg29 sz29 rfl) ?_
                  have _f_136 := ((((((((((((_f_81.ch0 _cw_84).ch0 _cw_89).ch _cw_94 (fun hm => by have _h1 := _lo_u29_0x0 _ hm; have _h2 := _hiu29_0x0 _ hm; omega)).ch _cw_98 (fun hm => by have _h1 := _lo_u29_1x0 _ hm; have _h2 := _hiu29_1x0 _ hm; omega)).ch0 _cw_103).ch0 _cw_111).ch0 _cw_123).ch0 _cw_124).ch0 _cw_125).ch0 _cw_126).ch _cw_128 (fun hm => by have _h1 := List.mem_singleton.1 hm; omega)).ch _cw_131 (fun hm => by have _h1 := List.mem_singleton.1 hm; omega))
                  refine WL_step rfl rfl (r_loadAtA0 _f_136.at_ agg29 sz29 rfl) ?_
                  refine WL_s rfl rfl ?_
                  have _f_137 := ((((_q_u86_0x0.ch0 _cw_125).ch0 _cw_126).ch _cw_128 (fun g hg hm => by have _h0 := List.mem_singleton.1 hm; have _h2 := _lo_u86_0x0 _ hg; have _h3 := _hiu86_0x0 _ hg; omega)).ch _cw_131 (fun g hg hm => by have _h0 := List.mem_singleton.1 hm; have _h2 := _lo_u86_0x0 _ hg; have _h3 := _hiu86_0x0 _ hg; omega))
                  have _f_138 := ((((((((((((_f_83.ch0 _cw_84).ch0 _cw_89).ch _cw_94 (fun g hg hm => by have _h1 := _lo_u29_0x0 _ hm; have _h2 := _hiu29_0x0 _ hm; have _h3 := _lo_u22_0x0 _ hg; have _h4 := _hiu22_0x0 _ hg; omega)).ch _cw_98 (fun g hg hm => by have _h1 := _lo_u29_1x0 _ hm; have _h2 := _hiu29_1x0 _ hm; have _h3 := _lo_u22_0x0 _ hg; have _h4 := _hiu22_0x0 _ hg; omega)).ch0 _cw_103).ch0 _cw_111).ch0 _cw_123).ch0 _cw_124).ch0 _cw_125).ch0 _cw_126).ch _cw_128 (fun g hg hm => by have _h0 := List.mem_singleton.1 hm; have _h2 := _lo_u22_0x0 _ hg; have _h3 := _hiu22_0x0 _ hg; omega)).ch _cw_131 (fun g hg hm => by have _h0 := List.mem_singleton.1 hm; have _h2 := _lo_u22_0x0 _ hg; have _h3 := _hiu22_0x0 _ hg; omega))
                  refine Step.call (r_call (xs := [.tmp 89, .tmp 90]) fk18 rfl) (c_laws_eqExpr _f_137.ls _f_138.ls ) fun _v91 _w_139 _q91 => ?_
                  obtain ⟨rfl, _cw_139⟩ := _q91
                  have _cw_139z := _cw_139.size
                  have E := E.trans _cw_139
                  refine WL_step rfl rfl (r_not rfl) ?_
                  refine WL_step rfl rfl (r_move rfl) ?_
                  refine WL_splitF (d := 93) rfl _kb_49 ?_
                  have _f_140 := (_m_132.ch0 _cw_139)
                  refine WL_step rfl rfl (r_loadAtA0 _f_140.at_ agg29 sz29 rfl) ?_
                  have _f_141 := ((((((((((((_f_86.ch0 _cw_89).ch _cw_94 (fun hm => by have _h1 := _lo_u29_0x0 _ hm; have _h2 := _hiu29_0x0 _ hm; omega)).ch _cw_98 (fun hm => by have _h1 := _lo_u29_1x0 _ hm; have _h2 := _hiu29_1x0 _ hm; omega)).ch0 _cw_103).ch0 _cw_111).ch0 _cw_123).ch0 _cw_124).ch0 _cw_125).ch0 _cw_126).ch _cw_128 (fun hm => by have _h1 := List.mem_singleton.1 hm; omega)).ch _cw_131 (fun hm => by have _h1 := List.mem_singleton.1 hm; omega)).ch0 _cw_139)
                  refine WL_step rfl rfl (r_loadAtA0 _f_141.at_ agg29 sz29 rfl) ?_
                  refine WL_s rfl rfl ?_
                  have _f_142 := (((((_q_u86_1x0.ch0 _cw_125).ch0 _cw_126).ch _cw_128 (fun g hg hm => by have _h0 := List.mem_singleton.1 hm; have _h2 := _lo_u86_1x0 _ hg; have _h3 := _hiu86_1x0 _ hg; omega)).ch _cw_131 (fun g hg hm => by have _h0 := List.mem_singleton.1 hm; have _h2 := _lo_u86_1x0 _ hg; have _h3 := _hiu86_1x0 _ hg; omega)).ch0 _cw_139)
                  have _f_143 := ((((((((((((_f_88.ch0 _cw_89).ch _cw_94 (fun g hg hm => by have _h1 := _lo_u29_0x0 _ hm; have _h2 := _hiu29_0x0 _ hm; have _h3 := _lo_u22_1x0 _ hg; have _h4 := _hiu22_1x0 _ hg; omega)).ch _cw_98 (fun g hg hm => by have _h1 := _lo_u29_1x0 _ hm; have _h2 := _hiu29_1x0 _ hm; have _h3 := _lo_u22_1x0 _ hg; have _h4 := _hiu22_1x0 _ hg; omega)).ch0 _cw_103).ch0 _cw_111).ch0 _cw_123).ch0 _cw_124).ch0 _cw_125).ch0 _cw_126).ch _cw_128 (fun g hg hm => by have _h0 := List.mem_singleton.1 hm; have _h2 := _lo_u22_1x0 _ hg; have _h3 := _hiu22_1x0 _ hg; omega)).ch _cw_131 (fun g hg hm => by have _h0 := List.mem_singleton.1 hm; have _h2 := _lo_u22_1x0 _ hg; have _h3 := _hiu22_1x0 _ hg; omega)).ch0 _cw_139)
                  refine Step.call (r_call (xs := [.tmp 94, .tmp 95]) fk18 rfl) (c_laws_eqExpr _f_142.ls _f_143.ls ) fun _v96 _w_144 _q96 => ?_
                  obtain ⟨rfl, _cw_144⟩ := _q96
                  have _cw_144z := _cw_144.size
                  have E := E.trans _cw_144
                  refine WL_step rfl rfl (r_not rfl) ?_
                  refine WL_step rfl rfl (r_pickF rfl rfl) ?_
                  refine WL_nil ?_
                  refine thn_nrm (_hK_134 _ _ ?_)
                  clear _hK_134
                  refine W_condFk rfl _kb_56 ?_
                  refine W_skip ?_
                  refine thn_nrm (_hK_133 _ _ ?_)
                  clear _hK_133
                  refine W_seq fun _K_145 _hK_145 => ?_
                  refine W_region ?_
                  refine WL_step rfl rfl (r_assign rfl) ?_
                  refine WL_nil ?_
                  refine thn_nrm (_hK_145 _ _ ?_)
                  clear _hK_145
                  refine W_seq fun _K_146 _hK_146 => ?_
                  refine W_region ?_
                  have _f_147 := ((((((((((_f_101.ch0 _cw_103).ch0 _cw_111).ch0 _cw_123).ch0 _cw_124).ch0 _cw_125).ch0 _cw_126).ch _cw_128 (fun hm => by have _h1 := List.mem_singleton.1 hm; omega)).ch _cw_131 (fun hm => by have _h1 := List.mem_singleton.1 hm; omega)).ch0 _cw_139).ch0 _cw_144)
                  refine WL_step rfl rfl (r_loadAtA0 _f_147.at_ agg29 sz29 rfl) ?_
                  refine WL_step rfl rfl (r_move rfl) ?_
                  refine WL_s rfl rfl ?_
                  have _f_148 := ((((((((((_f_102.ch0 _cw_103).ch0 _cw_111).ch0 _cw_123).ch0 _cw_124).ch0 _cw_125).ch0 _cw_126).ch _cw_128 (fun g hg hm => by have _h0 := List.mem_singleton.1 hm; have _h2 := _lo_u29_0x0 _ hg; have _h3 := _hiu29_0x0 _ hg; omega)).ch _cw_131 (fun g hg hm => by have _h0 := List.mem_singleton.1 hm; have _h2 := _lo_u29_0x0 _ hg; have _h3 := _hiu29_0x0 _ hg; omega)).ch0 _cw_139).ch0 _cw_144)
                  refine Step.call (r_call (xs := [.tmp 99, .tmp 100]) fk26 rfl) (c_laws_heldExpr _f_148.ls _ (by omega) (by first | omega | (simp <;> omega))) fun _v101 _w_149 _q101 => ?_
                  obtain ⟨rfl, _cw_149⟩ := _q101
                  have _cw_149z := _cw_149.size
                  have E := E.trans _cw_149
                  refine WL_step rfl rfl (r_assign rfl) ?_
                  refine WL_nil ?_
                  refine thn_nrm (_hK_146 _ _ ?_)
                  clear _hK_146
                  refine W_seq fun _K_150 _hK_150 => ?_
                  refine W_seq fun _K_151 _hK_151 => ?_
                  refine W_region ?_
                  refine WL_step rfl rfl (r_move rfl) ?_
                  refine WL_step rfl rfl (r_lss rfl rfl) ?_
                  refine WL_nil ?_
                  refine thn_nrm (_hK_151 _ _ ?_)
                  clear _hK_151
                  refine W_condFk rfl _kb_106 ?_
                  refine W_skip ?_
                  refine thn_nrm (_hK_150 _ _ ?_)
                  clear _hK_150
                  refine W_seq fun _K_152 _hK_152 => ?_
                  refine W_region ?_
                  have _f_153 := ((((((((((_f_109.ch0 _cw_111).ch0 _cw_123).ch0 _cw_124).ch0 _cw_125).ch0 _cw_126).ch _cw_128 (fun hm => by have _h1 := List.mem_singleton.1 hm; omega)).ch _cw_131 (fun hm => by have _h1 := List.mem_singleton.1 hm; omega)).ch0 _cw_139).ch0 _cw_144).ch0 _cw_149)
                  refine WL_step rfl rfl (r_loadAtA0 _f_153.at_ agg29 sz29 rfl) ?_
                  refine WL_step rfl rfl (r_move rfl) ?_
                  refine WL_s rfl rfl ?_
                  have _f_154 := ((((((((((_f_110.ch0 _cw_111).ch0 _cw_123).ch0 _cw_124).ch0 _cw_125).ch0 _cw_126).ch _cw_128 (fun g hg hm => by have _h0 := List.mem_singleton.1 hm; have _h2 := _lo_u29_1x0 _ hg; have _h3 := _hiu29_1x0 _ hg; omega)).ch _cw_131 (fun g hg hm => by have _h0 := List.mem_singleton.1 hm; have _h2 := _lo_u29_1x0 _ hg; have _h3 := _hiu29_1x0 _ hg; omega)).ch0 _cw_139).ch0 _cw_144).ch0 _cw_149)
                  refine Step.call (r_call (xs := [.tmp 104, .tmp 105]) fk26 rfl) (c_laws_heldExpr _f_154.ls _ (by omega) (by first | omega | (simp <;> omega))) fun _v106 _w_155 _q106 => ?_
                  obtain ⟨rfl, _cw_155⟩ := _q106
                  have _cw_155z := _cw_155.size
                  have E := E.trans _cw_155
                  refine WL_step rfl rfl (r_assign rfl) ?_
                  refine WL_nil ?_
                  refine thn_nrm (_hK_152 _ _ ?_)
                  clear _hK_152
                  refine W_seq fun _K_156 _hK_156 => ?_
                  refine W_seq fun _K_157 _hK_157 => ?_
                  refine W_region ?_
                  refine WL_step rfl rfl (r_move rfl) ?_
                  refine WL_step rfl rfl (r_lss rfl rfl) ?_
                  refine WL_nil ?_
                  refine thn_nrm (_hK_157 _ _ ?_)
                  clear _hK_157
                  refine W_condFk rfl _kb_114 ?_
                  refine W_skip ?_
                  refine thn_nrm (_hK_156 _ _ ?_)
                  clear _hK_156
                  refine W_seq fun _K_158 _hK_158 => ?_
                  refine W_seq fun _K_159 _hK_159 => ?_
                  refine W_region ?_
                  refine WL_step rfl rfl (r_move rfl) ?_
                  refine WL_step rfl rfl (r_move rfl) ?_
                  refine WL_step rfl rfl (r_neq rfl rfl) ?_
                  refine WL_nil ?_
                  refine thn_nrm (_hK_159 _ _ ?_)
                  clear _hK_159
                  refine W_condFk rfl _kb_118 ?_
                  refine W_skip ?_
                  refine thn_nrm (_hK_158 _ _ ?_)
                  clear _hK_158
                  refine W_seq fun _K_160 _hK_160 => ?_
                  refine W_region ?_
                  refine WL_step rfl rfl (r_assign rfl) ?_
                  refine WL_nil ?_
                  refine thn_nrm (_hK_160 _ _ ?_)
                  clear _hK_160
                  refine W_ret ?_
                  exact ret_intro [_] ⟨rfl, trivial⟩ ⟨congrArg Value.bool (by first | rfl | (exfalso; omega) | (exfalso; revert _h82; simp; done) | (exfalso; revert _h82; simp; omega)), E⟩

end Go.Proofs.Ytjjmjmbihonicaa
