/- Walks of functions that FnExactMergePairs reaches: what each returns, and that it leaves the memory that was there alone. -/
import Derived.Test.YtnboedkdnnlgnaaKF
import Derived.Test.YtnboedkdnnlgnaaKG
import Derived.Test.YtnboedkdnnlgnaaKH
import Derived.Test.YtnboedkdnnlgnaaKI
import Derived.Test.YtnboedkdnnlgnaaKJ
import Derived.Test.YtnboedkdnnlgnaaKM
import Derived.Test.YtnboedkdnnlgnaaKN
import Derived.Test.YtnboedkdnnlgnaaKO
import Derived.Test.YtnboedkdnnlgnaaKP
import Derived.Test.YtnboedkdnnlgnaaKQ
import Derived.Test.YtnboedkdnnlgnaaKR
import Derived.Test.YtnboedkdnnlgnaaKS
import Derived.Test.YtnboedkdnnlgnaaKT
import Derived.Test.YtnboedkdnnlgnaaKU
import Derived.Test.YtnboedkdnnlgnaaKV
import Derived.Test.YtnboedkdnnlgnaaKX
import Derived.Test.YtnboedkdnnlgnaaKY
import Derived.Test.YtnboedkdnnlgnaaKZ
import Derived.Test.YtnboedkdnnlgnaaJA
import Derived.Test.YtnboedkdnnlgnaaJB
import Derived.Test.YtnboedkdnnlgnaaJC
import Derived.Test.YtnboedkdnnlgnaaJD
import Derived.Test.YtnboedkdnnlgnaaJE
import Derived.Test.YtnboedkdnnlgnaaJF
import Derived.Test.YtnboedkdnnlgnaaJG
import Derived.Test.YtnboedkdnnlgnaaJH
import Derived.Test.YtnboedkdnnlgnaaJI
import Derived.Test.YtnboedkdnnlgnaaJK
import Derived.Test.YtnboedkdnnlgnaaJM
import Derived.Test.YtnboedkdnnlgnaaJN
import Derived.Test.YtnboedkdnnlgnaaJO
import Derived.Test.YtnboedkdnnlgnaaJP
import Derived.Test.YtnboedkdnnlgnaaJQ
import Derived.Test.YtnboedkdnnlgnaaJR
import Derived.Test.YtnboedkdnnlgnaaJS
import Derived.Test.YtnboedkdnnlgnaaJT
import Derived.Test.YtnboedkdnnlgnaaJU
import Derived.Test.YtnboedkdnnlgnaaProg
namespace Go.Proofs.Ytnboedkdnnlgnaa
open Go.KLib Go.Shelf
set_option maxRecDepth 20000
set_option linter.unusedVariables false
set_option linter.unusedSimpArgs false
namespace TExactMergePairs
theorem agg106 : aggB Try.prog 106 = some true := by kernel_rfl
theorem agg108 : aggB Try.prog 108 = some true := by kernel_rfl
theorem agg3 : aggB Try.prog 3 = some false := by kernel_rfl
theorem by106 : bytesB Try.prog 106 = some 16 := by kernel_rfl
theorem el35 : elB Try.prog 35 = some 108 := by kernel_rfl
theorem el37 : elB Try.prog 37 = some 106 := by kernel_rfl
theorem fa106_0 : faB Try.prog 106 0 = some 0 := by kernel_rfl
theorem fa106_1 : faB Try.prog 106 1 = some 1 := by kernel_rfl
theorem fa108_0 : faB Try.prog 108 0 = some 0 := by kernel_rfl
theorem fa108_1 : faB Try.prog 108 1 = some 1 := by kernel_rfl
theorem fk120 : fnB Try.prog 120 = true := by kernel_rfl
theorem fk121 : fnB Try.prog 121 = true := by kernel_rfl
theorem fk123 : fnB Try.prog 123 = true := by kernel_rfl
theorem fk16 : fnB Try.prog 16 = true := by kernel_rfl
theorem fk17 : fnB Try.prog 17 = true := by kernel_rfl
theorem fk18 : fnB Try.prog 18 = true := by kernel_rfl
theorem fk19 : fnB Try.prog 19 = true := by kernel_rfl
theorem fk20 : fnB Try.prog 20 = true := by kernel_rfl
theorem fk21 : fnB Try.prog 21 = true := by kernel_rfl
theorem fk22 : fnB Try.prog 22 = true := by kernel_rfl
theorem fk64 : fnB Try.prog 64 = true := by kernel_rfl
theorem fk65 : fnB Try.prog 65 = true := by kernel_rfl
theorem fk66 : fnB Try.prog 66 = true := by kernel_rfl
theorem fk67 : fnB Try.prog 67 = true := by kernel_rfl
theorem ist106 : intStructB Try.prog 106 2 = true := by kernel_rfl
theorem mixed : Try.prog.follows .mixedOrders = true := by kernel_rfl
theorem sz106 : sizeB Try.prog 106 = some 2 := by kernel_rfl
theorem sz108 : sizeB Try.prog 108 = some 2 := by kernel_rfl
theorem sz3 : sizeB Try.prog 3 = some 1 := by kernel_rfl
theorem zr106 : zeroB Try.prog 106 = some (.agg #[.int .i64 0, .int .i64 0]) := by kernel_rfl
end TExactMergePairs
open TExactMergePairs

/-- slices.Compact[[]impl.Pair,impl.Pair] -/
theorem c_slices_Compact_impl_Pair_impl_Pair {w : World} {e_s : Nat} {_v_s : Value} {s : List Pair} (_h_s : Ol Pair.cs e_s 2 w _v_s s) (hb : s.length ≤ 4194304) :
    Ctr Try.prog 123 #[_v_s] w (fun v w' => Ol Pair.cs e_s 2 w' v (cpt s) ∧ bl v = bl _v_s ∧ Ch (bl _v_s) w w') := by
  obtain ⟨_A_s, _C_s, _e1_s⟩ := _h_s.val
  subst _e1_s
  have _l_s := _h_s.len
  have _lt_s := _h_s.lt
  have E := Ch.refl (bl (.slice _A_s s.length _C_s)) w
  refine Ctr_of_W (N := 61) (vs0 := [(.slice _A_s s.length _C_s)]) Try.func123 rfl rfl rfl ?_
  refine W_seq fun _K_1 _hK_1 => ?_
  refine W_region ?_
  refine WL_step rfl rfl (r_assign rfl) ?_
  refine WL_nil ?_
  refine thn_nrm (_hK_1 _ _ ?_)
  clear _hK_1
  refine W_seq fun _K_2 _hK_2 => ?_
  refine W_seq fun _K_3 _hK_3 => ?_
  refine W_region ?_
  refine WL_step rfl rfl (r_move rfl) ?_
  refine WL_step rfl rfl (r_len (by rw [el37]; rfl) rfl) ?_
  refine WL_step rfl rfl (r_lss rfl rfl) ?_
  refine WL_nil ?_
  refine thn_nrm (_hK_3 _ _ ?_)
  clear _hK_3
  refine W_cond rfl (fun _h8 => ?_) (fun _h8 => ?_)
  · have _kb_4 := _h8
    have _h8 := bt_d _h8
    refine W_seq fun _K_5 _hK_5 => ?_
    refine W_region ?_
    refine WL_step rfl rfl (r_move rfl) ?_
    refine WL_step rfl rfl (r_assign rfl) ?_
    refine WL_nil ?_
    refine thn_nrm (_hK_5 _ _ ?_)
    clear _hK_5
    refine W_ret (thn_ret ?_)
    clear _hK_2
    have _o_6 : Ol Pair.cs e_s 2 w (.slice _A_s s.length _C_s) (cpt s) := by
      have hx := _h_s
      first | (rw [cp_zero (by omega)]; exact hx) | (rw [cp_all hc (by omega)]; exact hx) | (exact hx.eq (cpi_end hI (by have _z9 := hI.len; omega)))
    exact ret_intro [_] ⟨rfl, trivial⟩ ⟨_o_6, rfl, E⟩
  · have _kb_4 := _h8
    have _h8 := bf_d _h8
    refine W_skip ?_
    refine thn_nrm (_hK_2 _ _ ?_)
    clear _hK_2
    refine W_seq fun _K_7 _hK_7 => ?_
    refine W_seq fun _K_8 _hK_8 => ?_
    refine W_region ?_
    refine WL_step rfl rfl (r_assign rfl) ?_
    refine WL_nil ?_
    refine thn_nrm (_hK_8 _ _ ?_)
    clear _hK_8
    refine W_block ?_
    have _oi_9 : Ol Pair.cs e_s 2 w (.slice _A_s s.length _C_s) (s) := by
      have hx := _h_s
      exact hx
    refine W_loop (σ := Nat) (fun (k : Nat) => [(0, (.slice _A_s s.length _C_s)), (3, (.int .i64 ((k : Nat) : Int)))]) (fun (k : Nat) wx => Ch (bl (.slice _A_s s.length _C_s)) w wx ∧ w.heap.size ≤ wx.heap.size ∧ (1 ≤ k ∧ k ≤ s.length) ∧ (cptN s k = s.take k) ∧ Ol Pair.cs e_s 2 wx (.slice _A_s s.length _C_s) s) (fun (k : Nat) => s.length - k) 1 (Sub.cons rfl (Sub.cons rfl (Sub.nil _))) ⟨E, (Nat.le_refl _), (by omega), cp_one, _oi_9⟩ ?_
    rintro k _wr_10 ⟨E, _zz0, _hk, hc, _o0_0⟩
    have _E0h := E
    have _E0hz := _E0h.size
    refine W_seq fun _K_11 _hK_11 => ?_
    refine W_seq fun _K_12 _hK_12 => ?_
    refine W_region ?_
    refine WL_step rfl rfl (r_move rfl) ?_
    refine WL_step rfl rfl (r_move rfl) ?_
    refine WL_step rfl rfl (r_len (by rw [el37]; rfl) rfl) ?_
    refine WL_step rfl rfl (r_lss rfl rfl) ?_
    refine WL_nil ?_
    refine thn_nrm (_hK_12 _ _ ?_)
    clear _hK_12
    refine W_cond rfl (fun _h13 => ?_) (fun _h13 => ?_)
    · have _kb_13 := _h13
      have _h13 := bt_d _h13
      refine W_skip ?_
      refine thn_nrm (_hK_11 _ _ ?_)
      clear _hK_11
      refine W_seq fun _K_14 _hK_14 => ?_
      refine W_block ?_
      refine W_seq fun _K_15 _hK_15 => ?_
      refine W_drawC [] 10 mixed rfl fun _w_16 _cw_16 => ?_
      have _cw_16z := _cw_16.size
      have E := E.trans _cw_16.of_nil
      refine DR_s 0 rfl (by kernel_rfl) rfl rfl (t_v (fun _ => (r_move rfl)) ?_)
      refine DR_s 1 rfl (by kernel_rfl) rfl rfl (t_v (fun _ => (r_move rfl)) ?_)
      have _f_17 := (_o0_0.ch0 _cw_16)
      refine DR_s 2 rfl (by kernel_rfl) rfl rfl (t_index _f_17.ls Pair.len el37 sz106 rfl rfl rfl (by omega) fun _p18 _y18 _hy18 _a18 => ?_)
      refine DR_s 3 rfl (by kernel_rfl) rfl rfl (t_loadAtA0 _a18 (fun i hi => absurd hi List.not_mem_nil) agg106 sz106 rfl ?_)
      refine DR_s 4 rfl (by kernel_rfl) rfl rfl (t_v (fun _ => (r_move rfl)) ?_)
      refine DR_s 5 rfl (by kernel_rfl) rfl rfl (t_v (fun _ => (r_move rfl)) ?_)
      refine DR_s 6 rfl (by kernel_rfl) rfl rfl (t_v (fun _ => (r_sub (by omega) rfl rfl)) ?_)
      refine DR_s 7 rfl (by kernel_rfl) rfl rfl (t_index (j := (((k : Nat) : Int) - 1).toNat) _f_17.ls Pair.len el37 sz106 rfl rfl (by omega) (by omega) fun _p23 _y23 _hy23 _a23 => ?_)
      refine DR_s 8 rfl (by kernel_rfl) rfl rfl (t_loadAtA0 _a23 (fun i hi => absurd hi List.not_mem_nil) agg106 sz106 rfl ?_)
      refine DR_s 9 rfl (by kernel_rfl) rfl rfl (t_v (fun _ => (r_eqlI [_y18.f, _y18.t] [_y23.f, _y23.t] ist106 rfl rfl rfl)) ?_)
      refine DR_done (by kernel_rfl) ?_
      refine thn_nrm (_hK_15 _ _ ?_)
      clear _hK_15
      refine W_cond rfl (fun _h25 => ?_) (fun _h25 => ?_)
      · have _kb_18 := _h25
        have _h25 := bt_d _h25
        refine W_seq fun _K_19 _hK_19 => ?_
        refine W_region ?_
        refine WL_step rfl rfl (r_move rfl) ?_
        refine WL_step rfl rfl (r_move rfl) ?_
        refine WL_s rfl rfl ?_
        refine (s_cutOV (ys := (s.drop k)) k s.length _f_17 Pair.len el37 sz106 rfl ⟨_, _, rfl, by omega⟩ rfl (by first | omega | (have _z9 := hI.len; have _z8 := hI.q1; have _z7 := hI.mq; simp <;> omega)) (by first | omega | (have _z9 := hI.len; have _z8 := hI.q1; have _z7 := hI.mq; simp <;> omega)) (cut_all _ _) fun _v28 vw28 _q28 _bb28 _ln28 => ?_)
        obtain ⟨_A28, _C28, _e28⟩ := _q28.val
        subst _e28
        have _l28 := _q28.len
        have hi28 := _q28.lt
        refine WL_step rfl rfl (r_assign rfl) ?_
        refine WL_nil ?_
        refine thn_nrm (_hK_19 _ _ ?_)
        clear _hK_19
        refine W_seq fun _K_20 _hK_20 => ?_
        refine W_seq fun _K_21 _hK_21 => ?_
        refine W_region ?_
        refine WL_step rfl rfl (r_assign rfl) ?_
        refine WL_nil ?_
        refine thn_nrm (_hK_21 _ _ ?_)
        clear _hK_21
        refine W_block ?_
        have _oi_22 : Ol Pair.cs e_s 2 _w_16 (.slice _A_s s.length _C_s) (s) := by
          have hx := _f_17
          exact hx
        refine W_loop (σ := Nat × Nat × List Pair) (fun ⟨j, m, L⟩ => [(0, (.slice _A_s s.length _C_s)), (3, (.int .i64 ((m : Nat) : Int))), (4, (.slice _A28 ((s.drop k)).length _C28)), (5, (.int .i64 ((j : Nat) : Int))), (13, (.bool (decide (((k : Nat) : Int) < ((s.length : Nat) : Int))))), (25, (.bool (decide ([_y18.f, _y18.t] = [_y23.f, _y23.t]))))]) (fun ⟨j, m, L⟩ wx => Ch (bl (.slice _A_s s.length _C_s)) w wx ∧ _w_16.heap.size ≤ wx.heap.size ∧ (1 ≤ j) ∧ (CpI s L m (k + j)) ∧ Ol Pair.cs e_s 2 wx (.slice _A_s s.length _C_s) L) (fun ⟨j, m, L⟩ => s.length - j) (1, k, s) (Sub.cons rfl (Sub.cons rfl (Sub.cons rfl (Sub.cons rfl (Sub.cons rfl (Sub.cons rfl (Sub.nil _))))))) ⟨E, (Nat.le_refl _), (by omega), (cpi_0 hc _hk.1 _hy18 (by have _g9 := _hy23; rwa [show (((k : Nat) : Int) - 1).toNat = k - 1 by omega] at _g9) (Pair.inj _h25)), _oi_22⟩ ?_
        rintro ⟨j, m, L⟩ _wr_23 ⟨E, _zz1, hj, hI, _o1_0⟩
        have _E1h := E
        have _E1hz := _E1h.size
        have il9 := hI.len
        have iq9 := hI.q1
        have im9 := hI.mq
        have i19 := hI.m1
        refine W_seq fun _K_24 _hK_24 => ?_
        refine W_seq fun _K_25 _hK_25 => ?_
        refine W_region ?_
        refine WL_step rfl rfl (r_move rfl) ?_
        have _f_26 := Ol.view _o1_0 vw28 Pair.len (by omega) (by omega)
        have lf_26 : ((L.drop k).take (s.length - k)).length = s.length - k := by rw [List.length_take, List.length_drop]; omega
        refine WL_step rfl rfl (r_move rfl) ?_
        refine WL_step rfl rfl (r_len (by rw [el37]; rfl) rfl) ?_
        refine WL_step rfl rfl (r_lss rfl rfl) ?_
        refine WL_nil ?_
        refine thn_nrm (_hK_25 _ _ ?_)
        clear _hK_25
        refine W_cond rfl (fun _h32 => ?_) (fun _h32 => ?_)
        · have _kb_27 := _h32
          have _h32 := bt_d _h32
          refine W_skip ?_
          refine thn_nrm (_hK_24 _ _ ?_)
          clear _hK_24
          refine W_seq fun _K_28 _hK_28 => ?_
          refine W_block ?_
          refine W_seq fun _K_29 _hK_29 => ?_
          refine W_drawC [] 10 mixed rfl fun _w_30 _cw_30 => ?_
          have _cw_30z := _cw_30.size
          have E := E.trans _cw_30.of_nil
          refine DR_s 0 rfl (by kernel_rfl) rfl rfl (t_v (fun _ => (r_move rfl)) ?_)
          refine DR_s 1 rfl (by kernel_rfl) rfl rfl (t_v (fun _ => (r_move rfl)) ?_)
          have _f_31 := (_f_26.ch0 _cw_30)
          refine DR_s 2 rfl (by kernel_rfl) rfl rfl (t_index _f_31.ls Pair.len el37 sz106 rfl rfl rfl (by omega) fun _p37 _y37 _hy37 _a37 => ?_)
          refine DR_s 3 rfl (by kernel_rfl) rfl rfl (t_loadAtA0 _a37 (fun i hi => absurd hi List.not_mem_nil) agg106 sz106 rfl ?_)
          refine DR_s 4 rfl (by kernel_rfl) rfl rfl (t_v (fun _ => (r_move rfl)) ?_)
          refine DR_s 5 rfl (by kernel_rfl) rfl rfl (t_v (fun _ => (r_move rfl)) ?_)
          refine DR_s 6 rfl (by kernel_rfl) rfl rfl (t_v (fun _ => (r_sub (by omega) rfl rfl)) ?_)
          refine DR_s 7 rfl (by kernel_rfl) rfl rfl (t_index (j := (((j : Nat) : Int) - 1).toNat) _f_31.ls Pair.len el37 sz106 rfl rfl (by omega) (by omega) fun _p42 _y42 _hy42 _a42 => ?_)
          refine DR_s 8 rfl (by kernel_rfl) rfl rfl (t_loadAtA0 _a42 (fun i hi => absurd hi List.not_mem_nil) agg106 sz106 rfl ?_)
          refine DR_s 9 rfl (by kernel_rfl) rfl rfl (t_v (fun _ => (r_neqI [_y37.f, _y37.t] [_y42.f, _y42.t] ist106 rfl rfl rfl)) ?_)
          refine DR_done (by kernel_rfl) ?_
          refine thn_nrm (_hK_29 _ _ ?_)
          clear _hK_29
          refine W_cond rfl (fun _h44 => ?_) (fun _h44 => ?_)
          · have _kb_32 := _h44
            have _h44 := bf_d (bt_n _h44)
            refine W_seq fun _K_33 _hK_33 => ?_
            refine W_region ?_
            refine WL_step rfl rfl (r_move rfl) ?_
            refine WL_step rfl rfl (r_move rfl) ?_
            refine WL_step rfl rfl (r_move rfl) ?_
            refine WL_step rfl rfl (r_move rfl) ?_
            refine WL_s rfl rfl ?_
            refine (s_index _f_31.ls Pair.len el37 sz106 rfl rfl rfl (by omega) fun _p49 _y49 _hy49 _a49 => ?_)
            refine WL_step rfl rfl (r_loadAtA0 _a49 agg106 sz106 rfl) ?_
            refine WL_s rfl rfl ?_
            have _f_34 := (_o1_0.ch0 _cw_30)
            refine s_indexO (j := m) _f_34 el37 sz106 rfl rfl rfl (by have _z9 := hI.len; have _z8 := hI.q1; have _z7 := hI.mq; omega) fun _g51 _o51 _cp51 _q51 => ?_
            refine WL_s rfl rfl ?_
            refine s_storeO (j := m) _y49 _f_34 _q51 Pair.len sz106 rfl rfl rfl rfl (by have _z9 := hI.len; have _z8 := hI.q1; have _z7 := hI.mq; omega) fun _w_35 _o_36 _cw_35 => ?_
            have _cw_35z := _cw_35.size
            have E := E.trans _cw_35
            refine WL_nil ?_
            refine thn_nrm (_hK_33 _ _ ?_)
            clear _hK_33
            refine W_region ?_
            refine WL_step rfl rfl (r_move rfl) ?_
            refine WL_step rfl rfl (r_add (by omega) rfl rfl) ?_
            refine WL_step rfl rfl (r_assign rfl) ?_
            refine WL_nil ?_
            refine inB_nrm ?_
            refine thn_nrm (_hK_28 _ _ ?_)
            clear _hK_28
            refine W_region ?_
            refine WL_step rfl rfl (r_move rfl) ?_
            refine WL_step rfl rfl (r_add (by omega) rfl rfl) ?_
            refine WL_step rfl rfl (r_assign rfl) ?_
            refine WL_nil ?_
            have _on_37 : Ol Pair.cs e_s 2 _w_35 (.slice _A_s s.length _C_s) ((L.set m _y49)) := by
              have hx := _o_36
              exact hx
            exact thn_nrm (Exists.intro ((j + 1), (m + 1), (L.set m _y49)) ⟨⟨E, (by omega), (by omega), (by have _g37 := cpi_get hI _hy37 (by omega); have _g42 := cpi_get hI _hy42 (by omega); first | exact cpi_y hI _g37 (by have _g9 := _g42; rwa [show k + (((j : Nat) : Int) - 1).toNat = k + j - 1 by omega] at _g9) (Pair.inj _h44) | (have _u9 := get_uniq _hy37 _hy49; subst _u9; exact cpi_n hI _g37 (by have _g9 := _g42; rwa [show k + (((j : Nat) : Int) - 1).toNat = k + j - 1 by omega] at _g9) (fun e => _h44 (by rw [e])))), _on_37⟩, Sub.cons rfl (Sub.cons rfl (Sub.cons rfl (Sub.cons rfl (Sub.cons rfl (Sub.cons rfl (Sub.nil _)))))), (by first | omega | (dsimp only; omega))⟩)
          · have _kb_32 := _h44
            have _h44 := bt_d (bf_n _h44)
            refine W_skip ?_
            refine inB_nrm ?_
            refine thn_nrm (_hK_28 _ _ ?_)
            clear _hK_28
            refine W_region ?_
            refine WL_step rfl rfl (r_move rfl) ?_
            refine WL_step rfl rfl (r_add (by omega) rfl rfl) ?_
            refine WL_step rfl rfl (r_assign rfl) ?_
            refine WL_nil ?_
            have _f_39 := (_o1_0.ch0 _cw_30)
            have _on_38 : Ol Pair.cs e_s 2 _w_30 (.slice _A_s s.length _C_s) (L) := by
              have hx := _f_39
              exact hx
            exact thn_nrm (Exists.intro ((j + 1), m, L) ⟨⟨E, (by omega), (by omega), (by have _g37 := cpi_get hI _hy37 (by omega); have _g42 := cpi_get hI _hy42 (by omega); first | exact cpi_y hI _g37 (by have _g9 := _g42; rwa [show k + (((j : Nat) : Int) - 1).toNat = k + j - 1 by omega] at _g9) (Pair.inj _h44) | (have _u9 := get_uniq _hy37 _hy49; subst _u9; exact cpi_n hI _g37 (by have _g9 := _g42; rwa [show k + (((j : Nat) : Int) - 1).toNat = k + j - 1 by omega] at _g9) (fun e => _h44 (by rw [e])))), _on_38⟩, Sub.cons rfl (Sub.cons rfl (Sub.cons rfl (Sub.cons rfl (Sub.cons rfl (Sub.cons rfl (Sub.nil _)))))), (by first | omega | (dsimp only; omega))⟩)
        · have _kb_27 := _h32
          have _h32 := bf_d _h32
          refine W_exit (thn_exit (thn_exit (inB_hit ?_)))
          refine thn_nrm (_hK_20 _ _ ?_)
          clear _hK_20
          refine W_seq fun _K_40 _hK_40 => ?_
          refine W_region ?_
          refine WL_step rfl rfl (r_move rfl) ?_
          refine WL_step rfl rfl (r_move rfl) ?_
          refine WL_s rfl rfl ?_
          refine (s_cutOV (ys := (L.drop m)) m L.length _o1_0 Pair.len el37 sz106 rfl ⟨_, _, rfl, by omega⟩ rfl (by first | omega | (have _z9 := hI.len; have _z8 := hI.q1; have _z7 := hI.mq; simp <;> omega)) (by first | omega | (have _z9 := hI.len; have _z8 := hI.q1; have _z7 := hI.mq; simp <;> omega)) (cut_all _ _) fun _v56 vw56 _q56 _bb56 _ln56 => ?_)
          obtain ⟨_A56, _C56, _e56⟩ := _q56.val
          subst _e56
          have _l56 := _q56.len
          have hi56 := _q56.lt
          refine WL_s rfl rfl ?_
          refine s_clear (lo := m) (zro := (⟨0, 0⟩ : Pair)) _o1_0 vw56 Pair.len el37 sz106 zr106 rfl (Pair.one _) rfl (by first | omega | (have _z9 := hI.len; have _z8 := hI.q1; have _z7 := hI.mq; simp <;> omega)) fun _w_41 _o_42 _cw_41 => ?_
          have _cw_41z := _cw_41.size
          have E := E.trans _cw_41
          refine WL_nil ?_
          refine thn_nrm (_hK_40 _ _ ?_)
          clear _hK_40
          refine W_seq fun _K_43 _hK_43 => ?_
          refine W_region ?_
          refine WL_step rfl rfl (r_move rfl) ?_
          refine WL_step rfl rfl (r_move rfl) ?_
          refine WL_s rfl rfl ?_
          refine (s_cutO (ys := ((L.take m ++ List.replicate (L.length - m) (⟨0, 0⟩ : Pair)).take m)) 0 m _o_42 Pair.len el37 sz106 rfl rfl ⟨_, _, rfl, by omega⟩ (by first | omega | (have _z9 := hI.len; have _z8 := hI.q1; have _z7 := hI.mq; simp <;> omega)) (by first | omega | (have _z9 := hI.len; have _z8 := hI.q1; have _z7 := hI.mq; simp <;> omega)) rfl fun _v59 _q59 _bb59 _ln59 => ?_)
          obtain ⟨_A59, _C59, _e59⟩ := _q59.val
          subst _e59
          have _l59 := _q59.len
          have hi59 := _q59.lt
          refine WL_step rfl rfl (r_assign rfl) ?_
          refine WL_nil ?_
          refine thn_nrm (_hK_43 _ _ ?_)
          clear _hK_43
          refine W_ret (inB_ret (thn_ret (thn_ret (inB_ret (thn_ret ?_)))))
          clear _hK_7 _hK_14 _hK_24
          have _o_44 : Ol Pair.cs e_s 2 _w_41 (.slice _A59 (((L.take m ++ List.replicate (L.length - m) (⟨0, 0⟩ : Pair)).take m)).length _C59) (cpt s) := by
            have hx := _q59
            first | (rw [cp_zero (by omega)]; exact hx) | (rw [cp_all hc (by omega)]; exact hx) | (exact hx.eq (cpi_end hI (by have _z9 := hI.len; omega)))
          exact ret_intro [_] ⟨rfl, trivial⟩ ⟨_o_44, _bb59, E⟩
      · have _kb_18 := _h25
        have _h25 := bf_d _h25
        refine W_skip ?_
        refine inB_nrm ?_
        refine thn_nrm (_hK_14 _ _ ?_)
        clear _hK_14
        refine W_region ?_
        refine WL_step rfl rfl (r_move rfl) ?_
        refine WL_step rfl rfl (r_add (by omega) rfl rfl) ?_
        refine WL_step rfl rfl (r_assign rfl) ?_
        refine WL_nil ?_
        have _on_45 : Ol Pair.cs e_s 2 _w_16 (.slice _A_s s.length _C_s) (s) := by
          have hx := _f_17
          exact hx
        exact thn_nrm (Exists.intro (k + 1) ⟨⟨E, (by omega), (by omega), (cp_same hc _hk.1 _hy18 (by have _g9 := _hy23; rwa [show (((k : Nat) : Int) - 1).toNat = k - 1 by omega] at _g9) (fun e => _h25 (by rw [e]))), _on_45⟩, Sub.cons rfl (Sub.cons rfl (Sub.nil _)), (by first | omega | (dsimp only; omega))⟩)
    · have _kb_13 := _h13
      have _h13 := bf_d _h13
      refine W_exit (thn_exit (thn_exit (inB_hit ?_)))
      refine thn_nrm (_hK_7 _ _ ?_)
      clear _hK_7
      refine W_seq fun _K_46 _hK_46 => ?_
      refine W_region ?_
      refine WL_step rfl rfl (r_move rfl) ?_
      refine WL_step rfl rfl (r_assign rfl) ?_
      refine WL_nil ?_
      refine thn_nrm (_hK_46 _ _ ?_)
      clear _hK_46
      refine W_ret ?_
      clear _hK_11
      have _o_47 : Ol Pair.cs e_s 2 _wr_10 (.slice _A_s s.length _C_s) (cpt s) := by
        have hx := _o0_0
        first | (rw [cp_zero (by omega)]; exact hx) | (rw [cp_all hc (by omega)]; exact hx) | (exact hx.eq (cpi_end hI (by have _z9 := hI.len; omega)))
      exact ret_intro [_] ⟨rfl, trivial⟩ ⟨_o_47, rfl, E⟩

shelf_lay_g SlLaysF0.n6 Slsf 6 at Try 121 as lay_sortP
set_option maxHeartbeats 1000000 in
theorem exact_compareInts (a b : Int) (W : World) : Calls Try.prog 163 #[.int .i64 a, .int .i64 b] W fun e w' => e = .returned (.int .i64 (cmpI a b)) ∧ ∃ q os', w' = Go.Sort.grow (W.drewN q) os' := by
  unfold cmpI
  go_enter Try.func163, Try.ntmps163
  by_cases _h1 : a < b
  · rw [if_pos _h1]
    go_wp2
    go_ret
    exact ⟨rfl, 0, #[], (Go.Sort.grow_empty _).symm⟩
  · rw [if_neg _h1]
    by_cases _h2 : b < a
    · rw [if_pos _h2]
      go_wp2
      go_ret
      exact ⟨rfl, 0, #[], (Go.Sort.grow_empty _).symm⟩
    · rw [if_neg _h2]
      go_wp2
      go_ret
      exact ⟨rfl, 0, #[], (Go.Sort.grow_empty _).symm⟩
set_option maxHeartbeats 1000000 in
theorem exact_comparePairs (x y : Pair) (W : World) : Calls Try.prog 122 #[.agg #[.int .i64 x.f, .int .i64 x.t], .agg #[.int .i64 y.f, .int .i64 y.t]] W fun e w' => e = .returned (.int .i64 (cmpP x y)) ∧ ∃ q os', w' = Go.Sort.grow (W.drewN q) os' := by
  obtain ⟨xf, xt⟩ := x
  obtain ⟨yf, yt⟩ := y
  have hc := fun a b W' => exact_compareInts a b W'
  unfold cmpP
  dsimp only
  go_enter Try.func122, Try.ntmps122
  by_cases _h1 : xf = yf
  · rw [if_pos _h1]
    go_wp2_with (go_at_call 163; refine (hc _ _ _).mono ?_; rintro e w' ⟨rfl, q, os, rfl⟩)
    go_ret
    exact ⟨rfl, q, _ ++ os, by rw [Go.Sort.alloc_eq_grow, Go.Sort.alloc_eq_grow, Go.Sort.grow_grow]; exact Go.Sort.grow_grow (W.drewN q) _ os⟩
  · rw [if_neg _h1]
    go_wp2_with (go_at_call 163; refine (hc _ _ _).mono ?_; rintro e w' ⟨rfl, q, os, rfl⟩)
    go_ret
    exact ⟨rfl, q, _ ++ os, by rw [Go.Sort.alloc_eq_grow, Go.Sort.alloc_eq_grow, Go.Sort.grow_grow]; exact Go.Sort.grow_grow (W.drewN q) _ os⟩

/-- slices.SortFunc[[]impl.Pair,impl.Pair] -/
theorem c_slices_SortFunc_impl_Pair_impl_Pair {w : World} {e_x : Nat} {_v_x : Value} {x : List Pair} (_h_x : Ol Pair.cs e_x 2 w _v_x x) (hb : x.length ≤ 4194304) :
    Ctr Try.prog 121 #[_v_x, (.func (.func 122) #[] #[])] w (fun v w' => v = .tuple #[] ∧ Ol Pair.cs e_x 2 w' _v_x (srtP x) ∧ Ch (bl _v_x) w w') := by
  exact sortP_ctr lay_sortP (fun w => run_aggB agg106) (fun w => run_sizeB sz106) 122 (enters_of Try.func122 (by kernel_rfl) rfl) exact_comparePairs _h_x (by omega)

/-- impl.pairSet -/
theorem c_impl_pairSet {w : World} {LL_l _B_l : Nat} {_v_l : Value} {l : List Pair} (_h_l : Ls Pair.cs 2 w LL_l _B_l _v_l l) (hb : l.length ≤ 4194304) :
    Ctr Try.prog 66 #[_v_l] w (fun v w' => Ol Pair.cs 106 2 w' v (psP l) ∧ Lo w.heap.size v ∧ Ch [] w w') := by
  obtain ⟨_A_l, _C_l, _e1_l⟩ := _h_l.val
  subst _e1_l
  have _l_l := _h_l.len
  have _h_l := _h_l.here (by decide)
  have E := Ch.refl [] w
  refine Ctr_of_W (N := 11) (vs0 := [(.slice _A_l l.length _C_l)]) Try.func66 rfl rfl rfl ?_
  refine W_seq fun _K_1 _hK_1 => ?_
  refine W_region ?_
  refine WL_step rfl rfl (r_assign rfl) ?_
  refine WL_nil ?_
  refine thn_nrm (_hK_1 _ _ ?_)
  clear _hK_1
  refine W_seq fun _K_2 _hK_2 => ?_
  refine W_region ?_
  refine WL_s rfl rfl ?_
  refine s_buildSlice0 (k := 2) Pair.cs el37 sz106 fun _v4 _w_3 _q4 _lo4 _cw_3 => ?_
  have _cw_3z := _cw_3.size
  have E := E.trans _cw_3
  obtain ⟨_Av4, _Cv4, _ev4⟩ := _q4.val
  subst _ev4
  have _lv4 := _q4.len
  have _hiv4 := _q4.lt
  refine WL_step rfl rfl (r_move rfl) ?_
  refine WL_s rfl rfl ?_
  have _f_5 := (_h_l.ch0 _cw_3)
  refine s_append (cs := Pair.cs) el37 sz106 by106 zr106 rfl (by decide) Pair.one _q4 _f_5 rfl rfl (by first | omega | (simp only [List.length_append, List.length_nil, List.length_cons, List.length_replicate, List.length_set, List.length_reverse, List.length_map] at *; omega) | (simp at *; omega)) (by first | omega | (simp only [List.length_append, List.length_nil, List.length_cons, List.length_replicate, List.length_set, List.length_reverse, List.length_map] at *; omega) | (simp at *; omega)) _lo4 (by omega) fun _v6 _w_4 _q6 _lo6 _ap6 _cw_4 => ?_
  have _cw_4z := _cw_4.size
  have E := E.step _cw_4 (fun i hi => .inl (by have _h1 := _lo4 _ hi; omega))
  replace _q6 : Ol Pair.cs 106 2 _w_4 _v6 l := _q6
  obtain ⟨_Av6, _Cv6, _ev6⟩ := _q6.val
  subst _ev6
  have _lv6 := _q6.len
  have _hiv6 := _q6.lt
  refine WL_step rfl rfl (r_assign rfl) ?_
  refine WL_nil ?_
  refine thn_nrm (_hK_2 _ _ ?_)
  clear _hK_2
  refine W_seq fun _K_6 _hK_6 => ?_
  refine W_region ?_
  refine WL_step rfl rfl (r_move rfl) ?_
  refine WL_s rfl rfl ?_
  refine Step.call (r_call (xs := [.tmp 7, .func 122]) fk121 rfl) (c_slices_SortFunc_impl_Pair_impl_Pair _q6 (by omega)) fun _v8 _w_7 _q8 => ?_
  obtain ⟨rfl, _q8, _cw_7⟩ := _q8
  have _cw_7z := _cw_7.size
  have E := E.step _cw_7 (fun i hi => .inl (by have _h1 := _lo6 _ hi; omega))
  refine WL_nil ?_
  refine thn_nrm (_hK_6 _ _ ?_)
  clear _hK_6
  refine W_seq fun _K_8 _hK_8 => ?_
  refine W_region ?_
  refine WL_step rfl rfl (r_move rfl) ?_
  refine WL_s rfl rfl ?_
  refine Step.call (r_call (xs := [.tmp 9]) fk123 rfl) (c_slices_Compact_impl_Pair_impl_Pair _q8 (by first | omega | (rw [srtP_len]; omega))) fun _v10 _w_9 _q10 => ?_
  obtain ⟨_q10, _bb10, _cw_9⟩ := _q10
  have _cw_9z := _cw_9.size
  have E := E.step _cw_9 (fun i hi => .inl (by have _h1 := _lo6 _ hi; omega))
  obtain ⟨_Av10, _Cv10, _ev10⟩ := _q10.val
  subst _ev10
  have _lv10 := _q10.len
  have _hiv10 := _q10.lt
  refine WL_step rfl rfl (r_assign rfl) ?_
  refine WL_nil ?_
  refine thn_nrm (_hK_8 _ _ ?_)
  clear _hK_8
  refine W_ret ?_
  have _o_10 : Ol Pair.cs 106 2 _w_9 (.slice _Av10 (cpt (srtP l)).length _Cv10) (psP l) := by
    have hx := _q10
    exact hx.eq (cpt_srtP _)
  exact ret_intro [_] ⟨rfl, trivial⟩ ⟨_o_10, Lo.down (fun g hg => _lo6 g (_bb10 ▸ hg)) (by omega), E⟩

/-- impl.MergePairs -/
theorem c_impl_MergePairs {w : World} {LL_a _B_a : Nat} {_v_a : Value} {a : List Pair} (_h_a : Ls Pair.cs 2 w LL_a _B_a _v_a a) {LL_b _B_b : Nat} {_v_b : Value} {b : List Pair} (_h_b : Ls Pair.cs 2 w LL_b _B_b _v_b b) (hb : a.length + b.length ≤ 4194304) :
    Ctr Try.prog 19 #[_v_a, _v_b] w (fun v w' => Ol Pair.cs 106 2 w' v (psP (a ++ b)) ∧ Lo w.heap.size v ∧ Ch [] w w') := by
  obtain ⟨_A_a, _C_a, _e1_a⟩ := _h_a.val
  subst _e1_a
  have _l_a := _h_a.len
  have _h_a := _h_a.here (by decide)
  obtain ⟨_A_b, _C_b, _e1_b⟩ := _h_b.val
  subst _e1_b
  have _l_b := _h_b.len
  have _h_b := _h_b.here (by decide)
  have E := Ch.refl [] w
  refine Ctr_of_W (N := 11) (vs0 := [(.slice _A_a a.length _C_a), (.slice _A_b b.length _C_b)]) Try.func19 rfl rfl rfl ?_
  refine W_seq fun _K_1 _hK_1 => ?_
  refine W_region ?_
  refine WL_step rfl rfl (r_assign rfl) ?_
  refine WL_nil ?_
  refine thn_nrm (_hK_1 _ _ ?_)
  clear _hK_1
  refine W_seq fun _K_2 _hK_2 => ?_
  refine W_region ?_
  refine WL_s rfl rfl ?_
  refine s_buildSlice0 (k := 2) Pair.cs el37 sz106 fun _v5 _w_3 _q5 _lo5 _cw_3 => ?_
  have _cw_3z := _cw_3.size
  have E := E.trans _cw_3
  obtain ⟨_Av5, _Cv5, _ev5⟩ := _q5.val
  subst _ev5
  have _lv5 := _q5.len
  have _hiv5 := _q5.lt
  refine WL_step rfl rfl (r_move rfl) ?_
  refine WL_s rfl rfl ?_
  have _f_5 := (_h_a.ch0 _cw_3)
  refine s_append (cs := Pair.cs) el37 sz106 by106 zr106 rfl (by decide) Pair.one _q5 _f_5 rfl rfl (by first | omega | (simp only [List.length_append, List.length_nil, List.length_cons, List.length_replicate, List.length_set, List.length_reverse, List.length_map] at *; omega) | (simp at *; omega)) (by first | omega | (simp only [List.length_append, List.length_nil, List.length_cons, List.length_replicate, List.length_set, List.length_reverse, List.length_map] at *; omega) | (simp at *; omega)) _lo5 (by omega) fun _v7 _w_4 _q7 _lo7 _ap7 _cw_4 => ?_
  have _cw_4z := _cw_4.size
  have E := E.step _cw_4 (fun i hi => .inl (by have _h1 := _lo5 _ hi; omega))
  replace _q7 : Ol Pair.cs 106 2 _w_4 _v7 a := _q7
  obtain ⟨_Av7, _Cv7, _ev7⟩ := _q7.val
  subst _ev7
  have _lv7 := _q7.len
  have _hiv7 := _q7.lt
  refine WL_step rfl rfl (r_move rfl) ?_
  refine WL_s rfl rfl ?_
  have _f_7 := ((_h_b.ch0 _cw_3).ch _cw_4 (fun i hi => by have _h1 := _lo5 _ hi; omega))
  refine s_append (cs := Pair.cs) el37 sz106 by106 zr106 rfl (by decide) Pair.one _q7 _f_7 rfl rfl (by first | omega | (simp only [List.length_append, List.length_nil, List.length_cons, List.length_replicate, List.length_set, List.length_reverse, List.length_map] at *; omega) | (simp at *; omega)) (by first | omega | (simp only [List.length_append, List.length_nil, List.length_cons, List.length_replicate, List.length_set, List.length_reverse, List.length_map] at *; omega) | (simp at *; omega)) _lo7 (by omega) fun _v9 _w_6 _q9 _lo9 _ap9 _cw_6 => ?_
  have _cw_6z := _cw_6.size
  have E := E.step _cw_6 (fun i hi => .inl (by have _h1 := _lo7 _ hi; omega))
  obtain ⟨_Av9, _Cv9, _ev9⟩ := _q9.val
  subst _ev9
  have _lv9 := _q9.len
  have _hiv9 := _q9.lt
  refine WL_s rfl rfl ?_
  refine Step.call (r_call (xs := [.tmp 9]) fk66 rfl) (c_impl_pairSet _q9.ls (by first | omega | (simp <;> omega))) fun _v10 _w_8 _q10 => ?_
  obtain ⟨_q10, _lo10, _cw_8⟩ := _q10
  have _cw_8z := _cw_8.size
  have E := E.trans _cw_8
  obtain ⟨_Av10, _Cv10, _ev10⟩ := _q10.val
  subst _ev10
  have _lv10 := _q10.len
  have _hiv10 := _q10.lt
  refine WL_step rfl rfl (r_assign rfl) ?_
  refine WL_nil ?_
  refine thn_nrm (_hK_2 _ _ ?_)
  clear _hK_2
  refine W_ret ?_
  have _o_9 : Ol Pair.cs 106 2 _w_8 (.slice _Av10 (psP (a ++ b)).length _Cv10) (psP (a ++ b)) := by
    have hx := _q10
    exact hx
  exact ret_intro [_] ⟨rfl, trivial⟩ ⟨_o_9, Lo.down _lo10 (by omega), E⟩

/-- laws.eqPair -/
theorem c_laws_eqPair {w : World} (a : Pair) (b : Pair) :
    Ctr Try.prog 67 #[(.agg #[(.int .i64 a.f), (.int .i64 a.t)]), (.agg #[(.int .i64 b.f), (.int .i64 b.t)])] w (fun v w' => v = .bool (decide (a = b)) ∧ Ch [] w w') := by
  have E := Ch.refl [] w
  refine Ctr_of_W (N := 15) (vs0 := [(.agg #[(.int .i64 a.f), (.int .i64 a.t)]), (.agg #[(.int .i64 b.f), (.int .i64 b.t)])]) Try.func67 rfl rfl rfl ?_
  refine W_seq fun _K_1 _hK_1 => ?_
  refine W_region ?_
  refine WL_s rfl rfl ?_
  refine s_box rfl fun _b2 _w_2 _m2 _cw_2 _e2 => ?_
  have _cw_2z := _cw_2.size
  have E := E.trans _cw_2
  have _z2 := _m2.lt
  replace _m2 : Blk _w_2 _b2 106 [(.int .i64 a.f), (.int .i64 a.t)] := _m2
  refine WL_s rfl rfl ?_
  refine s_box rfl fun _b3 _w_3 _m3 _cw_3 _e3 => ?_
  have _cw_3z := _cw_3.size
  have E := E.trans _cw_3
  have _z3 := _m3.lt
  replace _m3 : Blk _w_3 _b3 106 [(.int .i64 b.f), (.int .i64 b.t)] := _m3
  refine WL_step rfl rfl (r_assign rfl) ?_
  refine WL_nil ?_
  refine thn_nrm (_hK_1 _ _ ?_)
  clear _hK_1
  refine W_seq fun _K_4 _hK_4 => ?_
  refine W_seq fun _K_5 _hK_5 => ?_
  refine W_region ?_
  refine WL_step rfl rfl (r_fieldAddr fa106_0 rfl) ?_
  have _f_6 := (_m2.ch0 _cw_3)
  refine WL_step rfl rfl (r_loadAt _f_6.at_ agg3 rfl rfl) ?_
  refine WL_step rfl rfl (r_fieldAddr fa106_0 rfl) ?_
  refine WL_step rfl rfl (r_loadAt _m3.at_ agg3 rfl rfl) ?_
  refine WL_step rfl rfl (r_neq rfl rfl) ?_
  refine WL_nil ?_
  refine thn_nrm (_hK_5 _ _ ?_)
  clear _hK_5
  refine W_cond rfl (fun _h9 => ?_) (fun _h9 => ?_)
  · have _kb_7 := _h9
    have _h9 := bf_d (bt_n _h9)
    refine W_seq fun _K_8 _hK_8 => ?_
    refine W_region ?_
    refine WL_step rfl rfl (r_assign rfl) ?_
    refine WL_nil ?_
    refine thn_nrm (_hK_8 _ _ ?_)
    clear _hK_8
    refine W_ret (thn_ret ?_)
    clear _hK_4
    exact ret_intro [_] ⟨rfl, trivial⟩ ⟨congrArg Value.bool (decide_eq_false (fun e => _h9 (by rw [e]))).symm, E⟩
  · have _kb_7 := _h9
    have _h9 := bt_d (bf_n _h9)
    refine W_skip ?_
    refine thn_nrm (_hK_4 _ _ ?_)
    clear _hK_4
    refine W_seq fun _K_9 _hK_9 => ?_
    refine W_seq fun _K_10 _hK_10 => ?_
    refine W_region ?_
    refine WL_step rfl rfl (r_fieldAddr fa106_1 rfl) ?_
    refine WL_step rfl rfl (r_loadAt _f_6.at_ agg3 rfl rfl) ?_
    refine WL_step rfl rfl (r_fieldAddr fa106_1 rfl) ?_
    refine WL_step rfl rfl (r_loadAt _m3.at_ agg3 rfl rfl) ?_
    refine WL_step rfl rfl (r_neq rfl rfl) ?_
    refine WL_nil ?_
    refine thn_nrm (_hK_10 _ _ ?_)
    clear _hK_10
    refine W_cond rfl (fun _h14 => ?_) (fun _h14 => ?_)
    · have _kb_11 := _h14
      have _h14 := bf_d (bt_n _h14)
      refine W_seq fun _K_12 _hK_12 => ?_
      refine W_region ?_
      refine WL_step rfl rfl (r_assign rfl) ?_
      refine WL_nil ?_
      refine thn_nrm (_hK_12 _ _ ?_)
      clear _hK_12
      refine W_ret (thn_ret ?_)
      clear _hK_9
      exact ret_intro [_] ⟨rfl, trivial⟩ ⟨congrArg Value.bool (decide_eq_false (fun e => _h14 (by rw [e]))).symm, E⟩
    · have _kb_11 := _h14
      have _h14 := bt_d (bf_n _h14)
      refine W_skip ?_
      refine thn_nrm (_hK_9 _ _ ?_)
      clear _hK_9
      refine W_seq fun _K_13 _hK_13 => ?_
      refine W_region ?_
      refine WL_step rfl rfl (r_assign rfl) ?_
      refine WL_nil ?_
      refine thn_nrm (_hK_13 _ _ ?_)
      clear _hK_13
      refine W_ret ?_
      exact ret_intro [_] ⟨rfl, trivial⟩ ⟨congrArg Value.bool (decide_eq_true (Pair.inj (by rw [_h9, _h14]))).symm, E⟩

/-- laws.eqPairS -/
theorem c_laws_eqPairS {w : World} {LL_a _B_a : Nat} {_v_a : Value} {a : List Pair} (_h_a : Ls Pair.cs 2 w LL_a _B_a _v_a a) {LL_b _B_b : Nat} {_v_b : Value} {b : List Pair} (_h_b : Ls Pair.cs 2 w LL_b _B_b _v_b b) :
    Ctr Try.prog 20 #[_v_a, _v_b] w (fun v w' => v = .bool (decide (a = b)) ∧ Ch [] w w') := by
  obtain ⟨_A_a, _C_a, _e1_a⟩ := _h_a.val
  subst _e1_a
  have _l_a := _h_a.len
  have _h_a := _h_a.here (by decide)
  obtain ⟨_A_b, _C_b, _e1_b⟩ := _h_b.val
  subst _e1_b
  have _l_b := _h_b.len
  have _h_b := _h_b.here (by decide)
  have E := Ch.refl [] w
  refine Ctr_of_W (N := 27) (vs0 := [(.slice _A_a a.length _C_a), (.slice _A_b b.length _C_b)]) Try.func20 rfl rfl rfl ?_
  refine W_seq fun _K_1 _hK_1 => ?_
  refine W_region ?_
  refine WL_step rfl rfl (r_assign rfl) ?_
  refine WL_nil ?_
  refine thn_nrm (_hK_1 _ _ ?_)
  clear _hK_1
  refine W_seq fun _K_2 _hK_2 => ?_
  refine W_seq fun _K_3 _hK_3 => ?_
  refine W_region ?_
  refine WL_step rfl rfl (r_move rfl) ?_
  refine WL_step rfl rfl (r_len (by rw [el37]; rfl) rfl) ?_
  refine WL_step rfl rfl (r_move rfl) ?_
  refine WL_step rfl rfl (r_len (by rw [el37]; rfl) rfl) ?_
  refine WL_step rfl rfl (r_neq rfl rfl) ?_
  refine WL_nil ?_
  refine thn_nrm (_hK_3 _ _ ?_)
  clear _hK_3
  refine W_cond rfl (fun _h10 => ?_) (fun _h10 => ?_)
  · have _kb_4 := _h10
    have _h10 := bf_d (bt_n _h10)
    refine W_seq fun _K_5 _hK_5 => ?_
    refine W_region ?_
    refine WL_step rfl rfl (r_assign rfl) ?_
    refine WL_nil ?_
    refine thn_nrm (_hK_5 _ _ ?_)
    clear _hK_5
    refine W_ret (thn_ret ?_)
    clear _hK_2
    exact ret_intro [_] ⟨rfl, trivial⟩ ⟨congrArg Value.bool (decide_eq_false (fun e => _h10 (by rw [e]))).symm, E⟩
  · have _kb_4 := _h10
    have _h10 := bt_d (bf_n _h10)
    refine W_skip ?_
    refine thn_nrm (_hK_2 _ _ ?_)
    clear _hK_2
    refine W_seq fun _K_6 _hK_6 => ?_
    refine W_seq fun _K_7 _hK_7 => ?_
    refine W_region ?_
    refine WL_step rfl rfl (r_assign rfl) ?_
    refine WL_nil ?_
    refine thn_nrm (_hK_7 _ _ ?_)
    clear _hK_7
    refine W_block ?_
    refine W_loop (σ := Nat) (fun (k : Nat) => [(0, (.slice _A_a a.length _C_a)), (1, (.slice _A_b b.length _C_b)), (5, (.int .i64 ((k : Nat) : Int)))]) (fun (k : Nat) wx => Ch [] w wx ∧ w.heap.size ≤ wx.heap.size ∧ (k ≤ a.length) ∧ (a.take k = b.take k)) (fun (k : Nat) => a.length - k) 0 (Sub.cons rfl (Sub.cons rfl (Sub.cons rfl (Sub.nil _)))) ⟨E, (Nat.le_refl _), (by omega), rfl⟩ ?_
    rintro k _wr_8 ⟨E, _zz0, _hk, _ht⟩
    have _E0h := E
    have _E0hz := _E0h.size
    refine W_seq fun _K_9 _hK_9 => ?_
    refine W_seq fun _K_10 _hK_10 => ?_
    refine W_region ?_
    refine WL_step rfl rfl (r_move rfl) ?_
    refine WL_step rfl rfl (r_move rfl) ?_
    refine WL_step rfl rfl (r_len (by rw [el37]; rfl) rfl) ?_
    refine WL_step rfl rfl (r_lss rfl rfl) ?_
    refine WL_nil ?_
    refine thn_nrm (_hK_10 _ _ ?_)
    clear _hK_10
    refine W_cond rfl (fun _h14 => ?_) (fun _h14 => ?_)
    · have _kb_11 := _h14
      have _h14 := bt_d _h14
      refine W_skip ?_
      refine thn_nrm (_hK_9 _ _ ?_)
      clear _hK_9
      refine W_seq fun _K_12 _hK_12 => ?_
      refine W_block ?_
      refine W_seq fun _K_13 _hK_13 => ?_
      refine W_drawC [] 10 mixed rfl fun _w_14 _cw_14 => ?_
      have _cw_14z := _cw_14.size
      have E := E.trans _cw_14
      refine DR_s 0 rfl (by kernel_rfl) rfl rfl (t_v (fun _ => (r_move rfl)) ?_)
      refine DR_s 1 rfl (by kernel_rfl) rfl rfl (t_v (fun _ => (r_move rfl)) ?_)
      have _f_15 := ((_h_a.ch0 _E0h).ch0 _cw_14)
      refine DR_s 2 rfl (by kernel_rfl) rfl rfl (t_index _f_15 Pair.len el37 sz106 rfl rfl rfl (by omega) fun _p19 _y19 _hy19 _a19 => ?_)
      refine DR_s 3 rfl (by kernel_rfl) rfl rfl (t_loadAtA0 _a19 (fun i hi => absurd hi List.not_mem_nil) agg106 sz106 rfl ?_)
      refine DR_s 4 rfl (by kernel_rfl) rfl rfl (t_v (fun _ => (r_move rfl)) ?_)
      refine DR_s 5 rfl (by kernel_rfl) rfl rfl (t_v (fun _ => (r_move rfl)) ?_)
      have _f_16 := ((_h_b.ch0 _E0h).ch0 _cw_14)
      refine DR_s 6 rfl (by kernel_rfl) rfl rfl (t_index _f_16 Pair.len el37 sz106 rfl rfl rfl (by omega) fun _p23 _y23 _hy23 _a23 => ?_)
      refine DR_s 7 rfl (by kernel_rfl) rfl rfl (t_loadAtA0 _a23 (fun i hi => absurd hi List.not_mem_nil) agg106 sz106 rfl ?_)
      refine DR_one 8 (by kernel_rfl) ?_
      refine DO_s rfl rfl rfl ?_
      refine Step.call (r_call (xs := [.tmp 20, .tmp 24]) fk67 rfl) (c_laws_eqPair _y19 _y23 ) fun _v25 _w_17 _q25 => ?_
      obtain ⟨rfl, _cw_17⟩ := _q25
      have _cw_17z := _cw_17.size
      have E := E.trans _cw_17
      have _S_18 : Ch [] _w_14 _w_17 := ((Ch.refl _ _).trans _cw_17)
      refine ⟨_S_18, ?_⟩
      refine DR_s 9 rfl (by kernel_rfl) rfl rfl (t_v (fun _ => (r_not rfl)) ?_)
      refine DR_done (by kernel_rfl) ?_
      refine thn_nrm (_hK_13 _ _ ?_)
      clear _hK_13
      refine W_cond rfl (fun _h26 => ?_) (fun _h26 => ?_)
      · have _kb_19 := _h26
        have _h26 := bf_d (bt_n _h26)
        refine W_seq fun _K_20 _hK_20 => ?_
        refine W_region ?_
        refine WL_step rfl rfl (r_assign rfl) ?_
        refine WL_nil ?_
        refine thn_nrm (_hK_20 _ _ ?_)
        clear _hK_20
        refine W_ret (inB_ret (thn_ret (thn_ret (inB_ret (thn_ret ?_)))))
        clear _hK_6 _hK_12
        exact ret_intro [_] ⟨rfl, trivial⟩ ⟨congrArg Value.bool (decide_eq_false (ne_of_get _hy19 _hy23 _h26)).symm, E⟩
      · have _kb_19 := _h26
        have _h26 := bt_d (bf_n _h26)
        refine W_skip ?_
        refine inB_nrm ?_
        refine thn_nrm (_hK_12 _ _ ?_)
        clear _hK_12
        refine W_region ?_
        refine WL_step rfl rfl (r_move rfl) ?_
        refine WL_step rfl rfl (r_add (by omega) rfl rfl) ?_
        refine WL_step rfl rfl (r_assign rfl) ?_
        refine WL_nil ?_
        exact thn_nrm (Exists.intro (k + 1) ⟨⟨E, (by omega), (by omega), (take_eq_succ _ht _hy19 _hy23 _h26)⟩, Sub.cons rfl (Sub.cons rfl (Sub.cons rfl (Sub.nil _))), (by first | omega | (dsimp only; omega))⟩)
    · have _kb_11 := _h14
      have _h14 := bf_d _h14
      refine W_exit (thn_exit (thn_exit (inB_hit ?_)))
      refine thn_nrm (_hK_6 _ _ ?_)
      clear _hK_6
      refine W_seq fun _K_21 _hK_21 => ?_
      refine W_region ?_
      refine WL_step rfl rfl (r_assign rfl) ?_
      refine WL_nil ?_
      refine thn_nrm (_hK_21 _ _ ?_)
      clear _hK_21
      refine W_ret ?_
      clear _hK_9
      exact ret_intro [_] ⟨rfl, trivial⟩ ⟨congrArg Value.bool (decide_eq_true (eq_of_take _ht (by omega) (by omega))).symm, E⟩

/-- laws.heldPairS -/
theorem c_laws_heldPairS {w : World} {LL_a _B_a : Nat} {_v_a : Value} {a : List Pair} (_h_a : Ls Pair.cs 2 w LL_a _B_a _v_a a) (k : Int) (_hk0 : 0 ≤ k) (hkk : k + 2 * a.length ≤ 4611686018427387904) :
    Ctr Try.prog 22 #[_v_a, (.int .i64 k)] w (fun v w' => v = .int .i64 (if a = mkPair k a.length then k + 2 * a.length else -1) ∧ Ch [] w w') := by
  obtain ⟨_A_a, _C_a, _e1_a⟩ := _h_a.val
  subst _e1_a
  have _l_a := _h_a.len
  have _h_a := _h_a.here (by decide)
  have E := Ch.refl [] w
  refine Ctr_of_W (N := 31) (vs0 := [(.slice _A_a a.length _C_a), (.int .i64 k)]) Try.func22 rfl rfl rfl ?_
  refine W_seq fun _K_1 _hK_1 => ?_
  refine W_region ?_
  refine WL_step rfl rfl (r_assign rfl) ?_
  refine WL_nil ?_
  refine thn_nrm (_hK_1 _ _ ?_)
  clear _hK_1
  refine W_seq fun _K_2 _hK_2 => ?_
  refine W_seq fun _K_3 _hK_3 => ?_
  refine W_region ?_
  refine WL_step rfl rfl (r_assign rfl) ?_
  refine WL_nil ?_
  refine thn_nrm (_hK_3 _ _ ?_)
  clear _hK_3
  refine W_block ?_
  refine W_loop (σ := Nat × Int) (fun ⟨i, kk⟩ => [(0, (.slice _A_a a.length _C_a)), (1, (.int .i64 kk)), (5, (.int .i64 ((i : Nat) : Int)))]) (fun ⟨i, kk⟩ wx => Ch [] w wx ∧ w.heap.size ≤ wx.heap.size ∧ (i ≤ a.length) ∧ (kk = k + 2 * i) ∧ (a.take i = mkPair k i)) (fun ⟨i, kk⟩ => a.length - i) (0, k) (Sub.cons rfl (Sub.cons rfl (Sub.cons rfl (Sub.nil _)))) ⟨E, (Nat.le_refl _), (by omega), (by omega), rfl⟩ ?_
  rintro ⟨i, kk⟩ _wr_4 ⟨E, _zz0, hi, hq, _ht⟩
  have _E0h := E
  have _E0hz := _E0h.size
  refine W_seq fun _K_5 _hK_5 => ?_
  refine W_seq fun _K_6 _hK_6 => ?_
  refine W_region ?_
  refine WL_step rfl rfl (r_move rfl) ?_
  refine WL_step rfl rfl (r_move rfl) ?_
  refine WL_step rfl rfl (r_len (by rw [el37]; rfl) rfl) ?_
  refine WL_step rfl rfl (r_lss rfl rfl) ?_
  refine WL_nil ?_
  refine thn_nrm (_hK_6 _ _ ?_)
  clear _hK_6
  refine W_cond rfl (fun _h9 => ?_) (fun _h9 => ?_)
  · have _kb_7 := _h9
    have _h9 := bt_d _h9
    refine W_skip ?_
    refine thn_nrm (_hK_5 _ _ ?_)
    clear _hK_5
    refine W_seq fun _K_8 _hK_8 => ?_
    refine W_block ?_
    refine W_seq fun _K_9 _hK_9 => ?_
    refine W_seq fun _K_10 _hK_10 => ?_
    refine W_region ?_
    refine WL_step rfl rfl (r_move rfl) ?_
    refine WL_step rfl rfl (r_move rfl) ?_
    refine WL_s rfl rfl ?_
    have _f_11 := (_h_a.ch0 _E0h)
    refine (s_index _f_11 Pair.len el37 sz106 rfl rfl rfl (by omega) fun _p14 _y14 _hy14 _a14 => ?_)
    refine WL_step rfl rfl (r_fieldAddr fa106_0 rfl) ?_
    refine WL_step rfl rfl (r_loadAt _a14 agg3 rfl rfl) ?_
    refine WL_step rfl rfl (r_move rfl) ?_
    refine WL_step rfl rfl (r_neq rfl rfl) ?_
    refine WL_nil ?_
    refine thn_nrm (_hK_10 _ _ ?_)
    clear _hK_10
    refine W_cond rfl (fun _h18 => ?_) (fun _h18 => ?_)
    · have _kb_12 := _h18
      have _h18 := bf_d (bt_n _h18)
      refine W_seq fun _K_13 _hK_13 => ?_
      refine W_region ?_
      refine WL_step rfl rfl (r_assign rfl) ?_
      refine WL_nil ?_
      refine thn_nrm (_hK_13 _ _ ?_)
      clear _hK_13
      refine W_ret (thn_ret (inB_ret (thn_ret (thn_ret (inB_ret (thn_ret ?_))))))
      clear _hK_2 _hK_8 _hK_9
      exact ret_intro [_] ⟨rfl, trivial⟩ ⟨congrArg (Value.int .i64) (if_neg (fun e => _h18 (by have _e2 := (heldPair_get e _hy14).1; omega))).symm, E⟩
    · have _kb_12 := _h18
      have _h18 := bt_d (bf_n _h18)
      refine W_skip ?_
      refine thn_nrm (_hK_9 _ _ ?_)
      clear _hK_9
      refine W_seq fun _K_14 _hK_14 => ?_
      refine W_region ?_
      refine WL_step rfl rfl (r_move rfl) ?_
      refine WL_step rfl rfl (r_add (by omega) rfl rfl) ?_
      refine WL_step rfl rfl (r_assign rfl) ?_
      refine WL_nil ?_
      refine thn_nrm (_hK_14 _ _ ?_)
      clear _hK_14
      refine W_seq fun _K_15 _hK_15 => ?_
      refine W_seq fun _K_16 _hK_16 => ?_
      refine W_region ?_
      refine WL_step rfl rfl (r_move rfl) ?_
      refine WL_step rfl rfl (r_move rfl) ?_
      refine WL_s rfl rfl ?_
      refine (s_index _f_11 Pair.len el37 sz106 rfl rfl rfl (by omega) fun _p23 _y23 _hy23 _a23 => ?_)
      refine WL_step rfl rfl (r_fieldAddr fa106_1 rfl) ?_
      refine WL_step rfl rfl (r_loadAt _a23 agg3 rfl rfl) ?_
      refine WL_step rfl rfl (r_move rfl) ?_
      refine WL_step rfl rfl (r_neq rfl rfl) ?_
      refine WL_nil ?_
      refine thn_nrm (_hK_16 _ _ ?_)
      clear _hK_16
      refine W_cond rfl (fun _h27 => ?_) (fun _h27 => ?_)
      · have _kb_17 := _h27
        have _h27 := bf_d (bt_n _h27)
        refine W_seq fun _K_18 _hK_18 => ?_
        refine W_region ?_
        refine WL_step rfl rfl (r_assign rfl) ?_
        refine WL_nil ?_
        refine thn_nrm (_hK_18 _ _ ?_)
        clear _hK_18
        refine W_ret (thn_ret (inB_ret (thn_ret (thn_ret (inB_ret (thn_ret ?_))))))
        clear _hK_2 _hK_8 _hK_15
        exact ret_intro [_] ⟨rfl, trivial⟩ ⟨congrArg (Value.int .i64) (if_neg (fun e => _h27 (by have _e2 := (heldPair_get e _hy23).2; omega))).symm, E⟩
      · have _kb_17 := _h27
        have _h27 := bt_d (bf_n _h27)
        refine W_skip ?_
        refine thn_nrm (_hK_15 _ _ ?_)
        clear _hK_15
        refine W_region ?_
        refine WL_step rfl rfl (r_move rfl) ?_
        refine WL_step rfl rfl (r_add (by omega) rfl rfl) ?_
        refine WL_step rfl rfl (r_assign rfl) ?_
        refine WL_nil ?_
        refine inB_nrm ?_
        refine thn_nrm (_hK_8 _ _ ?_)
        clear _hK_8
        refine W_region ?_
        refine WL_step rfl rfl (r_move rfl) ?_
        refine WL_step rfl rfl (r_add (by omega) rfl rfl) ?_
        refine WL_step rfl rfl (r_assign rfl) ?_
        refine WL_nil ?_
        exact thn_nrm (Exists.intro ((i + 1), ((kk + 1) + 1)) ⟨⟨E, (by omega), (by omega), (by omega), (heldPair_step _ht hq _hy14 _h18 _hy23 _h27)⟩, Sub.cons rfl (Sub.cons rfl (Sub.cons rfl (Sub.nil _))), (by first | omega | (dsimp only; omega))⟩)
  · have _kb_7 := _h9
    have _h9 := bf_d _h9
    refine W_exit (thn_exit (thn_exit (inB_hit ?_)))
    refine thn_nrm (_hK_2 _ _ ?_)
    clear _hK_2
    refine W_seq fun _K_19 _hK_19 => ?_
    refine W_region ?_
    refine WL_step rfl rfl (r_move rfl) ?_
    refine WL_step rfl rfl (r_assign rfl) ?_
    refine WL_nil ?_
    refine thn_nrm (_hK_19 _ _ ?_)
    clear _hK_19
    refine W_ret ?_
    clear _hK_5
    exact ret_intro [_] ⟨rfl, trivial⟩ ⟨congrArg (Value.int .i64) (by rw [if_pos (heldPair_all _ht (by omega) (by omega))]; omega), E⟩

/-- laws.markPairS -/
theorem c_laws_markPairS {w : World} {e_a : Nat} {_v_a : Value} {a : List Pair} (_h_a : Ol Pair.cs e_a 2 w _v_a a) (k : Int) (_hk0 : 0 ≤ k) (hkk : k + 2 * a.length ≤ 4611686018427387904) :
    Ctr Try.prog 21 #[_v_a, (.int .i64 k)] w (fun v w' => v = .int .i64 (k + 2 * a.length) ∧ Ol Pair.cs e_a 2 w' _v_a (mkPair k a.length) ∧ Ch (bl _v_a) w w') := by
  obtain ⟨_A_a, _C_a, _e1_a⟩ := _h_a.val
  subst _e1_a
  have _l_a := _h_a.len
  have _lt_a := _h_a.lt
  have E := Ch.refl (bl (.slice _A_a a.length _C_a)) w
  refine Ctr_of_W (N := 27) (vs0 := [(.slice _A_a a.length _C_a), (.int .i64 k)]) Try.func21 rfl rfl rfl ?_
  refine W_seq fun _K_1 _hK_1 => ?_
  refine W_region ?_
  refine WL_step rfl rfl (r_assign rfl) ?_
  refine WL_nil ?_
  refine thn_nrm (_hK_1 _ _ ?_)
  clear _hK_1
  refine W_seq fun _K_2 _hK_2 => ?_
  refine W_seq fun _K_3 _hK_3 => ?_
  refine W_region ?_
  refine WL_step rfl rfl (r_assign rfl) ?_
  refine WL_nil ?_
  refine thn_nrm (_hK_3 _ _ ?_)
  clear _hK_3
  refine W_block ?_
  have _oi_4 : Ol Pair.cs e_a 2 w (.slice _A_a a.length _C_a) (mkPair k 0 ++ a.drop 0) := by
    have hx := _h_a
    simpa [mkPair] using hx
  refine W_loop (σ := Nat × Int) (fun ⟨i, kk⟩ => [(0, (.slice _A_a a.length _C_a)), (1, (.int .i64 kk)), (4, (.int .i64 0)), (5, (.int .i64 ((i : Nat) : Int)))]) (fun ⟨i, kk⟩ wx => Ch (bl (.slice _A_a a.length _C_a)) w wx ∧ w.heap.size ≤ wx.heap.size ∧ (i ≤ a.length) ∧ (kk = k + 2 * i) ∧ Ol Pair.cs e_a 2 wx (.slice _A_a a.length _C_a) (mkPair k i ++ a.drop i)) (fun ⟨i, kk⟩ => a.length - i) (0, k) (Sub.cons rfl (Sub.cons rfl (Sub.cons rfl (Sub.cons rfl (Sub.nil _))))) ⟨E, (Nat.le_refl _), (by omega), (by omega), _oi_4⟩ ?_
  rintro ⟨i, kk⟩ _wr_5 ⟨E, _zz0, hi, hq, _o0_0⟩
  have _E0h := E
  have _E0hz := _E0h.size
  refine W_seq fun _K_6 _hK_6 => ?_
  refine W_seq fun _K_7 _hK_7 => ?_
  refine W_region ?_
  refine WL_step rfl rfl (r_move rfl) ?_
  refine WL_step rfl rfl (r_move rfl) ?_
  refine WL_step rfl rfl (r_len (by rw [el37]; rfl) rfl) ?_
  refine WL_step rfl rfl (r_lss rfl rfl) ?_
  refine WL_nil ?_
  refine thn_nrm (_hK_7 _ _ ?_)
  clear _hK_7
  refine W_cond rfl (fun _h9 => ?_) (fun _h9 => ?_)
  · have _kb_8 := _h9
    have _h9 := bt_d _h9
    refine W_skip ?_
    refine thn_nrm (_hK_6 _ _ ?_)
    clear _hK_6
    refine W_seq fun _K_9 _hK_9 => ?_
    refine W_block ?_
    refine W_seq fun _K_10 _hK_10 => ?_
    refine W_region ?_
    refine WL_step rfl rfl (r_move rfl) ?_
    refine WL_step rfl rfl (r_move rfl) ?_
    refine WL_step rfl rfl (r_move rfl) ?_
    refine WL_s rfl rfl ?_
    refine s_indexO (j := i) _o0_0 el37 sz106 rfl rfl rfl (by first | omega | (simp [mkPair] <;> omega)) fun _g15 _o15 _cp15 _q15 => ?_
    refine WL_step rfl rfl (r_fieldAddr fa106_0 rfl) ?_
    refine WL_s rfl rfl ?_
    obtain ⟨ye_13, hy_14⟩ := get_some (xs := mkPair k i ++ a.drop i) (j := i) (by first | omega | (simp [mkPair] <;> omega))
    refine s_storeF (j := i) 0 (⟨ye_13.f, ye_13.t⟩ : Pair) (⟨kk, ye_13.t⟩ : Pair) _o0_0 _q15 hy_14 Pair.len rfl sz3 rfl rfl rfl rfl fun _w_11 _o_12 _cw_11 => ?_
    have _cw_11z := _cw_11.size
    have E := E.trans _cw_11
    refine WL_nil ?_
    refine thn_nrm (_hK_10 _ _ ?_)
    clear _hK_10
    refine W_seq fun _K_15 _hK_15 => ?_
    refine W_region ?_
    refine WL_step rfl rfl (r_move rfl) ?_
    refine WL_step rfl rfl (r_add (by omega) rfl rfl) ?_
    refine WL_step rfl rfl (r_assign rfl) ?_
    refine WL_nil ?_
    refine thn_nrm (_hK_15 _ _ ?_)
    clear _hK_15
    refine W_seq fun _K_16 _hK_16 => ?_
    refine W_region ?_
    refine WL_step rfl rfl (r_move rfl) ?_
    refine WL_step rfl rfl (r_move rfl) ?_
    refine WL_step rfl rfl (r_move rfl) ?_
    refine WL_s rfl rfl ?_
    refine s_indexO (j := i) _o_12 el37 sz106 rfl rfl rfl (by first | omega | (simp [mkPair] <;> omega)) fun _g22 _o22 _cp22 _q22 => ?_
    refine WL_step rfl rfl (r_fieldAddr fa106_1 rfl) ?_
    refine WL_s rfl rfl ?_
    refine s_storeF (j := i) 1 (⟨kk, ye_13.t⟩ : Pair) (⟨kk, (kk + 1)⟩ : Pair) _o_12 _q22 (get_set hy_14 _) Pair.len rfl sz3 rfl rfl rfl rfl fun _w_17 _o_18 _cw_17 => ?_
    rw [List.set_set] at _o_18
    have _cw_17z := _cw_17.size
    have E := E.trans _cw_17
    refine WL_nil ?_
    refine thn_nrm (_hK_16 _ _ ?_)
    clear _hK_16
    refine W_region ?_
    refine WL_step rfl rfl (r_move rfl) ?_
    refine WL_step rfl rfl (r_add (by omega) rfl rfl) ?_
    refine WL_step rfl rfl (r_assign rfl) ?_
    refine WL_nil ?_
    refine inB_nrm ?_
    refine thn_nrm (_hK_9 _ _ ?_)
    clear _hK_9
    refine W_region ?_
    refine WL_step rfl rfl (r_move rfl) ?_
    refine WL_step rfl rfl (r_add (by omega) rfl rfl) ?_
    refine WL_step rfl rfl (r_assign rfl) ?_
    refine WL_nil ?_
    have _on_19 : Ol Pair.cs e_a 2 _w_17 (.slice _A_a a.length _C_a) (mkPair k (i + 1) ++ a.drop (i + 1)) := by
      have hx := _o_18
      rwa [mkPair_step a (by omega) hq] at hx
    exact thn_nrm (Exists.intro ((i + 1), ((kk + 1) + 1)) ⟨⟨E, (by omega), (by omega), (by omega), _on_19⟩, Sub.cons rfl (Sub.cons rfl (Sub.cons rfl (Sub.cons rfl (Sub.nil _)))), (by first | omega | (dsimp only; omega))⟩)
  · have _kb_8 := _h9
    have _h9 := bf_d _h9
    refine W_exit (thn_exit (thn_exit (inB_hit ?_)))
    refine thn_nrm (_hK_2 _ _ ?_)
    clear _hK_2
    refine W_seq fun _K_20 _hK_20 => ?_
    refine W_region ?_
    refine WL_step rfl rfl (r_move rfl) ?_
    refine WL_step rfl rfl (r_assign rfl) ?_
    refine WL_nil ?_
    refine thn_nrm (_hK_20 _ _ ?_)
    clear _hK_20
    refine W_ret ?_
    clear _hK_6
    have _o_21 : Ol Pair.cs e_a 2 _wr_5 (.slice _A_a a.length _C_a) (mkPair k a.length) := by
      have hx := _o0_0
      have _e1 : i = a.length := (by omega); subst _e1; simpa using hx
    exact ret_intro [_] ⟨rfl, trivial⟩ ⟨congrArg (Value.int .i64) (by omega), _o_21, E⟩

/-- laws.szPairS -/
theorem c_laws_szPairS {w : World} {LL_a _B_a : Nat} {_v_a : Value} {a : List Pair} (_h_a : Ls Pair.cs 2 w LL_a _B_a _v_a a) (left : Int) (hl : left ≤ 1048576) (_h0 : 0 ≤ left) :
    Ctr Try.prog 16 #[_v_a, (.int .i64 left)] w (fun v w' => v = .int .i64 (if left < a.length then -1 else left - a.length) ∧ Ch [] w w') := by
  obtain ⟨_A_a, _C_a, _e1_a⟩ := _h_a.val
  subst _e1_a
  have _l_a := _h_a.len
  have _h_a := _h_a.here (by decide)
  have E := Ch.refl [] w
  refine Ctr_of_W (N := 12) (vs0 := [(.slice _A_a a.length _C_a), (.int .i64 left)]) Try.func16 rfl rfl rfl ?_
  refine W_seq fun _K_1 _hK_1 => ?_
  refine W_region ?_
  refine WL_step rfl rfl (r_assign rfl) ?_
  refine WL_nil ?_
  refine thn_nrm (_hK_1 _ _ ?_)
  clear _hK_1
  refine W_seq fun _K_2 _hK_2 => ?_
  refine W_region ?_
  refine WL_step rfl rfl (r_move rfl) ?_
  refine WL_step rfl rfl (r_move rfl) ?_
  refine WL_step rfl rfl (r_len (by rw [el35]; rfl) rfl) ?_
  refine WL_step rfl rfl (r_sub (by omega) rfl rfl) ?_
  refine WL_step rfl rfl (r_assign rfl) ?_
  refine WL_nil ?_
  refine thn_nrm (_hK_2 _ _ ?_)
  clear _hK_2
  refine W_seq fun _K_3 _hK_3 => ?_
  refine W_seq fun _K_4 _hK_4 => ?_
  refine W_region ?_
  refine WL_step rfl rfl (r_move rfl) ?_
  refine WL_step rfl rfl (r_lss rfl rfl) ?_
  refine WL_nil ?_
  refine thn_nrm (_hK_4 _ _ ?_)
  clear _hK_4
  refine W_cond rfl (fun _h10 => ?_) (fun _h10 => ?_)
  · have _kb_5 := _h10
    have _h10 := bt_d _h10
    refine W_seq fun _K_6 _hK_6 => ?_
    refine W_region ?_
    refine WL_step rfl rfl (r_assign rfl) ?_
    refine WL_nil ?_
    refine thn_nrm (_hK_6 _ _ ?_)
    clear _hK_6
    refine W_ret (thn_ret ?_)
    clear _hK_3
    exact ret_intro [_] ⟨rfl, trivial⟩ ⟨congrArg (Value.int .i64) (if_pos (by omega)).symm, E⟩
  · have _kb_5 := _h10
    have _h10 := bf_d _h10
    refine W_skip ?_
    refine thn_nrm (_hK_3 _ _ ?_)
    clear _hK_3
    refine W_seq fun _K_7 _hK_7 => ?_
    refine W_region ?_
    refine WL_step rfl rfl (r_move rfl) ?_
    refine WL_step rfl rfl (r_assign rfl) ?_
    refine WL_nil ?_
    refine thn_nrm (_hK_7 _ _ ?_)
    clear _hK_7
    refine W_ret ?_
    exact ret_intro [_] ⟨rfl, trivial⟩ ⟨congrArg (Value.int .i64) (if_neg (by omega)).symm, E⟩

/-- laws.toPair -/
theorem c_laws_toPair {w : World} (a : Pair) :
    Ctr Try.prog 65 #[(.agg #[(.int .i64 a.f), (.int .i64 a.t)])] w (fun v w' => v = .agg (Pair.cs (a)).toArray ∧ Ch [] w w') := by
  have E := Ch.refl [] w
  refine Ctr_of_W (N := 11) (vs0 := [(.agg #[(.int .i64 a.f), (.int .i64 a.t)])]) Try.func65 rfl rfl rfl ?_
  refine W_seq fun _K_1 _hK_1 => ?_
  refine W_region ?_
  refine WL_s rfl rfl ?_
  refine s_box rfl fun _b1 _w_2 _m1 _cw_2 _e1 => ?_
  have _cw_2z := _cw_2.size
  have E := E.trans _cw_2
  have _z1 := _m1.lt
  replace _m1 : Blk _w_2 _b1 108 [(.int .i64 a.f), (.int .i64 a.t)] := _m1
  refine WL_s rfl rfl ?_
  refine s_alloc zr106 fun _b2 _w_3 _m2 _cw_3 _e2 => ?_
  have _cw_3z := _cw_3.size
  have E := E.trans _cw_3
  have _z2 := _m2.lt
  replace _m2 : Blk _w_3 _b2 106 [(.int .i64 0), (.int .i64 0)] := _m2
  refine WL_nil ?_
  refine thn_nrm (_hK_1 _ _ ?_)
  clear _hK_1
  refine W_seq fun _K_4 _hK_4 => ?_
  refine W_region ?_
  refine WL_s rfl rfl ?_
  refine s_alloc zr106 fun _b3 _w_5 _m3 _cw_5 _e3 => ?_
  have _cw_5z := _cw_5.size
  have E := E.trans _cw_5
  have _z3 := _m3.lt
  replace _m3 : Blk _w_5 _b3 106 [(.int .i64 0), (.int .i64 0)] := _m3
  refine WL_nil ?_
  refine thn_nrm (_hK_4 _ _ ?_)
  clear _hK_4
  refine W_seq fun _K_6 _hK_6 => ?_
  refine W_region ?_
  refine WL_step rfl rfl (r_fieldAddr fa108_0 rfl) ?_
  have _f_7 := ((_m1.ch0 _cw_3).ch0 _cw_5)
  refine WL_step rfl rfl (r_loadAt _f_7.at_ agg3 rfl rfl) ?_
  refine WL_step rfl rfl (r_fieldAddr fa106_0 rfl) ?_
  refine WL_s rfl rfl ?_
  refine s_store1 (off := 0) _m3 sz3 rfl rfl rfl rfl fun _w_8 _m_9 _cw_8 => ?_
  have _cw_8z := _cw_8.size
  have E := E.step _cw_8 (fun i hi => .inl (by have _h1 := List.mem_singleton.1 hi; omega))
  replace _m_9 : Blk _w_8 _b3 106 [(.int .i64 a.f), (.int .i64 0)] := _m_9
  refine WL_nil ?_
  refine thn_nrm (_hK_6 _ _ ?_)
  clear _hK_6
  refine W_seq fun _K_10 _hK_10 => ?_
  refine W_region ?_
  refine WL_step rfl rfl (r_fieldAddr fa108_1 rfl) ?_
  have _f_11 := (_f_7.ch _cw_8 (fun hm => by have _h1 := List.mem_singleton.1 hm; omega))
  refine WL_step rfl rfl (r_loadAt _f_11.at_ agg3 rfl rfl) ?_
  refine WL_step rfl rfl (r_fieldAddr fa106_1 rfl) ?_
  refine WL_s rfl rfl ?_
  refine s_store1 (off := 1) _m_9 sz3 rfl rfl rfl rfl fun _w_12 _m_13 _cw_12 => ?_
  have _cw_12z := _cw_12.size
  have E := E.step _cw_12 (fun i hi => .inl (by have _h1 := List.mem_singleton.1 hi; omega))
  replace _m_13 : Blk _w_12 _b3 106 [(.int .i64 a.f), (.int .i64 a.t)] := _m_13
  refine WL_nil ?_
  refine thn_nrm (_hK_10 _ _ ?_)
  clear _hK_10
  refine W_seq fun _K_14 _hK_14 => ?_
  refine W_region ?_
  refine WL_step rfl rfl (r_loadAtA0 _m_13.at_ agg106 sz106 rfl) ?_
  refine WL_s rfl rfl ?_
  have _f_15 := (((_m2.ch0 _cw_5).ch _cw_8 (fun hm => by have _h1 := List.mem_singleton.1 hm; omega)).ch _cw_12 (fun hm => by have _h1 := List.mem_singleton.1 hm; omega))
  refine s_storeA (off := 0) 2 _f_15 sz106 rfl (us := [(.int .i64 a.f), (.int .i64 a.t)]) rfl rfl rfl rfl fun _w_16 _m_17 _cw_16 => ?_
  have _cw_16z := _cw_16.size
  have E := E.step _cw_16 (fun i hi => .inl (by have _h1 := List.mem_singleton.1 hi; omega))
  replace _m_17 : Blk _w_16 _b2 106 [(.int .i64 a.f), (.int .i64 a.t)] := _m_17
  refine WL_nil ?_
  refine thn_nrm (_hK_14 _ _ ?_)
  clear _hK_14
  refine W_ret ?_
  exact ret_intro [_] (resOf_loadA _m_17 rfl agg106 sz106 trivial) ⟨by simp [packed, Pair.cs], E⟩

/-- laws.toPairS -/
theorem c_laws_toPairS {w : World} {LL_a _B_a : Nat} {_v_a : Value} {a : List Pair} (_h_a : Ls Pair.cs 2 w LL_a _B_a _v_a a) (hb : a.length ≤ 1048576) :
    Ctr Try.prog 18 #[_v_a] w (fun v w' => Ol Pair.cs 106 2 w' v (a) ∧ Lo w.heap.size v ∧ Ch [] w w') := by
  obtain ⟨_A_a, _C_a, _e1_a⟩ := _h_a.val
  subst _e1_a
  have _l_a := _h_a.len
  have _h_a := _h_a.here (by decide)
  have E := Ch.refl [] w
  refine Ctr_of_W (N := 23) (vs0 := [(.slice _A_a a.length _C_a)]) Try.func18 rfl rfl rfl ?_
  refine W_seq fun _K_1 _hK_1 => ?_
  refine W_region ?_
  refine WL_step rfl rfl (r_assign rfl) ?_
  refine WL_nil ?_
  refine thn_nrm (_hK_1 _ _ ?_)
  clear _hK_1
  refine W_seq fun _K_2 _hK_2 => ?_
  refine W_region ?_
  refine WL_step rfl rfl (r_move rfl) ?_
  refine WL_step rfl rfl (r_len (by rw [el35]; rfl) rfl) ?_
  refine WL_s rfl rfl ?_
  refine s_make (cs := Pair.cs) (⟨0, 0⟩ : Pair) el37 sz106 by106 zr106 Pair.len (by decide) rfl rfl (by omega) (by omega) fun _v7 _w_3 _q7 _lo7 _cw_3 => ?_
  have _cw_3z := _cw_3.size
  have E := E.trans _cw_3
  obtain ⟨_Av7, _Cv7, _ev7⟩ := _q7.val
  subst _ev7
  have _lv7 := _q7.len
  have _hiv7 := _q7.lt
  refine WL_step rfl rfl (r_assign rfl) ?_
  refine WL_nil ?_
  refine thn_nrm (_hK_2 _ _ ?_)
  clear _hK_2
  refine W_seq fun _K_4 _hK_4 => ?_
  refine W_seq fun _K_5 _hK_5 => ?_
  refine W_region ?_
  refine WL_step rfl rfl (r_assign rfl) ?_
  refine WL_nil ?_
  refine thn_nrm (_hK_5 _ _ ?_)
  clear _hK_5
  refine W_block ?_
  have _oi_6 : Ol Pair.cs 106 2 _w_3 (.slice _Av7 ((List.replicate a.length (⟨0, 0⟩ : Pair))).length _Cv7) (a.take 0 ++ List.replicate (a.length - 0) (⟨0, 0⟩ : Pair)) := by
    have hx := _q7
    simpa using hx
  refine W_loop (σ := Nat) (fun (k : Nat) => [(0, (.slice _A_a a.length _C_a)), (2, (.slice none 0 0)), (3, (.slice _Av7 ((List.replicate a.length (⟨0, 0⟩ : Pair))).length _Cv7)), (4, (.int .i64 ((k : Nat) : Int)))]) (fun (k : Nat) wx => Ch [] w wx ∧ _w_3.heap.size ≤ wx.heap.size ∧ (k ≤ a.length) ∧ Ol Pair.cs 106 2 wx (.slice _Av7 ((List.replicate a.length (⟨0, 0⟩ : Pair))).length _Cv7) (a.take k ++ List.replicate (a.length - k) (⟨0, 0⟩ : Pair))) (fun (k : Nat) => a.length - k) 0 (Sub.cons rfl (Sub.cons rfl (Sub.cons rfl (Sub.cons rfl (Sub.nil _))))) ⟨E, (Nat.le_refl _), (by omega), _oi_6⟩ ?_
  rintro k _wr_7 ⟨E, _zz0, _hk, _o0_3⟩
  have _E0h := E
  have _E0hz := _E0h.size
  refine W_seq fun _K_8 _hK_8 => ?_
  refine W_seq fun _K_9 _hK_9 => ?_
  refine W_region ?_
  refine WL_step rfl rfl (r_move rfl) ?_
  refine WL_step rfl rfl (r_move rfl) ?_
  refine WL_step rfl rfl (r_len (by rw [el35]; rfl) rfl) ?_
  refine WL_step rfl rfl (r_lss rfl rfl) ?_
  refine WL_nil ?_
  refine thn_nrm (_hK_9 _ _ ?_)
  clear _hK_9
  refine W_cond rfl (fun _h11 => ?_) (fun _h11 => ?_)
  · have _kb_10 := _h11
    have _h11 := bt_d _h11
    refine W_skip ?_
    refine thn_nrm (_hK_8 _ _ ?_)
    clear _hK_8
    refine W_seq fun _K_11 _hK_11 => ?_
    refine W_block ?_
    refine W_region ?_
    refine WL_step rfl rfl (r_move rfl) ?_
    refine WL_step rfl rfl (r_move rfl) ?_
    refine WL_step rfl rfl (r_move rfl) ?_
    refine WL_step rfl rfl (r_move rfl) ?_
    refine WL_s rfl rfl ?_
    have _f_12 := (_h_a.ch0 _E0h)
    refine (s_index _f_12 Pair.len el35 sz108 rfl rfl rfl (by omega) fun _p18 _y18 _hy18 _a18 => ?_)
    refine WL_step rfl rfl (r_loadAtA0 _a18 agg108 sz108 rfl) ?_
    refine WL_s rfl rfl ?_
    refine Step.call (r_call (xs := [.tmp 19]) fk65 rfl) (c_laws_toPair _y18 ) fun _v20 _w_13 _q20 => ?_
    obtain ⟨rfl, _cw_13⟩ := _q20
    have _cw_13z := _cw_13.size
    have E := E.trans _cw_13
    refine WL_s rfl rfl ?_
    have _f_14 := (_o0_3.ch0 _cw_13)
    refine s_indexO (j := k) _f_14 el37 sz106 rfl rfl rfl (by simp; omega) fun _g21 _o21 _cp21 _q21 => ?_
    refine WL_s rfl rfl ?_
    refine s_storeO (j := k) _y18 _f_14 _q21 Pair.len sz106 rfl rfl rfl rfl (by simp; omega) fun _w_15 _o_16 _cw_15 => ?_
    have _cw_15z := _cw_15.size
    have E := E.step _cw_15 (fun i hi => .inl (by have _h1 := _lo7 _ hi; omega))
    refine WL_nil ?_
    refine inB_nrm ?_
    refine thn_nrm (_hK_11 _ _ ?_)
    clear _hK_11
    refine W_region ?_
    refine WL_step rfl rfl (r_move rfl) ?_
    refine WL_step rfl rfl (r_add (by omega) rfl rfl) ?_
    refine WL_step rfl rfl (r_assign rfl) ?_
    refine WL_nil ?_
    have _on_17 : Ol Pair.cs 106 2 _w_15 (.slice _Av7 ((List.replicate a.length (⟨0, 0⟩ : Pair))).length _Cv7) (a.take (k + 1) ++ List.replicate (a.length - (k + 1)) (⟨0, 0⟩ : Pair)) := by
      have hx := _o_16
      rwa [fill_step a (⟨0, 0⟩ : Pair) _hy18] at hx
    exact thn_nrm (Exists.intro (k + 1) ⟨⟨E, (by omega), (by omega), _on_17⟩, Sub.cons rfl (Sub.cons rfl (Sub.cons rfl (Sub.cons rfl (Sub.nil _)))), (by first | omega | (dsimp only; omega))⟩)
  · have _kb_10 := _h11
    have _h11 := bf_d _h11
    refine W_exit (thn_exit (thn_exit (inB_hit ?_)))
    refine thn_nrm (_hK_4 _ _ ?_)
    clear _hK_4
    refine W_seq fun _K_18 _hK_18 => ?_
    refine W_region ?_
    refine WL_step rfl rfl (r_move rfl) ?_
    refine WL_step rfl rfl (r_assign rfl) ?_
    refine WL_nil ?_
    refine thn_nrm (_hK_18 _ _ ?_)
    clear _hK_18
    refine W_ret ?_
    clear _hK_8
    have _o_19 : Ol Pair.cs 106 2 _wr_7 (.slice _Av7 ((List.replicate a.length (⟨0, 0⟩ : Pair))).length _Cv7) (a) := by
      have hx := _o0_3
      simpa [List.take_of_length_le (show a.length ≤ k by omega), show a.length - k = 0 by omega] using hx
    exact ret_intro [_] ⟨rfl, trivial⟩ ⟨_o_19, Lo.down _lo7 (by omega), E⟩

/-- spec.l15Less -/
theorem c_spec_l15Less {w : World} (a : Pair) (b : Pair) :
    Ctr Try.prog 120 #[(.agg #[(.int .i64 a.f), (.int .i64 a.t)]), (.agg #[(.int .i64 b.f), (.int .i64 b.t)])] w (fun v w' => v = .bool (tt (lessP a b)) ∧ Ch [] w w') := by
  have E := Ch.refl [] w
  refine Ctr_of_W (N := 24) (vs0 := [(.agg #[(.int .i64 a.f), (.int .i64 a.t)]), (.agg #[(.int .i64 b.f), (.int .i64 b.t)])]) Try.func120 rfl rfl rfl ?_
  refine W_seq fun _K_1 _hK_1 => ?_
  refine W_region ?_
  refine WL_s rfl rfl ?_
  refine s_box rfl fun _b2 _w_2 _m2 _cw_2 _e2 => ?_
  have _cw_2z := _cw_2.size
  have E := E.trans _cw_2
  have _z2 := _m2.lt
  replace _m2 : Blk _w_2 _b2 106 [(.int .i64 a.f), (.int .i64 a.t)] := _m2
  refine WL_s rfl rfl ?_
  refine s_box rfl fun _b3 _w_3 _m3 _cw_3 _e3 => ?_
  have _cw_3z := _cw_3.size
  have E := E.trans _cw_3
  have _z3 := _m3.lt
  replace _m3 : Blk _w_3 _b3 106 [(.int .i64 b.f), (.int .i64 b.t)] := _m3
  refine WL_step rfl rfl (r_assign rfl) ?_
  refine WL_nil ?_
  refine thn_nrm (_hK_1 _ _ ?_)
  clear _hK_1
  refine W_seq fun _K_4 _hK_4 => ?_
  refine W_region ?_
  refine WL_step rfl rfl (r_fieldAddr fa106_0 rfl) ?_
  have _f_5 := (_m2.ch0 _cw_3)
  refine WL_step rfl rfl (r_loadAt _f_5.at_ agg3 rfl rfl) ?_
  refine WL_step rfl rfl (r_fieldAddr fa106_0 rfl) ?_
  refine WL_step rfl rfl (r_loadAt _m3.at_ agg3 rfl rfl) ?_
  refine WL_step rfl rfl (r_lss rfl rfl) ?_
  refine WL_step rfl rfl (r_move rfl) ?_
  refine WL_split (d := 10) rfl (fun _h10 => ?_) (fun _h10 => ?_)
  · have _kb_6 := _h10
    have _h10 := bt_d _h10
    refine WL_skip rfl rfl ?_
    refine WL_skip rfl rfl ?_
    refine WL_skip rfl rfl ?_
    refine WL_skip rfl rfl ?_
    refine WL_skip rfl rfl ?_
    refine WL_skip rfl rfl ?_
    refine WL_skip rfl rfl ?_
    refine WL_skip rfl rfl ?_
    refine WL_skip rfl rfl ?_
    refine WL_skip rfl rfl ?_
    refine WL_skip rfl rfl ?_
    refine WL_skip rfl rfl ?_
    refine WL_step rfl rfl (r_pickT rfl rfl) ?_
    refine WL_step rfl rfl (r_assign rfl) ?_
    refine WL_nil ?_
    refine thn_nrm (_hK_4 _ _ ?_)
    clear _hK_4
    refine W_ret ?_
    exact ret_intro [_] ⟨rfl, trivial⟩ ⟨congrArg Value.bool (by first | exact tt_true (.inl _h10) | exact tt_false (by unfold lessP; omega) | (rw [tt_dec]; exact tt_eq (by unfold lessP; omega))), E⟩
  · have _kb_6 := _h10
    have _h10 := bf_d _h10
    refine WL_step rfl rfl (r_fieldAddr fa106_0 rfl) ?_
    refine WL_step rfl rfl (r_loadAt _f_5.at_ agg3 rfl rfl) ?_
    refine WL_step rfl rfl (r_fieldAddr fa106_0 rfl) ?_
    refine WL_step rfl rfl (r_loadAt _m3.at_ agg3 rfl rfl) ?_
    refine WL_step rfl rfl (r_eql rfl rfl) ?_
    refine WL_step rfl rfl (r_move rfl) ?_
    refine WL_split (d := 16) rfl (fun _h16 => ?_) (fun _h16 => ?_)
    · have _kb_7 := _h16
      have _h16 := bt_d _h16
      refine WL_step rfl rfl (r_fieldAddr fa106_1 rfl) ?_
      refine WL_step rfl rfl (r_loadAt _f_5.at_ agg3 rfl rfl) ?_
      refine WL_step rfl rfl (r_fieldAddr fa106_1 rfl) ?_
      refine WL_step rfl rfl (r_loadAt _m3.at_ agg3 rfl rfl) ?_
      refine WL_step rfl rfl (r_lss rfl rfl) ?_
      refine WL_step rfl rfl (r_pickT rfl rfl) ?_
      refine WL_step rfl rfl (r_pickF rfl rfl) ?_
      refine WL_step rfl rfl (r_assign rfl) ?_
      refine WL_nil ?_
      refine thn_nrm (_hK_4 _ _ ?_)
      clear _hK_4
      refine W_ret ?_
      exact ret_intro [_] ⟨rfl, trivial⟩ ⟨congrArg Value.bool (by first | exact tt_true (.inl _h10) | exact tt_false (by unfold lessP; omega) | (rw [tt_dec]; exact tt_eq (by unfold lessP; omega))), E⟩
    · have _kb_7 := _h16
      have _h16 := bf_d _h16
      refine WL_skip rfl rfl ?_
      refine WL_skip rfl rfl ?_
      refine WL_skip rfl rfl ?_
      refine WL_skip rfl rfl ?_
      refine WL_skip rfl rfl ?_
      refine WL_step rfl rfl (r_pickF rfl rfl) ?_
      refine WL_step rfl rfl (r_pickF rfl rfl) ?_
      refine WL_step rfl rfl (r_assign rfl) ?_
      refine WL_nil ?_
      refine thn_nrm (_hK_4 _ _ ?_)
      clear _hK_4
      refine W_ret ?_
      exact ret_intro [_] ⟨rfl, trivial⟩ ⟨congrArg Value.bool (by first | exact tt_true (.inl _h10) | exact tt_false (by unfold lessP; omega) | (rw [tt_dec]; exact tt_eq (by unfold lessP; omega))), E⟩

/-- spec.l15Put -/
theorem c_spec_l15Put {w : World} {_v_l : Value} {l : List Pair} (_h_l : Ol Pair.cs 106 2 w _v_l l) (p : Pair) (hs : SrtP l) (hb : l.length ≤ 4194304) :
    Ctr Try.prog 64 #[_v_l, (.agg #[(.int .i64 p.f), (.int .i64 p.t)])] w (fun v w' => Ol Pair.cs 106 2 w' v (putP l p) ∧ (bl v = bl _v_l ∨ Lo w.heap.size v) ∧ Ch [] w w') := by
  obtain ⟨_A_l, _C_l, _e1_l⟩ := _h_l.val
  subst _e1_l
  have _l_l := _h_l.len
  have _lt_l := _h_l.lt
  have E := Ch.refl [] w
  refine Ctr_of_W (N := 45) (vs0 := [(.slice _A_l l.length _C_l), (.agg #[(.int .i64 p.f), (.int .i64 p.t)])]) Try.func64 rfl rfl rfl ?_
  refine W_seq fun _K_1 _hK_1 => ?_
  refine W_region ?_
  refine WL_s rfl rfl ?_
  refine s_box rfl fun _b3 _w_2 _m3 _cw_2 _e3 => ?_
  have _cw_2z := _cw_2.size
  have E := E.trans _cw_2
  have _z3 := _m3.lt
  replace _m3 : Blk _w_2 _b3 106 [(.int .i64 p.f), (.int .i64 p.t)] := _m3
  refine WL_step rfl rfl (r_assign rfl) ?_
  refine WL_nil ?_
  refine thn_nrm (_hK_1 _ _ ?_)
  clear _hK_1
  refine W_seq fun _K_3 _hK_3 => ?_
  refine W_region ?_
  refine WL_step rfl rfl (r_assign rfl) ?_
  refine WL_nil ?_
  refine thn_nrm (_hK_3 _ _ ?_)
  clear _hK_3
  refine W_seq fun _K_4 _hK_4 => ?_
  refine W_block ?_
  refine W_loop (σ := Nat) (fun (k : Nat) => [(0, (.slice _A_l l.length _C_l)), (3, (.pointer (some ⟨_b3, 0, none⟩))), (4, (.slice none 0 0)), (5, (.int .i64 ((k : Nat) : Int)))]) (fun (k : Nat) wx => Ch [] w wx ∧ _w_2.heap.size ≤ wx.heap.size ∧ (k ≤ l.length) ∧ (∀ i x, i < k → l[i]? = some x → lessP x p) ∧ Blk wx _b3 106 [(.int .i64 p.f), (.int .i64 p.t)]) (fun (k : Nat) => l.length - k) 0 (Sub.cons rfl (Sub.cons rfl (Sub.cons rfl (Sub.cons rfl (Sub.nil _))))) ⟨E, (Nat.le_refl _), (by omega), (fun _ _ h => absurd h (by omega)), _m3⟩ ?_
  rintro k _wr_5 ⟨E, _zz0, _hk, _ht, _F0_1⟩
  have _E0h := E
  have _E0hz := _E0h.size
  have _F0_1z := _F0_1.lt
  refine W_seq fun _K_6 _hK_6 => ?_
  refine W_seq fun _K_7 _hK_7 => ?_
  refine W_drawC [] 12 mixed rfl fun _w_8 _cw_8 => ?_
  have _cw_8z := _cw_8.size
  have E := E.trans _cw_8
  refine DR_s 0 rfl (by kernel_rfl) rfl rfl (t_v (fun _ => (r_move rfl)) ?_)
  refine DR_s 1 rfl (by kernel_rfl) rfl rfl (t_v (fun _ => (r_move rfl)) ?_)
  refine DR_s 2 rfl (by kernel_rfl) rfl rfl (t_v (fun _ => (r_len (by rw [el37]; rfl) rfl)) ?_)
  refine DR_s 3 rfl (by kernel_rfl) rfl rfl (t_v (fun _ => (r_lss rfl rfl)) ?_)
  refine DR_s 4 rfl (by kernel_rfl) rfl rfl (t_v (fun _ => (r_move rfl)) ?_)
  refine DR_split (d := 10) rfl (fun _h10 => ?_) (fun _h10 => ?_)
  · have _kb_9 := _h10
    have _h10 := bt_d _h10
    refine DR_s 5 rfl (by kernel_rfl) rfl rfl (t_v (fun _ => (r_move rfl)) ?_)
    refine DR_s 6 rfl (by kernel_rfl) rfl rfl (t_v (fun _ => (r_move rfl)) ?_)
    have _f_10 := ((_h_l.ch0 _E0h).ch0 _cw_8)
    refine DR_s 7 rfl (by kernel_rfl) rfl rfl (t_index _f_10.ls Pair.len el37 sz106 rfl rfl rfl (by omega) fun _p13 _y13 _hy13 _a13 => ?_)
    refine DR_s 8 rfl (by kernel_rfl) rfl rfl (t_loadAtA0 _a13 (fun i hi => absurd hi List.not_mem_nil) agg106 sz106 rfl ?_)
    have _f_11 := (_F0_1.ch0 _cw_8)
    refine DR_s 9 rfl (by kernel_rfl) rfl rfl (t_loadAtA0 _f_11.at_ (fun i hi => absurd hi List.not_mem_nil) agg106 sz106 rfl ?_)
    refine DR_one 10 (by kernel_rfl) ?_
    refine DO_s rfl rfl rfl ?_
    refine Step.call (r_call (xs := [.tmp 14, .tmp 15]) fk120 rfl) (c_spec_l15Less _y13 p ) fun _v16 _w_12 _q16 => ?_
    obtain ⟨rfl, _cw_12⟩ := _q16
    have _cw_12z := _cw_12.size
    have E := E.trans _cw_12
    have _S_13 : Ch [] _w_8 _w_12 := ((Ch.refl _ _).trans _cw_12)
    refine ⟨_S_13, ?_⟩
    refine DR_s 11 rfl (by kernel_rfl) rfl rfl (t_v (fun _ => (r_pickT rfl rfl)) ?_)
    refine DR_done (by kernel_rfl) ?_
    refine thn_nrm (_hK_7 _ _ ?_)
    clear _hK_7
    refine W_cond rfl (fun _h17 => ?_) (fun _h17 => ?_)
    · have _kb_14 := _h17
      have _h17 := bt_t _h17
      refine W_skip ?_
      refine thn_nrm (_hK_6 _ _ ?_)
      clear _hK_6
      refine W_block ?_
      refine W_region ?_
      refine WL_step rfl rfl (r_move rfl) ?_
      refine WL_step rfl rfl (r_add (by omega) rfl rfl) ?_
      refine WL_step rfl rfl (r_assign rfl) ?_
      refine WL_nil ?_
      refine inB_nrm ?_
      have _f_15 := (_f_11.ch0 _cw_12)
      exact thn_nrm (Exists.intro (k + 1) ⟨⟨E, (by omega), (by omega), (pl_step _ht _hy13 _h17), _f_15⟩, Sub.cons rfl (Sub.cons rfl (Sub.cons rfl (Sub.cons rfl (Sub.nil _)))), (by first | omega | (dsimp only; omega))⟩)
    · have _kb_14 := _h17
      have _h17 := bf_t _h17
      refine W_exit (thn_exit (thn_exit (inB_hit ?_)))
      refine thn_nrm (_hK_4 _ _ ?_)
      clear _hK_4
      refine W_seq fun _K_16 _hK_16 => ?_
      refine W_seq fun _K_17 _hK_17 => ?_
      refine W_drawC [] 12 mixed rfl fun _w_18 _cw_18 => ?_
      have _cw_18z := _cw_18.size
      have E := E.trans _cw_18
      refine DR_s 0 rfl (by kernel_rfl) rfl rfl (t_v (fun _ => (r_move rfl)) ?_)
      refine DR_s 1 rfl (by kernel_rfl) rfl rfl (t_v (fun _ => (r_move rfl)) ?_)
      refine DR_s 2 rfl (by kernel_rfl) rfl rfl (t_v (fun _ => (r_len (by rw [el37]; rfl) rfl)) ?_)
      refine DR_s 3 rfl (by kernel_rfl) rfl rfl (t_v (fun _ => (r_lss rfl rfl)) ?_)
      refine DR_s 4 rfl (by kernel_rfl) rfl rfl (t_v (fun _ => (r_move rfl)) ?_)
      refine DR_splitT (d := 24) rfl _kb_9 ?_
      refine DR_s 5 rfl (by kernel_rfl) rfl rfl (t_v (fun _ => (r_move rfl)) ?_)
      refine DR_s 6 rfl (by kernel_rfl) rfl rfl (t_v (fun _ => (r_move rfl)) ?_)
      have _f_19 := ((_f_10.ch0 _cw_12).ch0 _cw_18)
      refine DR_s 7 rfl (by kernel_rfl) rfl rfl (t_index _f_19.ls Pair.len el37 sz106 rfl rfl rfl (by omega) fun _p27 _y27 _hy27 _a27 => ?_)
      refine DR_s 8 rfl (by kernel_rfl) rfl rfl (t_loadAtA0 _a27 (fun i hi => absurd hi List.not_mem_nil) agg106 sz106 rfl ?_)
      have _f_20 := ((_f_11.ch0 _cw_12).ch0 _cw_18)
      refine DR_s 9 rfl (by kernel_rfl) rfl rfl (t_loadAtA0 _f_20.at_ (fun i hi => absurd hi List.not_mem_nil) agg106 sz106 rfl ?_)
      refine DR_s 10 rfl (by kernel_rfl) rfl rfl (t_v (fun _ => (r_eqlI [_y27.f, _y27.t] [p.f, p.t] ist106 rfl rfl rfl)) ?_)
      refine DR_s 11 rfl (by kernel_rfl) rfl rfl (t_v (fun _ => (r_pickT rfl rfl)) ?_)
      refine DR_done (by kernel_rfl) ?_
      refine thn_nrm (_hK_17 _ _ ?_)
      clear _hK_17
      refine W_cond rfl (fun _h31 => ?_) (fun _h31 => ?_)
      · have _kb_21 := _h31
        have _h31 := bt_d _h31
        refine W_seq fun _K_22 _hK_22 => ?_
        refine W_region ?_
        refine WL_step rfl rfl (r_move rfl) ?_
        refine WL_step rfl rfl (r_assign rfl) ?_
        refine WL_nil ?_
        refine thn_nrm (_hK_22 _ _ ?_)
        clear _hK_22
        refine W_ret (thn_ret ?_)
        clear _hK_6 _hK_16
        have _o_23 : Ol Pair.cs 106 2 _w_18 (.slice _A_l l.length _C_l) (putP l p) := by
          have hx := _f_19
          first | (rw [put_same hs (by rw [_hy27, Pair.inj _h31])]; exact hx) | (rw [put_at _hk _ht (fun x hx2 => by rw [_hy27] at hx2; injection hx2 with hx2; subst hx2; exact ⟨fun e => _h31 (by rw [e]), by have _u9 := get_uniq _hy13 _hy27; rw [← _u9]; exact _h17⟩)]; exact hx) | (rw [put_at _hk _ht (fun x hx2 => by rw [List.getElem?_eq_none (by omega)] at hx2; cases hx2)]; exact hx)
        exact ret_intro [_] ⟨rfl, trivial⟩ ⟨_o_23, .inl rfl, E⟩
      · have _kb_21 := _h31
        have _h31 := bf_d _h31
        refine W_skip ?_
        refine thn_nrm (_hK_16 _ _ ?_)
        clear _hK_16
        refine W_seq fun _K_24 _hK_24 => ?_
        have _J_26 : ∀ (lj : KL) (_wj_25 : World) (ju4 : Value), Go.KLib.Sub [(4, ju4)] lj → Ch [] _w_18 _wj_25 → Ol Pair.cs 106 2 _wj_25 ju4 (((l.take k) ++ [p]) ++ (l.drop k)) → Lo _w_18.heap.size ju4 → _K_24 lj _wj_25 := by
          intro lj _wj_25 ju4 _jsub _cjK_24 _qju4 _loju4
          refine _hK_24 _ _ (W_sub _jsub ?_)
          clear _hK_24
          have _cjK_24z := _cjK_24.size
          have E := E.trans _cjK_24
          obtain ⟨_Aju4, _Cju4, _eju4⟩ := _qju4.val
          subst _eju4
          have _lju4 := _qju4.len
          have _hiju4 := _qju4.lt
          refine W_ret ?_
          clear _hK_6
          have _o_27 : Ol Pair.cs 106 2 _wj_25 (.slice _Aju4 ((((l.take k) ++ [p]) ++ (l.drop k))).length _Cju4) (putP l p) := by
            have hx := _qju4
            first | (rw [put_same hs (by rw [_hy27, Pair.inj _h31])]; exact hx) | (rw [put_at _hk _ht (fun x hx2 => by rw [_hy27] at hx2; injection hx2 with hx2; subst hx2; exact ⟨fun e => _h31 (by rw [e]), by have _u9 := get_uniq _hy13 _hy27; rw [← _u9]; exact _h17⟩)]; exact hx) | (rw [put_at _hk _ht (fun x hx2 => by rw [List.getElem?_eq_none (by omega)] at hx2; cases hx2)]; exact hx)
          exact ret_intro [_] ⟨rfl, trivial⟩ ⟨_o_27, .inr (Lo.down _loju4 (by omega)), E⟩
        clear _hK_24
        refine W_drawC [] 13 mixed rfl fun _w_28 _cw_28 => ?_
        have _cw_28z := _cw_28.size
        have E := E.trans _cw_28
        refine DR_s 1 rfl (by kernel_rfl) rfl rfl (t_v (fun _ => (r_move rfl)) ?_)
        refine DR_s 2 rfl (by kernel_rfl) rfl rfl (t_v (fun _ => (r_move rfl)) ?_)
        have _f_29 := (_f_19.ch0 _cw_28)
        refine DR_s 3 rfl (by kernel_rfl) rfl rfl (t_cutO (ys := (l.take k)) 0 k _f_29 Pair.len el37 sz106 rfl rfl ⟨_, _, rfl, by omega⟩ (by omega) (by omega) rfl fun _v36 _q36 _bb36 _ln36 => ?_)
        obtain ⟨_A36, _C36, _e36⟩ := _q36.val
        subst _e36
        have _l36 := _q36.len
        have hi36 := _q36.lt
        have _f_30 := (_f_20.ch0 _cw_28)
        refine DR_s 5 rfl (by kernel_rfl) rfl rfl (t_loadAtA0 _f_30.at_ (fun i hi => absurd hi List.not_mem_nil) agg106 sz106 rfl ?_)
        refine DR_s 8 rfl (by kernel_rfl) rfl rfl (t_v (fun _ => (r_move rfl)) ?_)
        refine DR_s 9 rfl (by kernel_rfl) rfl rfl (t_v (fun _ => (r_move rfl)) ?_)
        refine DR_s 10 rfl (by kernel_rfl) rfl rfl (t_cutO (ys := (l.drop k)) k l.length _f_29 Pair.len el37 sz106 rfl ⟨_, _, rfl, by omega⟩ rfl (by omega) (by omega) (cut_all _ _) fun _v43 _q43 _bb43 _ln43 => ?_)
        obtain ⟨_A43, _C43, _e43⟩ := _q43.val
        subst _e43
        have _l43 := _q43.len
        have hi43 := _q43.lt
        refine DR_two 0 6 (by kernel_rfl) ?_ ?_
        · refine DO_s rfl rfl rfl ?_
          refine s_buildSlice0 (k := 2) Pair.cs el37 sz106 fun _v33 _w_31 _q33 _lo33 _cw_31 => ?_
          have _cw_31z := _cw_31.size
          have E := E.trans _cw_31
          obtain ⟨_Av33, _Cv33, _ev33⟩ := _q33.val
          subst _ev33
          have _lv33 := _q33.len
          have _hiv33 := _q33.lt
          have _S_32 : Ch [] _w_28 _w_31 := ((Ch.refl _ _).trans _cw_31)
          refine ⟨_S_32, ?_⟩
          refine DR_two 4 6 (by kernel_rfl) ?_ ?_
          · refine DO_s rfl rfl rfl ?_
            have _f_34 := (_q36.ch0 _cw_31)
            refine s_append (cs := Pair.cs) el37 sz106 by106 zr106 rfl (by decide) Pair.one _q33 _f_34.ls rfl rfl (by first | omega | (simp only [List.length_append, List.length_nil, List.length_cons, List.length_replicate, List.length_set, List.length_reverse, List.length_map] at *; omega) | (simp at *; omega)) (by first | omega | (simp only [List.length_append, List.length_nil, List.length_cons, List.length_replicate, List.length_set, List.length_reverse, List.length_map] at *; omega) | (simp at *; omega)) _lo33 (by omega) fun _v37 _w_33 _q37 _lo37 _ap37 _cw_33 => ?_
            have _cw_33z := _cw_33.size
            have E := E.step _cw_33 (fun i hi => .inl (by have _h1 := _lo33 _ hi; omega))
            replace _q37 : Ol Pair.cs 106 2 _w_33 _v37 (l.take k) := _q37
            obtain ⟨_Av37, _Cv37, _ev37⟩ := _q37.val
            subst _ev37
            have _lv37 := _q37.len
            have _hiv37 := _q37.lt
            have _S_35 : Ch [] _w_28 _w_33 := (_S_32.step _cw_33 (fun i hm => by left; have _h1 := _lo33 _ hm; have _h2 := _hiv33 _ hm; omega))
            refine ⟨_S_35, ?_⟩
            refine DR_one 6 (by kernel_rfl) ?_
            refine DO_s rfl rfl rfl ?_
            refine s_buildSlice (cs := Pair.cs) (parts := [(0, .tmp 38)]) (⟨0, 0⟩ : Pair) [p] el37 sz106 zr106 Pair.len (by decide) rfl rfl rfl (by decide) (by decide) rfl fun _v39 _w_36 _q39 _lo39 _cw_36 => ?_
            have _cw_36z := _cw_36.size
            have E := E.trans _cw_36
            obtain ⟨_Av39, _Cv39, _ev39⟩ := _q39.val
            subst _ev39
            have _lv39 := _q39.len
            have _hiv39 := _q39.lt
            have _S_37 : Ch [] _w_28 _w_36 := (_S_35.trans _cw_36)
            refine ⟨_S_37, ?_⟩
            refine DR_one 7 (by kernel_rfl) ?_
            refine DO_s rfl rfl rfl ?_
            have _f_39 := (_q37.ch0 _cw_36)
            refine s_append (cs := Pair.cs) el37 sz106 by106 zr106 rfl (by decide) Pair.one _f_39 _q39.ls rfl rfl (by first | omega | (simp only [List.length_append, List.length_nil, List.length_cons, List.length_replicate, List.length_set, List.length_reverse, List.length_map] at *; omega) | (simp at *; omega)) (by first | omega | (simp only [List.length_append, List.length_nil, List.length_cons, List.length_replicate, List.length_set, List.length_reverse, List.length_map] at *; omega) | (simp at *; omega)) _lo37 (by omega) fun _v40 _w_38 _q40 _lo40 _ap40 _cw_38 => ?_
            have _cw_38z := _cw_38.size
            have E := E.step _cw_38 (fun i hi => .inl (by have _h1 := _lo37 _ hi; omega))
            obtain ⟨_Av40, _Cv40, _ev40⟩ := _q40.val
            subst _ev40
            have _lv40 := _q40.len
            have _hiv40 := _q40.lt
            have _S_40 : Ch [] _w_28 _w_38 := (_S_37.step _cw_38 (fun i hm => by rcases _ap37 with ea | ea; (rw [ea] at hm; left; have _h1 := _lo33 _ hm; have _h2 := _hiv33 _ hm; omega); (rw [ea] at hm; have _z1 := List.mem_singleton.1 hm; left; omega)))
            refine ⟨_S_40, ?_⟩
            refine DR_one 11 (by kernel_rfl) ?_
            refine DO_s rfl rfl rfl ?_
            have _f_42 := ((((_q43.ch0 _cw_31).ch _cw_33 (fun g hg hm => by rw [_bb43] at hg; have _h1 := _lo33 _ hm; have _h2 := _hiv33 _ hm; have _h3 := _lt_l _ hg; have _h4 := _lt_l _ hg; omega)).ch0 _cw_36).ch _cw_38 (fun g hg hm => by rcases _ap37 with ea | ea; (rw [ea] at hm; rw [_bb43] at hg; have _h1 := _lo33 _ hm; have _h2 := _hiv33 _ hm; have _h3 := _lt_l _ hg; have _h4 := _lt_l _ hg; omega); (rw [ea] at hm; have _z1 := List.mem_singleton.1 hm; rw [_bb43] at hg; have _h3 := _lt_l _ hg; have _h4 := _lt_l _ hg; omega)))
            refine s_append (cs := Pair.cs) el37 sz106 by106 zr106 rfl (by decide) Pair.one _q40 _f_42.ls rfl rfl (by first | omega | (simp only [List.length_append, List.length_nil, List.length_cons, List.length_replicate, List.length_set, List.length_reverse, List.length_map] at *; omega) | (simp at *; omega)) (by first | omega | (simp only [List.length_append, List.length_nil, List.length_cons, List.length_replicate, List.length_set, List.length_reverse, List.length_map] at *; omega) | (simp at *; omega)) _lo40 (by omega) fun _v44 _w_41 _q44 _lo44 _ap44 _cw_41 => ?_
            have _cw_41z := _cw_41.size
            have E := E.step _cw_41 (fun i hi => .inl (by have _h1 := _lo40 _ hi; omega))
            obtain ⟨_Av44, _Cv44, _ev44⟩ := _q44.val
            subst _ev44
            have _lv44 := _q44.len
            have _hiv44 := _q44.lt
            have _S_43 : Ch [] _w_28 _w_41 := (_S_40.step _cw_41 (fun i hm => by rcases _ap40 with ea | ea; (rw [ea] at hm; rcases _ap37 with ea | ea; (rw [ea] at hm; left; have _h1 := _lo33 _ hm; have _h2 := _hiv33 _ hm; omega); (rw [ea] at hm; have _z1 := List.mem_singleton.1 hm; left; omega)); (rw [ea] at hm; have _z1 := List.mem_singleton.1 hm; left; omega)))
            refine ⟨_S_43, ?_⟩
            refine DR_s 12 rfl (by kernel_rfl) rfl rfl (t_v (fun _ => (r_assign rfl)) ?_)
            refine DR_done (by kernel_rfl) ?_
            refine thn_nrm ?_
            exact _J_26 _ _ (.slice _Av44 ((((l.take k) ++ [p]) ++ (l.drop k))).length _Cv44) (Sub.cons rfl (Sub.nil _)) (((((((Ch.refl [] _w_18).trans _cw_28).trans _cw_31).step _cw_33 (fun i hi => .inl (by have _h1 := _lo33 _ hi; omega))).trans _cw_36).step _cw_38 (fun i hi => .inl (by have _h1 := _lo37 _ hi; omega))).step _cw_41 (fun i hi => .inl (by have _h1 := _lo40 _ hi; omega))) _q44 (Lo.down _lo44 (by omega))
          · refine DO_s rfl rfl rfl ?_
            refine s_buildSlice (cs := Pair.cs) (parts := [(0, .tmp 38)]) (⟨0, 0⟩ : Pair) [p] el37 sz106 zr106 Pair.len (by decide) rfl rfl rfl (by decide) (by decide) rfl fun _v39 _w_44 _q39 _lo39 _cw_44 => ?_
            have _cw_44z := _cw_44.size
            have E := E.trans _cw_44
            obtain ⟨_Av39, _Cv39, _ev39⟩ := _q39.val
            subst _ev39
            have _lv39 := _q39.len
            have _hiv39 := _q39.lt
            have _S_45 : Ch [] _w_28 _w_44 := (_S_32.trans _cw_44)
            refine ⟨_S_45, ?_⟩
            refine DR_one 4 (by kernel_rfl) ?_
            refine DO_s rfl rfl rfl ?_
            have _f_47 := (_q33.ch0 _cw_44)
            have _f_48 := ((_q36.ch0 _cw_31).ch0 _cw_44)
            refine s_append (cs := Pair.cs) el37 sz106 by106 zr106 rfl (by decide) Pair.one _f_47 _f_48.ls rfl rfl (by first | omega | (simp only [List.length_append, List.length_nil, List.length_cons, List.length_replicate, List.length_set, List.length_reverse, List.length_map] at *; omega) | (simp at *; omega)) (by first | omega | (simp only [List.length_append, List.length_nil, List.length_cons, List.length_replicate, List.length_set, List.length_reverse, List.length_map] at *; omega) | (simp at *; omega)) _lo33 (by omega) fun _v37 _w_46 _q37 _lo37 _ap37 _cw_46 => ?_
            have _cw_46z := _cw_46.size
            have E := E.step _cw_46 (fun i hi => .inl (by have _h1 := _lo33 _ hi; omega))
            replace _q37 : Ol Pair.cs 106 2 _w_46 _v37 (l.take k) := _q37
            obtain ⟨_Av37, _Cv37, _ev37⟩ := _q37.val
            subst _ev37
            have _lv37 := _q37.len
            have _hiv37 := _q37.lt
            have _S_49 : Ch [] _w_28 _w_46 := (_S_45.step _cw_46 (fun i hm => by left; have _h1 := _lo33 _ hm; have _h2 := _hiv33 _ hm; omega))
            refine ⟨_S_49, ?_⟩
            refine DR_one 7 (by kernel_rfl) ?_
            refine DO_s rfl rfl rfl ?_
            have _f_51 := (_q39.ch _cw_46 (fun g hg hm => by have _h1 := _lo33 _ hm; have _h2 := _hiv33 _ hm; have _h3 := _lo39 _ hg; have _h4 := _hiv39 _ hg; omega))
            refine s_append (cs := Pair.cs) el37 sz106 by106 zr106 rfl (by decide) Pair.one _q37 _f_51.ls rfl rfl (by first | omega | (simp only [List.length_append, List.length_nil, List.length_cons, List.length_replicate, List.length_set, List.length_reverse, List.length_map] at *; omega) | (simp at *; omega)) (by first | omega | (simp only [List.length_append, List.length_nil, List.length_cons, List.length_replicate, List.length_set, List.length_reverse, List.length_map] at *; omega) | (simp at *; omega)) _lo37 (by omega) fun _v40 _w_50 _q40 _lo40 _ap40 _cw_50 => ?_
            have _cw_50z := _cw_50.size
            have E := E.step _cw_50 (fun i hi => .inl (by have _h1 := _lo37 _ hi; omega))
            obtain ⟨_Av40, _Cv40, _ev40⟩ := _q40.val
            subst _ev40
            have _lv40 := _q40.len
            have _hiv40 := _q40.lt
            have _S_52 : Ch [] _w_28 _w_50 := (_S_49.step _cw_50 (fun i hm => by rcases _ap37 with ea | ea; (rw [ea] at hm; left; have _h1 := _lo33 _ hm; have _h2 := _hiv33 _ hm; omega); (rw [ea] at hm; have _z1 := List.mem_singleton.1 hm; left; omega)))
            refine ⟨_S_52, ?_⟩
            refine DR_one 11 (by kernel_rfl) ?_
            refine DO_s rfl rfl rfl ?_
            have _f_54 := ((((_q43.ch0 _cw_31).ch0 _cw_44).ch _cw_46 (fun g hg hm => by rw [_bb43] at hg; have _h1 := _lo33 _ hm; have _h2 := _hiv33 _ hm; have _h3 := _lt_l _ hg; have _h4 := _lt_l _ hg; omega)).ch _cw_50 (fun g hg hm => by rcases _ap37 with ea | ea; (rw [ea] at hm; rw [_bb43] at hg; have _h1 := _lo33 _ hm; have _h2 := _hiv33 _ hm; have _h3 := _lt_l _ hg; have _h4 := _lt_l _ hg; omega); (rw [ea] at hm; have _z1 := List.mem_singleton.1 hm; rw [_bb43] at hg; have _h3 := _lt_l _ hg; have _h4 := _lt_l _ hg; omega)))
            refine s_append (cs := Pair.cs) el37 sz106 by106 zr106 rfl (by decide) Pair.one _q40 _f_54.ls rfl rfl (by first | omega | (simp only [List.length_append, List.length_nil, List.length_cons, List.length_replicate, List.length_set, List.length_reverse, List.length_map] at *; omega) | (simp at *; omega)) (by first | omega | (simp only [List.length_append, List.length_nil, List.length_cons, List.length_replicate, List.length_set, List.length_reverse, List.length_map] at *; omega) | (simp at *; omega)) _lo40 (by omega) fun _v44 _w_53 _q44 _lo44 _ap44 _cw_53 => ?_
            have _cw_53z := _cw_53.size
            have E := E.step _cw_53 (fun i hi => .inl (by have _h1 := _lo40 _ hi; omega))
            obtain ⟨_Av44, _Cv44, _ev44⟩ := _q44.val
            subst _ev44
            have _lv44 := _q44.len
            have _hiv44 := _q44.lt
            have _S_55 : Ch [] _w_28 _w_53 := (_S_52.step _cw_53 (fun i hm => by rcases _ap40 with ea | ea; (rw [ea] at hm; rcases _ap37 with ea | ea; (rw [ea] at hm; left; have _h1 := _lo33 _ hm; have _h2 := _hiv33 _ hm; omega); (rw [ea] at hm; have _z1 := List.mem_singleton.1 hm; left; omega)); (rw [ea] at hm; have _z1 := List.mem_singleton.1 hm; left; omega)))
            refine ⟨_S_55, ?_⟩
            refine DR_s 12 rfl (by kernel_rfl) rfl rfl (t_v (fun _ => (r_assign rfl)) ?_)
            refine DR_done (by kernel_rfl) ?_
            refine thn_nrm ?_
            exact _J_26 _ _ (.slice _Av44 ((((l.take k) ++ [p]) ++ (l.drop k))).length _Cv44) (Sub.cons rfl (Sub.nil _)) (((((((Ch.refl [] _w_18).trans _cw_28).trans _cw_31).trans _cw_44).step _cw_46 (fun i hi => .inl (by have _h1 := _lo33 _ hi; omega))).step _cw_50 (fun i hi => .inl (by have _h1 := _lo37 _ hi; omega))).step _cw_53 (fun i hi => .inl (by have _h1 := _lo40 _ hi; omega))) _q44 (Lo.down _lo44 (by omega))
        · refine DO_s rfl rfl rfl ?_
          refine s_buildSlice (cs := Pair.cs) (parts := [(0, .tmp 38)]) (⟨0, 0⟩ : Pair) [p] el37 sz106 zr106 Pair.len (by decide) rfl rfl rfl (by decide) (by decide) rfl fun _v39 _w_56 _q39 _lo39 _cw_56 => ?_
          have _cw_56z := _cw_56.size
          have E := E.trans _cw_56
          obtain ⟨_Av39, _Cv39, _ev39⟩ := _q39.val
          subst _ev39
          have _lv39 := _q39.len
          have _hiv39 := _q39.lt
          have _S_57 : Ch [] _w_28 _w_56 := ((Ch.refl _ _).trans _cw_56)
          refine ⟨_S_57, ?_⟩
          refine DR_one 0 (by kernel_rfl) ?_
          refine DO_s rfl rfl rfl ?_
          refine s_buildSlice0 (k := 2) Pair.cs el37 sz106 fun _v33 _w_58 _q33 _lo33 _cw_58 => ?_
          have _cw_58z := _cw_58.size
          have E := E.trans _cw_58
          obtain ⟨_Av33, _Cv33, _ev33⟩ := _q33.val
          subst _ev33
          have _lv33 := _q33.len
          have _hiv33 := _q33.lt
          have _S_59 : Ch [] _w_28 _w_58 := (_S_57.trans _cw_58)
          refine ⟨_S_59, ?_⟩
          refine DR_one 4 (by kernel_rfl) ?_
          refine DO_s rfl rfl rfl ?_
          have _f_61 := ((_q36.ch0 _cw_56).ch0 _cw_58)
          refine s_append (cs := Pair.cs) el37 sz106 by106 zr106 rfl (by decide) Pair.one _q33 _f_61.ls rfl rfl (by first | omega | (simp only [List.length_append, List.length_nil, List.length_cons, List.length_replicate, List.length_set, List.length_reverse, List.length_map] at *; omega) | (simp at *; omega)) (by first | omega | (simp only [List.length_append, List.length_nil, List.length_cons, List.length_replicate, List.length_set, List.length_reverse, List.length_map] at *; omega) | (simp at *; omega)) _lo33 (by omega) fun _v37 _w_60 _q37 _lo37 _ap37 _cw_60 => ?_
          have _cw_60z := _cw_60.size
          have E := E.step _cw_60 (fun i hi => .inl (by have _h1 := _lo33 _ hi; omega))
          replace _q37 : Ol Pair.cs 106 2 _w_60 _v37 (l.take k) := _q37
          obtain ⟨_Av37, _Cv37, _ev37⟩ := _q37.val
          subst _ev37
          have _lv37 := _q37.len
          have _hiv37 := _q37.lt
          have _S_62 : Ch [] _w_28 _w_60 := (_S_59.step _cw_60 (fun i hm => by left; have _h1 := _lo33 _ hm; have _h2 := _hiv33 _ hm; omega))
          refine ⟨_S_62, ?_⟩
          refine DR_one 7 (by kernel_rfl) ?_
          refine DO_s rfl rfl rfl ?_
          have _f_64 := ((_q39.ch0 _cw_58).ch _cw_60 (fun g hg hm => by have _h1 := _lo33 _ hm; have _h2 := _hiv33 _ hm; have _h3 := _lo39 _ hg; have _h4 := _hiv39 _ hg; omega))
          refine s_append (cs := Pair.cs) el37 sz106 by106 zr106 rfl (by decide) Pair.one _q37 _f_64.ls rfl rfl (by first | omega | (simp only [List.length_append, List.length_nil, List.length_cons, List.length_replicate, List.length_set, List.length_reverse, List.length_map] at *; omega) | (simp at *; omega)) (by first | omega | (simp only [List.length_append, List.length_nil, List.length_cons, List.length_replicate, List.length_set, List.length_reverse, List.length_map] at *; omega) | (simp at *; omega)) _lo37 (by omega) fun _v40 _w_63 _q40 _lo40 _ap40 _cw_63 => ?_
          have _cw_63z := _cw_63.size
          have E := E.step _cw_63 (fun i hi => .inl (by have _h1 := _lo37 _ hi; omega))
          obtain ⟨_Av40, _Cv40, _ev40⟩ := _q40.val
          subst _ev40
          have _lv40 := _q40.len
          have _hiv40 := _q40.lt
          have _S_65 : Ch [] _w_28 _w_63 := (_S_62.step _cw_63 (fun i hm => by rcases _ap37 with ea | ea; (rw [ea] at hm; left; have _h1 := _lo33 _ hm; have _h2 := _hiv33 _ hm; omega); (rw [ea] at hm; have _z1 := List.mem_singleton.1 hm; left; omega)))
          refine ⟨_S_65, ?_⟩
          refine DR_one 11 (by kernel_rfl) ?_
          refine DO_s rfl rfl rfl ?_
          have _f_67 := ((((_q43.ch0 _cw_56).ch0 _cw_58).ch _cw_60 (fun g hg hm => by rw [_bb43] at hg; have _h1 := _lo33 _ hm; have _h2 := _hiv33 _ hm; have _h3 := _lt_l _ hg; have _h4 := _lt_l _ hg; omega)).ch _cw_63 (fun g hg hm => by rcases _ap37 with ea | ea; (rw [ea] at hm; rw [_bb43] at hg; have _h1 := _lo33 _ hm; have _h2 := _hiv33 _ hm; have _h3 := _lt_l _ hg; have _h4 := _lt_l _ hg; omega); (rw [ea] at hm; have _z1 := List.mem_singleton.1 hm; rw [_bb43] at hg; have _h3 := _lt_l _ hg; have _h4 := _lt_l _ hg; omega)))
          refine s_append (cs := Pair.cs) el37 sz106 by106 zr106 rfl (by decide) Pair.one _q40 _f_67.ls rfl rfl (by first | omega | (simp only [List.length_append, List.length_nil, List.length_cons, List.length_replicate, List.length_set, List.length_reverse, List.length_map] at *; omega) | (simp at *; omega)) (by first | omega | (simp only [List.length_append, List.length_nil, List.length_cons, List.length_replicate, List.length_set, List.length_reverse, List.length_map] at *; omega) | (simp at *; omega)) _lo40 (by omega) fun _v44 _w_66 _q44 _lo44 _ap44 _cw_66 => ?_
          have _cw_66z := _cw_66.size
          have E := E.step _cw_66 (fun i hi => .inl (by have _h1 := _lo40 _ hi; omega))
          obtain ⟨_Av44, _Cv44, _ev44⟩ := _q44.val
          subst _ev44
          have _lv44 := _q44.len
          have _hiv44 := _q44.lt
          have _S_68 : Ch [] _w_28 _w_66 := (_S_65.step _cw_66 (fun i hm => by rcases _ap40 with ea | ea; (rw [ea] at hm; rcases _ap37 with ea | ea; (rw [ea] at hm; left; have _h1 := _lo33 _ hm; have _h2 := _hiv33 _ hm; omega); (rw [ea] at hm; have _z1 := List.mem_singleton.1 hm; left; omega)); (rw [ea] at hm; have _z1 := List.mem_singleton.1 hm; left; omega)))
          refine ⟨_S_68, ?_⟩
          refine DR_s 12 rfl (by kernel_rfl) rfl rfl (t_v (fun _ => (r_assign rfl)) ?_)
          refine DR_done (by kernel_rfl) ?_
          refine thn_nrm ?_
          exact _J_26 _ _ (.slice _Av44 ((((l.take k) ++ [p]) ++ (l.drop k))).length _Cv44) (Sub.cons rfl (Sub.nil _)) (((((((Ch.refl [] _w_18).trans _cw_28).trans _cw_56).trans _cw_58).step _cw_60 (fun i hi => .inl (by have _h1 := _lo33 _ hi; omega))).step _cw_63 (fun i hi => .inl (by have _h1 := _lo37 _ hi; omega))).step _cw_66 (fun i hi => .inl (by have _h1 := _lo40 _ hi; omega))) _q44 (Lo.down _lo44 (by omega))
  · have _kb_9 := _h10
    have _h10 := bf_d _h10
    refine DR_skip 5 rfl (by kernel_rfl) rfl rfl ?_
    refine DR_skip 6 rfl (by kernel_rfl) rfl rfl ?_
    refine DR_skip 7 rfl (by kernel_rfl) rfl rfl ?_
    refine DR_skip 8 rfl (by kernel_rfl) rfl rfl ?_
    refine DR_skip 9 rfl (by kernel_rfl) rfl rfl ?_
    refine DR_skip 10 rfl (by kernel_rfl) rfl rfl ?_
    refine DR_s 11 rfl (by kernel_rfl) rfl rfl (t_v (fun _ => (r_pickF rfl rfl)) ?_)
    refine DR_done (by kernel_rfl) ?_
    refine thn_nrm (_hK_7 _ _ ?_)
    clear _hK_7
    refine W_condF rfl ?_
    refine W_exit (thn_exit (thn_exit (inB_hit ?_)))
    refine thn_nrm (_hK_4 _ _ ?_)
    clear _hK_4
    refine W_seq fun _K_69 _hK_69 => ?_
    refine W_seq fun _K_70 _hK_70 => ?_
    refine W_drawC [] 12 mixed rfl fun _w_71 _cw_71 => ?_
    have _cw_71z := _cw_71.size
    have E := E.trans _cw_71
    refine DR_s 0 rfl (by kernel_rfl) rfl rfl (t_v (fun _ => (r_move rfl)) ?_)
    refine DR_s 1 rfl (by kernel_rfl) rfl rfl (t_v (fun _ => (r_move rfl)) ?_)
    refine DR_s 2 rfl (by kernel_rfl) rfl rfl (t_v (fun _ => (r_len (by rw [el37]; rfl) rfl)) ?_)
    refine DR_s 3 rfl (by kernel_rfl) rfl rfl (t_v (fun _ => (r_lss rfl rfl)) ?_)
    refine DR_s 4 rfl (by kernel_rfl) rfl rfl (t_v (fun _ => (r_move rfl)) ?_)
    refine DR_splitF (d := 24) rfl _kb_9 ?_
    refine DR_skip 5 rfl (by kernel_rfl) rfl rfl ?_
    refine DR_skip 6 rfl (by kernel_rfl) rfl rfl ?_
    refine DR_skip 7 rfl (by kernel_rfl) rfl rfl ?_
    refine DR_skip 8 rfl (by kernel_rfl) rfl rfl ?_
    refine DR_skip 9 rfl (by kernel_rfl) rfl rfl ?_
    refine DR_skip 10 rfl (by kernel_rfl) rfl rfl ?_
    refine DR_s 11 rfl (by kernel_rfl) rfl rfl (t_v (fun _ => (r_pickF rfl rfl)) ?_)
    refine DR_done (by kernel_rfl) ?_
    refine thn_nrm (_hK_70 _ _ ?_)
    clear _hK_70
    refine W_condF rfl ?_
    refine W_skip ?_
    refine thn_nrm (_hK_69 _ _ ?_)
    clear _hK_69
    refine W_seq fun _K_72 _hK_72 => ?_
    have _J_74 : ∀ (lj : KL) (_wj_73 : World) (ju4 : Value), Go.KLib.Sub [(4, ju4)] lj → Ch [] _w_71 _wj_73 → Ol Pair.cs 106 2 _wj_73 ju4 (((l.take k) ++ [p]) ++ (l.drop k)) → Lo _w_71.heap.size ju4 → _K_72 lj _wj_73 := by
      intro lj _wj_73 ju4 _jsub _cjK_72 _qju4 _loju4
      refine _hK_72 _ _ (W_sub _jsub ?_)
      clear _hK_72
      have _cjK_72z := _cjK_72.size
      have E := E.trans _cjK_72
      obtain ⟨_Aju4, _Cju4, _eju4⟩ := _qju4.val
      subst _eju4
      have _lju4 := _qju4.len
      have _hiju4 := _qju4.lt
      refine W_ret ?_
      clear _hK_6
      have _o_75 : Ol Pair.cs 106 2 _wj_73 (.slice _Aju4 ((((l.take k) ++ [p]) ++ (l.drop k))).length _Cju4) (putP l p) := by
        have hx := _qju4
        first | (rw [put_same hs (by rw [_hy27, Pair.inj _h31])]; exact hx) | (rw [put_at _hk _ht (fun x hx2 => by rw [_hy27] at hx2; injection hx2 with hx2; subst hx2; exact ⟨fun e => _h31 (by rw [e]), by have _u9 := get_uniq _hy13 _hy27; rw [← _u9]; exact _h17⟩)]; exact hx) | (rw [put_at _hk _ht (fun x hx2 => by rw [List.getElem?_eq_none (by omega)] at hx2; cases hx2)]; exact hx)
      exact ret_intro [_] ⟨rfl, trivial⟩ ⟨_o_75, .inr (Lo.down _loju4 (by omega)), E⟩
    clear _hK_72
    refine W_drawC [] 13 mixed rfl fun _w_76 _cw_76 => ?_
    have _cw_76z := _cw_76.size
    have E := E.trans _cw_76
    refine DR_s 1 rfl (by kernel_rfl) rfl rfl (t_v (fun _ => (r_move rfl)) ?_)
    refine DR_s 2 rfl (by kernel_rfl) rfl rfl (t_v (fun _ => (r_move rfl)) ?_)
    have _f_77 := ((((_h_l.ch0 _E0h).ch0 _cw_8).ch0 _cw_71).ch0 _cw_76)
    refine DR_s 3 rfl (by kernel_rfl) rfl rfl (t_cutO (ys := (l.take k)) 0 k _f_77 Pair.len el37 sz106 rfl rfl ⟨_, _, rfl, by omega⟩ (by omega) (by omega) rfl fun _v36 _q36 _bb36 _ln36 => ?_)
    obtain ⟨_A36, _C36, _e36⟩ := _q36.val
    subst _e36
    have _l36 := _q36.len
    have hi36 := _q36.lt
    have _f_78 := (((_F0_1.ch0 _cw_8).ch0 _cw_71).ch0 _cw_76)
    refine DR_s 5 rfl (by kernel_rfl) rfl rfl (t_loadAtA0 _f_78.at_ (fun i hi => absurd hi List.not_mem_nil) agg106 sz106 rfl ?_)
    refine DR_s 8 rfl (by kernel_rfl) rfl rfl (t_v (fun _ => (r_move rfl)) ?_)
    refine DR_s 9 rfl (by kernel_rfl) rfl rfl (t_v (fun _ => (r_move rfl)) ?_)
    refine DR_s 10 rfl (by kernel_rfl) rfl rfl (t_cutO (ys := (l.drop k)) k l.length _f_77 Pair.len el37 sz106 rfl ⟨_, _, rfl, by omega⟩ rfl (by omega) (by omega) (cut_all _ _) fun _v43 _q43 _bb43 _ln43 => ?_)
    obtain ⟨_A43, _C43, _e43⟩ := _q43.val
    subst _e43
    have _l43 := _q43.len
    have hi43 := _q43.lt
    refine DR_two 0 6 (by kernel_rfl) ?_ ?_
    · refine DO_s rfl rfl rfl ?_
      refine s_buildSlice0 (k := 2) Pair.cs el37 sz106 fun _v33 _w_79 _q33 _lo33 _cw_79 => ?_
      have _cw_79z := _cw_79.size
      have E := E.trans _cw_79
      obtain ⟨_Av33, _Cv33, _ev33⟩ := _q33.val
      subst _ev33
      have _lv33 := _q33.len
      have _hiv33 := _q33.lt
      have _S_80 : Ch [] _w_76 _w_79 := ((Ch.refl _ _).trans _cw_79)
      refine ⟨_S_80, ?_⟩
      refine DR_two 4 6 (by kernel_rfl) ?_ ?_
      · refine DO_s rfl rfl rfl ?_
        have _f_82 := (_q36.ch0 _cw_79)
        refine s_append (cs := Pair.cs) el37 sz106 by106 zr106 rfl (by decide) Pair.one _q33 _f_82.ls rfl rfl (by first | omega | (simp only [List.length_append, List.length_nil, List.length_cons, List.length_replicate, List.length_set, List.length_reverse, List.length_map] at *; omega) | (simp at *; omega)) (by first | omega | (simp only [List.length_append, List.length_nil, List.length_cons, List.length_replicate, List.length_set, List.length_reverse, List.length_map] at *; omega) | (simp at *; omega)) _lo33 (by omega) fun _v37 _w_81 _q37 _lo37 _ap37 _cw_81 => ?_
        have _cw_81z := _cw_81.size
        have E := E.step _cw_81 (fun i hi => .inl (by have _h1 := _lo33 _ hi; omega))
        replace _q37 : Ol Pair.cs 106 2 _w_81 _v37 (l.take k) := _q37
        obtain ⟨_Av37, _Cv37, _ev37⟩ := _q37.val
        subst _ev37
        have _lv37 := _q37.len
        have _hiv37 := _q37.lt
        have _S_83 : Ch [] _w_76 _w_81 := (_S_80.step _cw_81 (fun i hm => by left; have _h1 := _lo33 _ hm; have _h2 := _hiv33 _ hm; omega))
        refine ⟨_S_83, ?_⟩
        refine DR_one 6 (by kernel_rfl) ?_
        refine DO_s rfl rfl rfl ?_
        refine s_buildSlice (cs := Pair.cs) (parts := [(0, .tmp 38)]) (⟨0, 0⟩ : Pair) [p] el37 sz106 zr106 Pair.len (by decide) rfl rfl rfl (by decide) (by decide) rfl fun _v39 _w_84 _q39 _lo39 _cw_84 => ?_
        have _cw_84z := _cw_84.size
        have E := E.trans _cw_84
        obtain ⟨_Av39, _Cv39, _ev39⟩ := _q39.val
        subst _ev39
        have _lv39 := _q39.len
        have _hiv39 := _q39.lt
        have _S_85 : Ch [] _w_76 _w_84 := (_S_83.trans _cw_84)
        refine ⟨_S_85, ?_⟩
        refine DR_one 7 (by kernel_rfl) ?_
        refine DO_s rfl rfl rfl ?_
        have _f_87 := (_q37.ch0 _cw_84)
        refine s_append (cs := Pair.cs) el37 sz106 by106 zr106 rfl (by decide) Pair.one _f_87 _q39.ls rfl rfl (by first | omega | (simp only [List.length_append, List.length_nil, List.length_cons, List.length_replicate, List.length_set, List.length_reverse, List.length_map] at *; omega) | (simp at *; omega)) (by first | omega | (simp only [List.length_append, List.length_nil, List.length_cons, List.length_replicate, List.length_set, List.length_reverse, List.length_map] at *; omega) | (simp at *; omega)) _lo37 (by omega) fun _v40 _w_86 _q40 _lo40 _ap40 _cw_86 => ?_
        have _cw_86z := _cw_86.size
        have E := E.step _cw_86 (fun i hi => .inl (by have _h1 := _lo37 _ hi; omega))
        obtain ⟨_Av40, _Cv40, _ev40⟩ := _q40.val
        subst _ev40
        have _lv40 := _q40.len
        have _hiv40 := _q40.lt
        have _S_88 : Ch [] _w_76 _w_86 := (_S_85.step _cw_86 (fun i hm => by rcases _ap37 with ea | ea; (rw [ea] at hm; left; have _h1 := _lo33 _ hm; have _h2 := _hiv33 _ hm; omega); (rw [ea] at hm; have _z1 := List.mem_singleton.1 hm; left; omega)))
        refine ⟨_S_88, ?_⟩
        refine DR_one 11 (by kernel_rfl) ?_
        refine DO_s rfl rfl rfl ?_
        have _f_90 := ((((_q43.ch0 _cw_79).ch _cw_81 (fun g hg hm => by rw [_bb43] at hg; have _h1 := _lo33 _ hm; have _h2 := _hiv33 _ hm; have _h3 := _lt_l _ hg; have _h4 := _lt_l _ hg; omega)).ch0 _cw_84).ch _cw_86 (fun g hg hm => by rcases _ap37 with ea | ea; (rw [ea] at hm; rw [_bb43] at hg; have _h1 := _lo33 _ hm; have _h2 := _hiv33 _ hm; have _h3 := _lt_l _ hg; have _h4 := _lt_l _ hg; omega); (rw [ea] at hm; have _z1 := List.mem_singleton.1 hm; rw [_bb43] at hg; have _h3 := _lt_l _ hg; have _h4 := _lt_l _ hg; omega)))
        refine s_append (cs := Pair.cs) el37 sz106 by106 zr106 rfl (by decide) Pair.one _q40 _f_90.ls rfl rfl (by first | omega | (simp only [List.length_append, List.length_nil, List.length_cons, List.length_replicate, List.length_set, List.length_reverse, List.length_map] at *; omega) | (simp at *; omega)) (by first | omega | (simp only [List.length_append, List.length_nil, List.length_cons, List.length_replicate, List.length_set, List.length_reverse, List.length_map] at *; omega) | (simp at *; omega)) _lo40 (by omega) fun _v44 _w_89 _q44 _lo44 _ap44 _cw_89 => ?_
        have _cw_89z := _cw_89.size
        have E := E.step _cw_89 (fun i hi => .inl (by have _h1 := _lo40 _ hi; omega))
        obtain ⟨_Av44, _Cv44, _ev44⟩ := _q44.val
        subst _ev44
        have _lv44 := _q44.len
        have _hiv44 := _q44.lt
        have _S_91 : Ch [] _w_76 _w_89 := (_S_88.step _cw_89 (fun i hm => by rcases _ap40 with ea | ea; (rw [ea] at hm; rcases _ap37 with ea | ea; (rw [ea] at hm; left; have _h1 := _lo33 _ hm; have _h2 := _hiv33 _ hm; omega); (rw [ea] at hm; have _z1 := List.mem_singleton.1 hm; left; omega)); (rw [ea] at hm; have _z1 := List.mem_singleton.1 hm; left; omega)))
        refine ⟨_S_91, ?_⟩
        refine DR_s 12 rfl (by kernel_rfl) rfl rfl (t_v (fun _ => (r_assign rfl)) ?_)
        refine DR_done (by kernel_rfl) ?_
        refine thn_nrm ?_
        exact _J_74 _ _ (.slice _Av44 ((((l.take k) ++ [p]) ++ (l.drop k))).length _Cv44) (Sub.cons rfl (Sub.nil _)) (((((((Ch.refl [] _w_71).trans _cw_76).trans _cw_79).step _cw_81 (fun i hi => .inl (by have _h1 := _lo33 _ hi; omega))).trans _cw_84).step _cw_86 (fun i hi => .inl (by have _h1 := _lo37 _ hi; omega))).step _cw_89 (fun i hi => .inl (by have _h1 := _lo40 _ hi; omega))) _q44 (Lo.down _lo44 (by omega))
      · refine DO_s rfl rfl rfl ?_
        refine s_buildSlice (cs := Pair.cs) (parts := [(0, .tmp 38)]) (⟨0, 0⟩ : Pair) [p] el37 sz106 zr106 Pair.len (by decide) rfl rfl rfl (by decide) (by decide) rfl fun _v39 _w_92 _q39 _lo39 _cw_92 => ?_
        have _cw_92z := _cw_92.size
        have E := E.trans _cw_92
        obtain ⟨_Av39, _Cv39, _ev39⟩ := _q39.val
        subst _ev39
        have _lv39 := _q39.len
        have _hiv39 := _q39.lt
        have _S_93 : Ch [] _w_76 _w_92 := (_S_80.trans _cw_92)
        refine ⟨_S_93, ?_⟩
        refine DR_one 4 (by kernel_rfl) ?_
        refine DO_s rfl rfl rfl ?_
        have _f_95 := (_q33.ch0 _cw_92)
        have _f_96 := ((_q36.ch0 _cw_79).ch0 _cw_92)
        refine s_append (cs := Pair.cs) el37 sz106 by106 zr106 rfl (by decide) Pair.one _f_95 _f_96.ls rfl rfl (by first | omega | (simp only [List.length_append, List.length_nil, List.length_cons, List.length_replicate, List.length_set, List.length_reverse, List.length_map] at *; omega) | (simp at *; omega)) (by first | omega | (simp only [List.length_append, List.length_nil, List.length_cons, List.length_replicate, List.length_set, List.length_reverse, List.length_map] at *; omega) | (simp at *; omega)) _lo33 (by omega) fun _v37 _w_94 _q37 _lo37 _ap37 _cw_94 => ?_
        have _cw_94z := _cw_94.size
        have E := E.step _cw_94 (fun i hi => .inl (by have _h1 := _lo33 _ hi; omega))
        replace _q37 : Ol Pair.cs 106 2 _w_94 _v37 (l.take k) := _q37
        obtain ⟨_Av37, _Cv37, _ev37⟩ := _q37.val
        subst _ev37
        have _lv37 := _q37.len
        have _hiv37 := _q37.lt
        have _S_97 : Ch [] _w_76 _w_94 := (_S_93.step _cw_94 (fun i hm => by left; have _h1 := _lo33 _ hm; have _h2 := _hiv33 _ hm; omega))
        refine ⟨_S_97, ?_⟩
        refine DR_one 7 (by kernel_rfl) ?_
        refine DO_s rfl rfl rfl ?_
        have _f_99 := (_q39.ch _cw_94 (fun g hg hm => by have _h1 := _lo33 _ hm; have _h2 := _hiv33 _ hm; have _h3 := _lo39 _ hg; have _h4 := _hiv39 _ hg; omega))
        refine s_append (cs := Pair.cs) el37 sz106 by106 zr106 rfl (by decide) Pair.one _q37 _f_99.ls rfl rfl (by first | omega | (simp only [List.length_append, List.length_nil, List.length_cons, List.length_replicate, List.length_set, List.length_reverse, List.length_map] at *; omega) | (simp at *; omega)) (by first | omega | (simp only [List.length_append, List.length_nil, List.length_cons, List.length_replicate, List.length_set, List.length_reverse, List.length_map] at *; omega) | (simp at *; omega)) _lo37 (by omega) fun _v40 _w_98 _q40 _lo40 _ap40 _cw_98 => ?_
        have _cw_98z := _cw_98.size
        have E := E.step _cw_98 (fun i hi => .inl (by have _h1 := _lo37 _ hi; omega))
        obtain ⟨_Av40, _Cv40, _ev40⟩ := _q40.val
        subst _ev40
        have _lv40 := _q40.len
        have _hiv40 := _q40.lt
        have _S_100 : Ch [] _w_76 _w_98 := (_S_97.step _cw_98 (fun i hm => by rcases _ap37 with ea | ea; (rw [ea] at hm; left; have _h1 := _lo33 _ hm; have _h2 := _hiv33 _ hm; omega); (rw [ea] at hm; have _z1 := List.mem_singleton.1 hm; left; omega)))
        refine ⟨_S_100, ?_⟩
        refine DR_one 11 (by kernel_rfl) ?_
        refine DO_s rfl rfl rfl ?_
        have _f_102 := ((((_q43.ch0 _cw_79).ch0 _cw_92).ch _cw_94 (fun g hg hm => by rw [_bb43] at hg; have _h1 := _lo33 _ hm; have _h2 := _hiv33 _ hm; have _h3 := _lt_l _ hg; have _h4 := _lt_l _ hg; omega)).ch _cw_98 (fun g hg hm => by rcases _ap37 with ea | ea; (rw [ea] at hm; rw [_bb43] at hg; have _h1 := _lo33 _ hm; have _h2 := _hiv33 _ hm; have _h3 := _lt_l _ hg; have _h4 := _lt_l _ hg; omega); (rw [ea] at hm; have _z1 := List.mem_singleton.1 hm; rw [_bb43] at hg; have _h3 := _lt_l _ hg; have _h4 := _lt_l _ hg; omega)))
        refine s_append (cs := Pair.cs) el37 sz106 by106 zr106 rfl (by decide) Pair.one _q40 _f_102.ls rfl rfl (by first | omega | (simp only [List.length_append, List.length_nil, List.length_cons, List.length_replicate, List.length_set, List.length_reverse, List.length_map] at *; omega) | (simp at *; omega)) (by first | omega | (simp only [List.length_append, List.length_nil, List.length_cons, List.length_replicate, List.length_set, List.length_reverse, List.length_map] at *; omega) | (simp at *; omega)) _lo40 (by omega) fun _v44 _w_101 _q44 _lo44 _ap44 _cw_101 => ?_
        have _cw_101z := _cw_101.size
        have E := E.step _cw_101 (fun i hi => .inl (by have _h1 := _lo40 _ hi; omega))
        obtain ⟨_Av44, _Cv44, _ev44⟩ := _q44.val
        subst _ev44
        have _lv44 := _q44.len
        have _hiv44 := _q44.lt
        have _S_103 : Ch [] _w_76 _w_101 := (_S_100.step _cw_101 (fun i hm => by rcases _ap40 with ea | ea; (rw [ea] at hm; rcases _ap37 with ea | ea; (rw [ea] at hm; left; have _h1 := _lo33 _ hm; have _h2 := _hiv33 _ hm; omega); (rw [ea] at hm; have _z1 := List.mem_singleton.1 hm; left; omega)); (rw [ea] at hm; have _z1 := List.mem_singleton.1 hm; left; omega)))
        refine ⟨_S_103, ?_⟩
        refine DR_s 12 rfl (by kernel_rfl) rfl rfl (t_v (fun _ => (r_assign rfl)) ?_)
        refine DR_done (by kernel_rfl) ?_
        refine thn_nrm ?_
        exact _J_74 _ _ (.slice _Av44 ((((l.take k) ++ [p]) ++ (l.drop k))).length _Cv44) (Sub.cons rfl (Sub.nil _)) (((((((Ch.refl [] _w_71).trans _cw_76).trans _cw_79).trans _cw_92).step _cw_94 (fun i hi => .inl (by have _h1 := _lo33 _ hi; omega))).step _cw_98 (fun i hi => .inl (by have _h1 := _lo37 _ hi; omega))).step _cw_101 (fun i hi => .inl (by have _h1 := _lo40 _ hi; omega))) _q44 (Lo.down _lo44 (by omega))
    · refine DO_s rfl rfl rfl ?_
      refine s_buildSlice (cs := Pair.cs) (parts := [(0, .tmp 38)]) (⟨0, 0⟩ : Pair) [p] el37 sz106 zr106 Pair.len (by decide) rfl rfl rfl (by decide) (by decide) rfl fun _v39 _w_104 _q39 _lo39 _cw_104 => ?_
      have _cw_104z := _cw_104.size
      have E := E.trans _cw_104
      obtain ⟨_Av39, _Cv39, _ev39⟩ := _q39.val
      subst _ev39
      have _lv39 := _q39.len
      have _hiv39 := _q39.lt
      have _S_105 : Ch [] _w_76 _w_104 := ((Ch.refl _ _).trans _cw_104)
      refine ⟨_S_105, ?_⟩
      refine DR_one 0 (by kernel_rfl) ?_
      refine DO_s rfl rfl rfl ?_
      refine s_buildSlice0 (k := 2) Pair.cs el37 sz106 fun _v33 _w_106 _q33 _lo33 _cw_106 => ?_
      have _cw_106z := _cw_106.size
      have E := E.trans _cw_106
      obtain ⟨_Av33, _Cv33, _ev33⟩ := _q33.val
      subst _ev33
      have _lv33 := _q33.len
      have _hiv33 := _q33.lt
      have _S_107 : Ch [] _w_76 _w_106 := (_S_105.trans _cw_106)
      refine ⟨_S_107, ?_⟩
      refine DR_one 4 (by kernel_rfl) ?_
      refine DO_s rfl rfl rfl ?_
      have _f_109 := ((_q36.ch0 _cw_104).ch0 _cw_106)
      refine s_append (cs := Pair.cs) el37 sz106 by106 zr106 rfl (by decide) Pair.one _q33 _f_109.ls rfl rfl (by first | omega | (simp only [List.length_append, List.length_nil, List.length_cons, List.length_replicate, List.length_set, List.length_reverse, List.length_map] at *; omega) | (simp at *; omega)) (by first | omega | (simp only [List.length_append, List.length_nil, List.length_cons, List.length_replicate, List.length_set, List.length_reverse, List.length_map] at *; omega) | (simp at *; omega)) _lo33 (by omega) fun _v37 _w_108 _q37 _lo37 _ap37 _cw_108 => ?_
      have _cw_108z := _cw_108.size
      have E := E.step _cw_108 (fun i hi => .inl (by have _h1 := _lo33 _ hi; omega))
      replace _q37 : Ol Pair.cs 106 2 _w_108 _v37 (l.take k) := _q37
      obtain ⟨_Av37, _Cv37, _ev37⟩ := _q37.val
      subst _ev37
      have _lv37 := _q37.len
      have _hiv37 := _q37.lt
      have _S_110 : Ch [] _w_76 _w_108 := (_S_107.step _cw_108 (fun i hm => by left; have _h1 := _lo33 _ hm; have _h2 := _hiv33 _ hm; omega))
      refine ⟨_S_110, ?_⟩
      refine DR_one 7 (by kernel_rfl) ?_
      refine DO_s rfl rfl rfl ?_
      have _f_112 := ((_q39.ch0 _cw_106).ch _cw_108 (fun g hg hm => by have _h1 := _lo33 _ hm; have _h2 := _hiv33 _ hm; have _h3 := _lo39 _ hg; have _h4 := _hiv39 _ hg; omega))
      refine s_append (cs := Pair.cs) el37 sz106 by106 zr106 rfl (by decide) Pair.one _q37 _f_112.ls rfl rfl (by first | omega | (simp only [List.length_append, List.length_nil, List.length_cons, List.length_replicate, List.length_set, List.length_reverse, List.length_map] at *; omega) | (simp at *; omega)) (by first | omega | (simp only [List.length_append, List.length_nil, List.length_cons, List.length_replicate, List.length_set, List.length_reverse, List.length_map] at *; omega) | (simp at *; omega)) _lo37 (by omega) fun _v40 _w_111 _q40 _lo40 _ap40 _cw_111 => ?_
      have _cw_111z := _cw_111.size
      have E := E.step _cw_111 (fun i hi => .inl (by have _h1 := _lo37 _ hi; omega))
      obtain ⟨_Av40, _Cv40, _ev40⟩ := _q40.val
      subst _ev40
      have _lv40 := _q40.len
      have _hiv40 := _q40.lt
      have _S_113 : Ch [] _w_76 _w_111 := (_S_110.step _cw_111 (fun i hm => by rcases _ap37 with ea | ea; (rw [ea] at hm; left; have _h1 := _lo33 _ hm; have _h2 := _hiv33 _ hm; omega); (rw [ea] at hm; have _z1 := List.mem_singleton.1 hm; left; omega)))
      refine ⟨_S_113, ?_⟩
      refine DR_one 11 (by kernel_rfl) ?_
      refine DO_s rfl rfl rfl ?_
      have _f_115 := ((((_q43.ch0 _cw_104).ch0 _cw_106).ch _cw_108 (fun g hg hm => by rw [_bb43] at hg; have _h1 := _lo33 _ hm; have _h2 := _hiv33 _ hm; have _h3 := _lt_l _ hg; have _h4 := _lt_l _ hg; omega)).ch _cw_111 (fun g hg hm => by rcases _ap37 with ea | ea; (rw [ea] at hm; rw [_bb43] at hg; have _h1 := _lo33 _ hm; have _h2 := _hiv33 _ hm; have _h3 := _lt_l _ hg; have _h4 := _lt_l _ hg; omega); (rw [ea] at hm; have _z1 := List.mem_singleton.1 hm; rw [_bb43] at hg; have _h3 := _lt_l _ hg; have _h4 := _lt_l _ hg; omega)))
      refine s_append (cs := Pair.cs) el37 sz106 by106 zr106 rfl (by decide) Pair.one _q40 _f_115.ls rfl rfl (by first | omega | (simp only [List.length_append, List.length_nil, List.length_cons, List.length_replicate, List.length_set, List.length_reverse, List.length_map] at *; omega) | (simp at *; omega)) (by first | omega | (simp only [List.length_append, List.length_nil, List.length_cons, List.length_replicate, List.length_set, List.length_reverse, List.length_map] at *; omega) | (simp at *; omega)) _lo40 (by omega) fun _v44 _w_114 _q44 _lo44 _ap44 _cw_114 => ?_
      have _cw_114z := _cw_114.size
      have E := E.step _cw_114 (fun i hi => .inl (by have _h1 := _lo40 _ hi; omega))
      obtain ⟨_Av44, _Cv44, _ev44⟩ := _q44.val
      subst _ev44
      have _lv44 := _q44.len
      have _hiv44 := _q44.lt
      have _S_116 : Ch [] _w_76 _w_114 := (_S_113.step _cw_114 (fun i hm => by rcases _ap40 with ea | ea; (rw [ea] at hm; rcases _ap37 with ea | ea; (rw [ea] at hm; left; have _h1 := _lo33 _ hm; have _h2 := _hiv33 _ hm; omega); (rw [ea] at hm; have _z1 := List.mem_singleton.1 hm; left; omega)); (rw [ea] at hm; have _z1 := List.mem_singleton.1 hm; left; omega)))
      refine ⟨_S_116, ?_⟩
      refine DR_s 12 rfl (by kernel_rfl) rfl rfl (t_v (fun _ => (r_assign rfl)) ?_)
      refine DR_done (by kernel_rfl) ?_
      refine thn_nrm ?_
      exact _J_74 _ _ (.slice _Av44 ((((l.take k) ++ [p]) ++ (l.drop k))).length _Cv44) (Sub.cons rfl (Sub.nil _)) (((((((Ch.refl [] _w_71).trans _cw_76).trans _cw_104).trans _cw_106).step _cw_108 (fun i hi => .inl (by have _h1 := _lo33 _ hi; omega))).step _cw_111 (fun i hi => .inl (by have _h1 := _lo37 _ hi; omega))).step _cw_114 (fun i hi => .inl (by have _h1 := _lo40 _ hi; omega))) _q44 (Lo.down _lo44 (by omega))

/-- spec.MergePairs -/
theorem c_spec_MergePairs {w : World} {LL_a _B_a : Nat} {_v_a : Value} {a : List Pair} (_h_a : Ls Pair.cs 2 w LL_a _B_a _v_a a) {LL_b _B_b : Nat} {_v_b : Value} {b : List Pair} (_h_b : Ls Pair.cs 2 w LL_b _B_b _v_b b) (hb : a.length + b.length ≤ 4194304) :
    Ctr Try.prog 17 #[_v_a, _v_b] w (fun v w' => Ol Pair.cs 106 2 w' v (psP (a ++ b)) ∧ Lo w.heap.size v ∧ Ch [] w w') := by
  obtain ⟨_A_a, _C_a, _e1_a⟩ := _h_a.val
  subst _e1_a
  have _l_a := _h_a.len
  have _h_a := _h_a.here (by decide)
  obtain ⟨_A_b, _C_b, _e1_b⟩ := _h_b.val
  subst _e1_b
  have _l_b := _h_b.len
  have _h_b := _h_b.here (by decide)
  have E := Ch.refl [] w
  refine Ctr_of_W (N := 34) (vs0 := [(.slice _A_a a.length _C_a), (.slice _A_b b.length _C_b)]) Try.func17 rfl rfl rfl ?_
  refine W_seq fun _K_1 _hK_1 => ?_
  refine W_region ?_
  refine WL_step rfl rfl (r_assign rfl) ?_
  refine WL_nil ?_
  refine thn_nrm (_hK_1 _ _ ?_)
  clear _hK_1
  refine W_seq fun _K_2 _hK_2 => ?_
  refine W_region ?_
  refine WL_s rfl rfl ?_
  refine s_buildSlice0 (k := 2) Pair.cs el37 sz106 fun _v8 _w_3 _q8 _lo8 _cw_3 => ?_
  have _cw_3z := _cw_3.size
  have E := E.trans _cw_3
  obtain ⟨_Av8, _Cv8, _ev8⟩ := _q8.val
  subst _ev8
  have _lv8 := _q8.len
  have _hiv8 := _q8.lt
  refine WL_step rfl rfl (r_assign rfl) ?_
  refine WL_nil ?_
  refine thn_nrm (_hK_2 _ _ ?_)
  clear _hK_2
  refine W_seq fun _K_4 _hK_4 => ?_
  refine W_seq fun _K_5 _hK_5 => ?_
  refine W_region ?_
  refine WL_step rfl rfl (r_assign rfl) ?_
  refine WL_nil ?_
  refine thn_nrm (_hK_5 _ _ ?_)
  clear _hK_5
  refine W_block ?_
  have _oi_6 : Ol Pair.cs 106 2 _w_3 (.slice _Av8 (([] : List Pair)).length _Cv8) (psP (a.take 0)) := by
    have hx := _q8
    first | exact hx | exact hx.eq (by rw [List.take_zero, List.append_nil, List.take_of_length_le (by omega)])
  refine W_loop (σ := Nat × Value) (fun ⟨k, kva⟩ => [(0, (.slice _A_a a.length _C_a)), (1, (.slice _A_b b.length _C_b)), (4, (.slice none 0 0)), (5, kva), (6, (.int .i64 ((k : Nat) : Int)))]) (fun ⟨k, kva⟩ wx => Ch [] w wx ∧ _w_3.heap.size ≤ wx.heap.size ∧ (k ≤ a.length) ∧ Ol Pair.cs 106 2 wx kva (psP (a.take k)) ∧ Lo w.heap.size kva) (fun ⟨k, kva⟩ => a.length - k) (0, (.slice _Av8 (([] : List Pair)).length _Cv8)) (Sub.cons rfl (Sub.cons rfl (Sub.cons rfl (Sub.cons rfl (Sub.cons rfl (Sub.nil _)))))) ⟨E, (Nat.le_refl _), (by omega), _oi_6, _lo8⟩ ?_
  rintro ⟨k, kva⟩ _wr_7 ⟨E, _zz0, _hk, _o0_5, _lo0_5⟩
  have _E0h := E
  have _E0hz := _E0h.size
  obtain ⟨Akva, Ckva, ekva⟩ := _o0_5.val
  subst ekva
  have lkva := _o0_5.len
  have hikva := _o0_5.lt
  refine W_seq fun _K_8 _hK_8 => ?_
  refine W_seq fun _K_9 _hK_9 => ?_
  refine W_region ?_
  refine WL_step rfl rfl (r_move rfl) ?_
  refine WL_step rfl rfl (r_move rfl) ?_
  refine WL_step rfl rfl (r_len (by rw [el37]; rfl) rfl) ?_
  refine WL_step rfl rfl (r_lss rfl rfl) ?_
  refine WL_nil ?_
  refine thn_nrm (_hK_9 _ _ ?_)
  clear _hK_9
  refine W_cond rfl (fun _h12 => ?_) (fun _h12 => ?_)
  · have _kb_10 := _h12
    have _h12 := bt_d _h12
    refine W_skip ?_
    refine thn_nrm (_hK_8 _ _ ?_)
    clear _hK_8
    refine W_seq fun _K_11 _hK_11 => ?_
    refine W_block ?_
    refine W_region ?_
    refine WL_step rfl rfl (r_move rfl) ?_
    refine WL_step rfl rfl (r_move rfl) ?_
    refine WL_step rfl rfl (r_move rfl) ?_
    refine WL_s rfl rfl ?_
    have _f_12 := (_h_a.ch0 _E0h)
    refine (s_index _f_12 Pair.len el37 sz106 rfl rfl rfl (by omega) fun _p18 _y18 _hy18 _a18 => ?_)
    have _q18 := psLen (a.take k)
    have r18 := List.length_take (l := a) (i := k)
    refine WL_step rfl rfl (r_loadAtA0 _a18 agg106 sz106 rfl) ?_
    refine WL_s rfl rfl ?_
    refine Step.call (r_call (xs := [.tmp 15, .tmp 19]) fk64 rfl) (c_spec_l15Put _o0_5 _y18 (by first | exact psSrt _ | exact sub_srt _ _) (by first | omega | omega)) fun _v20 _w_13 _q20 => ?_
    obtain ⟨_q20, _ap20, _cw_13⟩ := _q20
    have _cw_13z := _cw_13.size
    have E := E.trans _cw_13
    obtain ⟨_Av20, _Cv20, _ev20⟩ := _q20.val
    subst _ev20
    have _lv20 := _q20.len
    have _hiv20 := _q20.lt
    have _lo20 : Lo w.heap.size (.slice _Av20 (putP (psP (a.take k)) _y18).length _Cv20) := fun g hg => by rcases _ap20 with ea | ea; (rw [ea] at hg; exact _lo0_5 _ hg); (have _z1 := ea _ hg; omega)
    refine WL_step rfl rfl (r_assign rfl) ?_
    refine WL_nil ?_
    refine inB_nrm ?_
    refine thn_nrm (_hK_11 _ _ ?_)
    clear _hK_11
    refine W_region ?_
    refine WL_step rfl rfl (r_move rfl) ?_
    refine WL_step rfl rfl (r_add (by omega) rfl rfl) ?_
    refine WL_step rfl rfl (r_assign rfl) ?_
    refine WL_nil ?_
    have _on_14 : Ol Pair.cs 106 2 _w_13 (.slice _Av20 (putP (psP (a.take k)) _y18).length _Cv20) (psP (a.take (k + 1))) := by
      have hx := _q20
      exact hx.eq (psStep _hy18).symm
    exact thn_nrm (Exists.intro ((k + 1), (.slice _Av20 (putP (psP (a.take k)) _y18).length _Cv20)) ⟨⟨E, (by omega), (by omega), _on_14, (Lo.down _lo20 (by omega))⟩, Sub.cons rfl (Sub.cons rfl (Sub.cons rfl (Sub.cons rfl (Sub.cons rfl (Sub.nil _))))), (by first | omega | (dsimp only; omega))⟩)
  · have _kb_10 := _h12
    have _h12 := bf_d _h12
    refine W_exit (thn_exit (thn_exit (inB_hit ?_)))
    refine thn_nrm (_hK_4 _ _ ?_)
    clear _hK_4
    refine W_seq fun _K_15 _hK_15 => ?_
    refine W_seq fun _K_16 _hK_16 => ?_
    refine W_region ?_
    refine WL_step rfl rfl (r_assign rfl) ?_
    refine WL_nil ?_
    refine thn_nrm (_hK_16 _ _ ?_)
    clear _hK_16
    refine W_block ?_
    have _oi_17 : Ol Pair.cs 106 2 _wr_7 (.slice Akva (psP (a.take k)).length Ckva) (psP (a ++ b.take 0)) := by
      have hx := _o0_5
      first | exact hx | exact hx.eq (by rw [List.take_zero, List.append_nil, List.take_of_length_le (by omega)])
    refine W_loop (σ := Nat × Value) (fun ⟨k, kvb⟩ => [(1, (.slice _A_b b.length _C_b)), (4, (.slice none 0 0)), (5, kvb), (7, (.int .i64 ((k : Nat) : Int)))]) (fun ⟨k, kvb⟩ wx => Ch [] w wx ∧ _wr_7.heap.size ≤ wx.heap.size ∧ (k ≤ b.length) ∧ Ol Pair.cs 106 2 wx kvb (psP (a ++ b.take k)) ∧ Lo w.heap.size kvb) (fun ⟨k, kvb⟩ => b.length - k) (0, (.slice Akva (psP (a.take k)).length Ckva)) (Sub.cons rfl (Sub.cons rfl (Sub.cons rfl (Sub.cons rfl (Sub.nil _))))) ⟨E, (Nat.le_refl _), (by omega), _oi_17, _lo0_5⟩ ?_
    rintro ⟨k, kvb⟩ _wr_18 ⟨E, _zz1, _hk, _o1_5, _lo1_5⟩
    have _E1h := E
    have _E1hz := _E1h.size
    obtain ⟨Akvb, Ckvb, ekvb⟩ := _o1_5.val
    subst ekvb
    have lkvb := _o1_5.len
    have hikvb := _o1_5.lt
    refine W_seq fun _K_19 _hK_19 => ?_
    refine W_seq fun _K_20 _hK_20 => ?_
    refine W_region ?_
    refine WL_step rfl rfl (r_move rfl) ?_
    refine WL_step rfl rfl (r_move rfl) ?_
    refine WL_step rfl rfl (r_len (by rw [el37]; rfl) rfl) ?_
    refine WL_step rfl rfl (r_lss rfl rfl) ?_
    refine WL_nil ?_
    refine thn_nrm (_hK_20 _ _ ?_)
    clear _hK_20
    refine W_cond rfl (fun _h24 => ?_) (fun _h24 => ?_)
    · have _kb_21 := _h24
      have _h24 := bt_d _h24
      refine W_skip ?_
      refine thn_nrm (_hK_19 _ _ ?_)
      clear _hK_19
      refine W_seq fun _K_22 _hK_22 => ?_
      refine W_block ?_
      refine W_region ?_
      refine WL_step rfl rfl (r_move rfl) ?_
      refine WL_step rfl rfl (r_move rfl) ?_
      refine WL_step rfl rfl (r_move rfl) ?_
      refine WL_s rfl rfl ?_
      have _f_23 := (_h_b.ch0 _E1h)
      refine (s_index _f_23 Pair.len el37 sz106 rfl rfl rfl (by omega) fun _p30 _y30 _hy30 _a30 => ?_)
      have _q30 := psLen (a ++ b.take k)
      have r30 : (a ++ b.take k).length = _ := List.length_append
      have s30 := List.length_take (l := b) (i := k)
      refine WL_step rfl rfl (r_loadAtA0 _a30 agg106 sz106 rfl) ?_
      refine WL_s rfl rfl ?_
      refine Step.call (r_call (xs := [.tmp 27, .tmp 31]) fk64 rfl) (c_spec_l15Put _o1_5 _y30 (by first | exact psSrt _ | exact sub_srt _ _) (by first | omega | omega)) fun _v32 _w_24 _q32 => ?_
      obtain ⟨_q32, _ap32, _cw_24⟩ := _q32
      have _cw_24z := _cw_24.size
      have E := E.trans _cw_24
      obtain ⟨_Av32, _Cv32, _ev32⟩ := _q32.val
      subst _ev32
      have _lv32 := _q32.len
      have _hiv32 := _q32.lt
      have _lo32 : Lo w.heap.size (.slice _Av32 (putP (psP (a ++ b.take k)) _y30).length _Cv32) := fun g hg => by rcases _ap32 with ea | ea; (rw [ea] at hg; exact _lo1_5 _ hg); (have _z1 := ea _ hg; omega)
      refine WL_step rfl rfl (r_assign rfl) ?_
      refine WL_nil ?_
      refine inB_nrm ?_
      refine thn_nrm (_hK_22 _ _ ?_)
      clear _hK_22
      refine W_region ?_
      refine WL_step rfl rfl (r_move rfl) ?_
      refine WL_step rfl rfl (r_add (by omega) rfl rfl) ?_
      refine WL_step rfl rfl (r_assign rfl) ?_
      refine WL_nil ?_
      have _on_25 : Ol Pair.cs 106 2 _w_24 (.slice _Av32 (putP (psP (a ++ b.take k)) _y30).length _Cv32) (psP (a ++ b.take (k + 1))) := by
        have hx := _q32
        exact hx.eq (psStep2 _hy30).symm
      exact thn_nrm (Exists.intro ((k + 1), (.slice _Av32 (putP (psP (a ++ b.take k)) _y30).length _Cv32)) ⟨⟨E, (by omega), (by omega), _on_25, (Lo.down _lo32 (by omega))⟩, Sub.cons rfl (Sub.cons rfl (Sub.cons rfl (Sub.cons rfl (Sub.nil _)))), (by first | omega | (dsimp only; omega))⟩)
    · have _kb_21 := _h24
      have _h24 := bf_d _h24
      refine W_exit (thn_exit (thn_exit (inB_hit ?_)))
      refine thn_nrm (_hK_15 _ _ ?_)
      clear _hK_15
      refine W_seq fun _K_26 _hK_26 => ?_
      refine W_region ?_
      refine WL_step rfl rfl (r_move rfl) ?_
      refine WL_step rfl rfl (r_assign rfl) ?_
      refine WL_nil ?_
      refine thn_nrm (_hK_26 _ _ ?_)
      clear _hK_26
      refine W_ret ?_
      clear _hK_8 _hK_19
      have _o_27 : Ol Pair.cs 106 2 _wr_18 (.slice Akvb (psP (a ++ b.take k)).length Ckvb) (psP (a ++ b)) := by
        have hx := _o1_5
        exact hx.eq (by rw [List.take_of_length_le (by omega)])
      exact ret_intro [_] ⟨rfl, trivial⟩ ⟨_o_27, Lo.down _lo1_5 (by omega), E⟩

/-- laws.FnExactMergePairs -/
theorem c_laws_FnExactMergePairs {w : World} {LL_a _B_a : Nat} {_v_a : Value} {a : List Pair} (_h_a : Ls Pair.cs 2 w LL_a _B_a _v_a a) {LL_b _B_b : Nat} {_v_b : Value} {b : List Pair} (_h_b : Ls Pair.cs 2 w LL_b _B_b _v_b b) :
    Ctr Try.prog 4 #[_v_a, _v_b] w (fun v w' => v = .bool (true) ∧ Ch [] w w') := by
  obtain ⟨_A_a, _C_a, _e1_a⟩ := _h_a.val
  subst _e1_a
  have _l_a := _h_a.len
  have _h_a := _h_a.here (by decide)
  obtain ⟨_A_b, _C_b, _e1_b⟩ := _h_b.val
  subst _e1_b
  have _l_b := _h_b.len
  have _h_b := _h_b.here (by decide)
  have E := Ch.refl [] w
  have sl := psLen (a ++ b); rw [List.length_append] at sl
  refine Ctr_of_W (N := 92) (vs0 := [(.slice _A_a a.length _C_a), (.slice _A_b b.length _C_b)]) Try.func4 rfl rfl rfl ?_
  refine W_seq fun _K_1 _hK_1 => ?_
  refine W_region ?_
  refine WL_step rfl rfl (r_assign rfl) ?_
  refine WL_nil ?_
  refine thn_nrm (_hK_1 _ _ ?_)
  clear _hK_1
  refine W_seq fun _K_2 _hK_2 => ?_
  refine W_region ?_
  refine WL_step rfl rfl (r_assign rfl) ?_
  refine WL_nil ?_
  refine thn_nrm (_hK_2 _ _ ?_)
  clear _hK_2
  refine W_seq fun _K_3 _hK_3 => ?_
  refine W_region ?_
  refine WL_step rfl rfl (r_move rfl) ?_
  refine WL_step rfl rfl (r_move rfl) ?_
  refine WL_s rfl rfl ?_
  refine Step.call (r_call (xs := [.tmp 14, .tmp 15]) fk16 rfl) (c_laws_szPairS _h_a _ (by omega) (by omega)) fun _v16 _w_4 _q16 => ?_
  obtain ⟨rfl, _cw_4⟩ := _q16
  have _cw_4z := _cw_4.size
  have E := E.trans _cw_4
  refine WL_step rfl rfl (r_assign rfl) ?_
  refine WL_nil ?_
  refine thn_nrm (_hK_3 _ _ ?_)
  clear _hK_3
  refine W_seq fun _K_5 _hK_5 => ?_
  refine W_seq fun _K_6 _hK_6 => ?_
  refine W_region ?_
  refine WL_step rfl rfl (r_move rfl) ?_
  refine WL_step rfl rfl (r_lss rfl rfl) ?_
  refine WL_nil ?_
  refine thn_nrm (_hK_6 _ _ ?_)
  clear _hK_6
  refine W_cond rfl (fun _h18 => ?_) (fun _h18 => ?_)
  · have _kb_7 := _h18
    have _h18 := bt_d _h18
    refine W_seq fun _K_8 _hK_8 => ?_
    refine W_region ?_
    refine WL_step rfl rfl (r_assign rfl) ?_
    refine WL_nil ?_
    refine thn_nrm (_hK_8 _ _ ?_)
    clear _hK_8
    refine W_ret (thn_ret ?_)
    clear _hK_5
    exact ret_intro [_] ⟨rfl, trivial⟩ ⟨congrArg Value.bool (by first | rfl | (exfalso; omega) | (exfalso; revert _h18; simp; done) | (exfalso; revert _h18; simp; omega)), E⟩
  · have _kb_7 := _h18
    have _h18 := bf_d _h18
    refine W_skip ?_
    refine thn_nrm (_hK_5 _ _ ?_)
    clear _hK_5
    refine W_seq fun _K_9 _hK_9 => ?_
    refine W_region ?_
    refine WL_step rfl rfl (r_move rfl) ?_
    refine WL_step rfl rfl (r_move rfl) ?_
    refine WL_s rfl rfl ?_
    have _f_10 := (_h_b.ch0 _cw_4)
    refine Step.call (r_call (xs := [.tmp 19, .tmp 20]) fk16 rfl) (c_laws_szPairS _f_10 _ (by omega) (by omega)) fun _v21 _w_11 _q21 => ?_
    obtain ⟨rfl, _cw_11⟩ := _q21
    have _cw_11z := _cw_11.size
    have E := E.trans _cw_11
    refine WL_step rfl rfl (r_assign rfl) ?_
    refine WL_nil ?_
    refine thn_nrm (_hK_9 _ _ ?_)
    clear _hK_9
    refine W_seq fun _K_12 _hK_12 => ?_
    refine W_seq fun _K_13 _hK_13 => ?_
    refine W_region ?_
    refine WL_step rfl rfl (r_move rfl) ?_
    refine WL_step rfl rfl (r_lss rfl rfl) ?_
    refine WL_nil ?_
    refine thn_nrm (_hK_13 _ _ ?_)
    clear _hK_13
    refine W_cond rfl (fun _h23 => ?_) (fun _h23 => ?_)
    · have _kb_14 := _h23
      have _h23 := bt_d _h23
      refine W_seq fun _K_15 _hK_15 => ?_
      refine W_region ?_
      refine WL_step rfl rfl (r_assign rfl) ?_
      refine WL_nil ?_
      refine thn_nrm (_hK_15 _ _ ?_)
      clear _hK_15
      refine W_ret (thn_ret ?_)
      clear _hK_12
      exact ret_intro [_] ⟨rfl, trivial⟩ ⟨congrArg Value.bool (by first | rfl | (exfalso; omega) | (exfalso; revert _h23; simp; done) | (exfalso; revert _h23; simp; omega)), E⟩
    · have _kb_14 := _h23
      have _h23 := bf_d _h23
      refine W_skip ?_
      refine thn_nrm (_hK_12 _ _ ?_)
      clear _hK_12
      refine W_seq fun _K_16 _hK_16 => ?_
      refine W_region ?_
      refine WL_step rfl rfl (r_move rfl) ?_
      refine WL_s rfl rfl ?_
      have _f_17 := ((_h_a.ch0 _cw_4).ch0 _cw_11)
      refine Step.call (r_call (xs := [.tmp 24]) fk18 rfl) (c_laws_toPairS _f_17 (by omega)) fun _v25 _w_18 _q25 => ?_
      obtain ⟨_q25, _lo25, _cw_18⟩ := _q25
      have _cw_18z := _cw_18.size
      have E := E.trans _cw_18
      obtain ⟨_Av25, _Cv25, _ev25⟩ := _q25.val
      subst _ev25
      have _lv25 := _q25.len
      have _hiv25 := _q25.lt
      refine WL_step rfl rfl (r_move rfl) ?_
      refine WL_s rfl rfl ?_
      have _f_19 := ((_f_10.ch0 _cw_11).ch0 _cw_18)
      refine Step.call (r_call (xs := [.tmp 26]) fk18 rfl) (c_laws_toPairS _f_19 (by omega)) fun _v27 _w_20 _q27 => ?_
      obtain ⟨_q27, _lo27, _cw_20⟩ := _q27
      have _cw_20z := _cw_20.size
      have E := E.trans _cw_20
      obtain ⟨_Av27, _Cv27, _ev27⟩ := _q27.val
      subst _ev27
      have _lv27 := _q27.len
      have _hiv27 := _q27.lt
      refine WL_s rfl rfl ?_
      have _f_21 := (_q25.ch0 _cw_20)
      refine Step.call (r_call (xs := [.tmp 25, .tmp 27]) fk17 rfl) (c_spec_MergePairs _f_21.ls _q27.ls (by omega)) fun _v28 _w_22 _q28 => ?_
      obtain ⟨_q28, _lo28, _cw_22⟩ := _q28
      have _cw_22z := _cw_22.size
      have E := E.trans _cw_22
      obtain ⟨_Av28, _Cv28, _ev28⟩ := _q28.val
      subst _ev28
      have _lv28 := _q28.len
      have _hiv28 := _q28.lt
      refine WL_step rfl rfl (r_assign rfl) ?_
      refine WL_nil ?_
      refine thn_nrm (_hK_16 _ _ ?_)
      clear _hK_16
      refine W_seq fun _K_23 _hK_23 => ?_
      refine W_region ?_
      refine WL_step rfl rfl (r_move rfl) ?_
      refine WL_s rfl rfl ?_
      have _f_24 := (((_f_17.ch0 _cw_18).ch0 _cw_20).ch0 _cw_22)
      refine Step.call (r_call (xs := [.tmp 29]) fk18 rfl) (c_laws_toPairS _f_24 (by omega)) fun _v30 _w_25 _q30 => ?_
      obtain ⟨_q30, _lo30, _cw_25⟩ := _q30
      have _cw_25z := _cw_25.size
      have E := E.trans _cw_25
      obtain ⟨_Av30, _Cv30, _ev30⟩ := _q30.val
      subst _ev30
      have _lv30 := _q30.len
      have _hiv30 := _q30.lt
      refine WL_step rfl rfl (r_assign rfl) ?_
      refine WL_nil ?_
      refine thn_nrm (_hK_23 _ _ ?_)
      clear _hK_23
      refine W_seq fun _K_26 _hK_26 => ?_
      refine W_region ?_
      refine WL_step rfl rfl (r_move rfl) ?_
      refine WL_s rfl rfl ?_
      have _f_27 := (((_f_19.ch0 _cw_20).ch0 _cw_22).ch0 _cw_25)
      refine Step.call (r_call (xs := [.tmp 31]) fk18 rfl) (c_laws_toPairS _f_27 (by omega)) fun _v32 _w_28 _q32 => ?_
      obtain ⟨_q32, _lo32, _cw_28⟩ := _q32
      have _cw_28z := _cw_28.size
      have E := E.trans _cw_28
      obtain ⟨_Av32, _Cv32, _ev32⟩ := _q32.val
      subst _ev32
      have _lv32 := _q32.len
      have _hiv32 := _q32.lt
      refine WL_step rfl rfl (r_assign rfl) ?_
      refine WL_nil ?_
      refine thn_nrm (_hK_26 _ _ ?_)
      clear _hK_26
      refine W_seq fun _K_29 _hK_29 => ?_
      refine W_region ?_
      refine WL_step rfl rfl (r_move rfl) ?_
      refine WL_step rfl rfl (r_move rfl) ?_
      refine WL_s rfl rfl ?_
      have _f_30 := (_q30.ch0 _cw_28)
      refine Step.call (r_call (xs := [.tmp 33, .tmp 34]) fk19 rfl) (c_impl_MergePairs _f_30.ls _q32.ls (by omega)) fun _v35 _w_31 _q35 => ?_
      obtain ⟨_q35, _lo35, _cw_31⟩ := _q35
      have _cw_31z := _cw_31.size
      have E := E.trans _cw_31
      obtain ⟨_Av35, _Cv35, _ev35⟩ := _q35.val
      subst _ev35
      have _lv35 := _q35.len
      have _hiv35 := _q35.lt
      refine WL_step rfl rfl (r_assign rfl) ?_
      refine WL_nil ?_
      refine thn_nrm (_hK_29 _ _ ?_)
      clear _hK_29
      refine W_seq fun _K_32 _hK_32 => ?_
      refine W_seq fun _K_33 _hK_33 => ?_
      refine W_region ?_
      refine WL_step rfl rfl (r_move rfl) ?_
      refine WL_step rfl rfl (r_move rfl) ?_
      refine WL_s rfl rfl ?_
      have _f_34 := (((_q28.ch0 _cw_25).ch0 _cw_28).ch0 _cw_31)
      refine Step.call (r_call (xs := [.tmp 36, .tmp 37]) fk20 rfl) (c_laws_eqPairS _q35.ls _f_34.ls ) fun _v38 _w_35 _q38 => ?_
      obtain ⟨rfl, _cw_35⟩ := _q38
      have _cw_35z := _cw_35.size
      have E := E.trans _cw_35
      refine WL_step rfl rfl (r_not rfl) ?_
      refine WL_nil ?_
      refine thn_nrm (_hK_33 _ _ ?_)
      clear _hK_33
      refine W_cond rfl (fun _h39 => ?_) (fun _h39 => ?_)
      · have _kb_36 := _h39
        have _h39 := bf_d (bt_n _h39)
        refine W_seq fun _K_37 _hK_37 => ?_
        refine W_region ?_
        refine WL_step rfl rfl (r_assign rfl) ?_
        refine WL_nil ?_
        refine thn_nrm (_hK_37 _ _ ?_)
        clear _hK_37
        refine W_ret (thn_ret ?_)
        clear _hK_32
        exact ret_intro [_] ⟨rfl, trivial⟩ ⟨congrArg Value.bool (by first | rfl | (exfalso; omega) | (exfalso; revert _h39; simp; done) | (exfalso; revert _h39; simp; omega)), E⟩
      · have _kb_36 := _h39
        have _h39 := bt_d (bf_n _h39)
        refine W_skip ?_
        refine thn_nrm (_hK_32 _ _ ?_)
        clear _hK_32
        refine W_seq fun _K_38 _hK_38 => ?_
        refine W_seq fun _K_39 _hK_39 => ?_
        refine W_region ?_
        refine WL_step rfl rfl (r_move rfl) ?_
        refine WL_step rfl rfl (r_move rfl) ?_
        refine WL_s rfl rfl ?_
        have _f_40 := ((((_f_24.ch0 _cw_25).ch0 _cw_28).ch0 _cw_31).ch0 _cw_35)
        refine Step.call (r_call (xs := [.tmp 41]) fk18 rfl) (c_laws_toPairS _f_40 (by omega)) fun _v42 _w_41 _q42 => ?_
        obtain ⟨_q42, _lo42, _cw_41⟩ := _q42
        have _cw_41z := _cw_41.size
        have E := E.trans _cw_41
        obtain ⟨_Av42, _Cv42, _ev42⟩ := _q42.val
        subst _ev42
        have _lv42 := _q42.len
        have _hiv42 := _q42.lt
        refine WL_s rfl rfl ?_
        have _f_42 := (((_f_30.ch0 _cw_31).ch0 _cw_35).ch0 _cw_41)
        refine Step.call (r_call (xs := [.tmp 40, .tmp 42]) fk20 rfl) (c_laws_eqPairS _f_42.ls _q42.ls ) fun _v43 _w_43 _q43 => ?_
        obtain ⟨rfl, _cw_43⟩ := _q43
        have _cw_43z := _cw_43.size
        have E := E.trans _cw_43
        refine WL_step rfl rfl (r_not rfl) ?_
        refine WL_nil ?_
        refine thn_nrm (_hK_39 _ _ ?_)
        clear _hK_39
        refine W_cond rfl (fun _h44 => ?_) (fun _h44 => ?_)
        · have _kb_44 := _h44
          have _h44 := bf_d (bt_n _h44)
          refine W_seq fun _K_45 _hK_45 => ?_
          refine W_region ?_
          refine WL_step rfl rfl (r_assign rfl) ?_
          refine WL_nil ?_
          refine thn_nrm (_hK_45 _ _ ?_)
          clear _hK_45
          refine W_ret (thn_ret ?_)
          clear _hK_38
          exact ret_intro [_] ⟨rfl, trivial⟩ ⟨congrArg Value.bool (by first | rfl | (exfalso; omega) | (exfalso; revert _h44; simp; done) | (exfalso; revert _h44; simp; omega)), E⟩
        · have _kb_44 := _h44
          have _h44 := bt_d (bf_n _h44)
          refine W_skip ?_
          refine thn_nrm (_hK_38 _ _ ?_)
          clear _hK_38
          refine W_seq fun _K_46 _hK_46 => ?_
          refine W_seq fun _K_47 _hK_47 => ?_
          refine W_region ?_
          refine WL_step rfl rfl (r_move rfl) ?_
          refine WL_step rfl rfl (r_move rfl) ?_
          refine WL_s rfl rfl ?_
          have _f_48 := (((((_f_27.ch0 _cw_28).ch0 _cw_31).ch0 _cw_35).ch0 _cw_41).ch0 _cw_43)
          refine Step.call (r_call (xs := [.tmp 46]) fk18 rfl) (c_laws_toPairS _f_48 (by omega)) fun _v47 _w_49 _q47 => ?_
          obtain ⟨_q47, _lo47, _cw_49⟩ := _q47
          have _cw_49z := _cw_49.size
          have E := E.trans _cw_49
          obtain ⟨_Av47, _Cv47, _ev47⟩ := _q47.val
          subst _ev47
          have _lv47 := _q47.len
          have _hiv47 := _q47.lt
          refine WL_s rfl rfl ?_
          have _f_50 := (((((_q32.ch0 _cw_31).ch0 _cw_35).ch0 _cw_41).ch0 _cw_43).ch0 _cw_49)
          refine Step.call (r_call (xs := [.tmp 45, .tmp 47]) fk20 rfl) (c_laws_eqPairS _f_50.ls _q47.ls ) fun _v48 _w_51 _q48 => ?_
          obtain ⟨rfl, _cw_51⟩ := _q48
          have _cw_51z := _cw_51.size
          have E := E.trans _cw_51
          refine WL_step rfl rfl (r_not rfl) ?_
          refine WL_nil ?_
          refine thn_nrm (_hK_47 _ _ ?_)
          clear _hK_47
          refine W_cond rfl (fun _h49 => ?_) (fun _h49 => ?_)
          · have _kb_52 := _h49
            have _h49 := bf_d (bt_n _h49)
            refine W_seq fun _K_53 _hK_53 => ?_
            refine W_region ?_
            refine WL_step rfl rfl (r_assign rfl) ?_
            refine WL_nil ?_
            refine thn_nrm (_hK_53 _ _ ?_)
            clear _hK_53
            refine W_ret (thn_ret ?_)
            clear _hK_46
            exact ret_intro [_] ⟨rfl, trivial⟩ ⟨congrArg Value.bool (by first | rfl | (exfalso; omega) | (exfalso; revert _h49; simp; done) | (exfalso; revert _h49; simp; omega)), E⟩
          · have _kb_52 := _h49
            have _h49 := bt_d (bf_n _h49)
            refine W_skip ?_
            refine thn_nrm (_hK_46 _ _ ?_)
            clear _hK_46
            refine W_seq fun _K_54 _hK_54 => ?_
            refine W_region ?_
            refine WL_step rfl rfl (r_assign rfl) ?_
            refine WL_nil ?_
            refine thn_nrm (_hK_54 _ _ ?_)
            clear _hK_54
            refine W_seq fun _K_55 _hK_55 => ?_
            refine W_region ?_
            refine WL_step rfl rfl (r_move rfl) ?_
            refine WL_step rfl rfl (r_move rfl) ?_
            refine WL_s rfl rfl ?_
            have _f_56 := (((_f_42.ch0 _cw_43).ch0 _cw_49).ch0 _cw_51)
            refine Step.call (r_call (xs := [.tmp 50, .tmp 51]) fk21 rfl) (c_laws_markPairS _f_56 _ (by omega) (by first | omega | (simp <;> omega))) fun _v52 _w_57 _q52 => ?_
            obtain ⟨rfl, _q52, _cw_57⟩ := _q52
            have _cw_57z := _cw_57.size
            have E := E.step _cw_57 (fun i hi => .inl (by have _h1 := _lo30 _ hi; omega))
            refine WL_step rfl rfl (r_assign rfl) ?_
            refine WL_nil ?_
            refine thn_nrm (_hK_55 _ _ ?_)
            clear _hK_55
            refine W_seq fun _K_58 _hK_58 => ?_
            refine W_region ?_
            refine WL_step rfl rfl (r_move rfl) ?_
            refine WL_step rfl rfl (r_move rfl) ?_
            refine WL_s rfl rfl ?_
            have _f_59 := ((_f_50.ch0 _cw_51).ch _cw_57 (fun g hg hm => by have _h1 := _lo30 _ hm; have _h2 := _hiv30 _ hm; have _h3 := _lo32 _ hg; have _h4 := _hiv32 _ hg; omega))
            refine Step.call (r_call (xs := [.tmp 53, .tmp 54]) fk21 rfl) (c_laws_markPairS _f_59 _ (by omega) (by first | omega | (simp <;> omega))) fun _v55 _w_60 _q55 => ?_
            obtain ⟨rfl, _q55, _cw_60⟩ := _q55
            have _cw_60z := _cw_60.size
            have E := E.step _cw_60 (fun i hi => .inl (by have _h1 := _lo32 _ hi; omega))
            refine WL_step rfl rfl (r_assign rfl) ?_
            refine WL_nil ?_
            refine thn_nrm (_hK_58 _ _ ?_)
            clear _hK_58
            refine W_seq fun _K_61 _hK_61 => ?_
            refine W_seq fun _K_62 _hK_62 => ?_
            refine W_region ?_
            refine WL_step rfl rfl (r_move rfl) ?_
            refine WL_step rfl rfl (r_lss rfl rfl) ?_
            refine WL_step rfl rfl (r_move rfl) ?_
            refine WL_split (d := 58) rfl (fun _h58 => ?_) (fun _h58 => ?_)
            · have _kb_63 := _h58
              have _h58 := bt_d _h58
              refine WL_skip rfl rfl ?_
              refine WL_skip rfl rfl ?_
              refine WL_skip rfl rfl ?_
              refine WL_skip rfl rfl ?_
              refine WL_step rfl rfl (r_pickT rfl rfl) ?_
              refine WL_nil ?_
              refine thn_nrm (_hK_62 _ _ ?_)
              clear _hK_62
              refine W_condT rfl ?_
              refine W_seq fun _K_64 _hK_64 => ?_
              refine W_region ?_
              refine WL_step rfl rfl (r_assign rfl) ?_
              refine WL_nil ?_
              refine thn_nrm (_hK_64 _ _ ?_)
              clear _hK_64
              refine W_ret (thn_ret ?_)
              clear _hK_61
              exact ret_intro [_] ⟨rfl, trivial⟩ ⟨congrArg Value.bool (by first | rfl | (exfalso; omega) | (exfalso; revert _h58; simp; done) | (exfalso; revert _h58; simp; omega)), E⟩
            · have _kb_63 := _h58
              have _h58 := bf_d _h58
              refine WL_step rfl rfl (r_move rfl) ?_
              refine WL_step rfl rfl (r_move rfl) ?_
              refine WL_s rfl rfl ?_
              have _f_65 := (((((((_q35.ch0 _cw_35).ch0 _cw_41).ch0 _cw_43).ch0 _cw_49).ch0 _cw_51).ch _cw_57 (fun g hg hm => by have _h1 := _lo30 _ hm; have _h2 := _hiv30 _ hm; have _h3 := _lo35 _ hg; have _h4 := _hiv35 _ hg; omega)).ch _cw_60 (fun g hg hm => by have _h1 := _lo32 _ hm; have _h2 := _hiv32 _ hm; have _h3 := _lo35 _ hg; have _h4 := _hiv35 _ hg; omega))
              have _f_66 := (((((((_f_34.ch0 _cw_35).ch0 _cw_41).ch0 _cw_43).ch0 _cw_49).ch0 _cw_51).ch _cw_57 (fun g hg hm => by have _h1 := _lo30 _ hm; have _h2 := _hiv30 _ hm; have _h3 := _lo28 _ hg; have _h4 := _hiv28 _ hg; omega)).ch _cw_60 (fun g hg hm => by have _h1 := _lo32 _ hm; have _h2 := _hiv32 _ hm; have _h3 := _lo28 _ hg; have _h4 := _hiv28 _ hg; omega))
              refine Step.call (r_call (xs := [.tmp 59, .tmp 60]) fk20 rfl) (c_laws_eqPairS _f_65.ls _f_66.ls ) fun _v61 _w_67 _q61 => ?_
              obtain ⟨rfl, _cw_67⟩ := _q61
              have _cw_67z := _cw_67.size
              have E := E.trans _cw_67
              refine WL_step rfl rfl (r_not rfl) ?_
              refine WL_step rfl rfl (r_pickF rfl rfl) ?_
              refine WL_nil ?_
              refine thn_nrm (_hK_62 _ _ ?_)
              clear _hK_62
              refine W_condFk rfl _kb_36 ?_
              refine W_skip ?_
              refine thn_nrm (_hK_61 _ _ ?_)
              clear _hK_61
              refine W_seq fun _K_68 _hK_68 => ?_
              refine W_region ?_
              refine WL_step rfl rfl (r_assign rfl) ?_
              refine WL_nil ?_
              refine thn_nrm (_hK_68 _ _ ?_)
              clear _hK_68
              refine W_seq fun _K_69 _hK_69 => ?_
              refine W_region ?_
              refine WL_step rfl rfl (r_move rfl) ?_
              refine WL_step rfl rfl (r_move rfl) ?_
              refine WL_s rfl rfl ?_
              have _f_70 := (_f_65.ch0 _cw_67)
              refine Step.call (r_call (xs := [.tmp 64, .tmp 65]) fk21 rfl) (c_laws_markPairS _f_70 _ (by omega) (by first | omega | (simp <;> omega))) fun _v66 _w_71 _q66 => ?_
              obtain ⟨rfl, _q66, _cw_71⟩ := _q66
              have _cw_71z := _cw_71.size
              have E := E.step _cw_71 (fun i hi => .inl (by have _h1 := _lo35 _ hi; omega))
              refine WL_step rfl rfl (r_assign rfl) ?_
              refine WL_nil ?_
              refine thn_nrm (_hK_69 _ _ ?_)
              clear _hK_69
              refine W_seq fun _K_72 _hK_72 => ?_
              refine W_region ?_
              refine WL_step rfl rfl (r_assign rfl) ?_
              refine WL_nil ?_
              refine thn_nrm (_hK_72 _ _ ?_)
              clear _hK_72
              refine W_seq fun _K_73 _hK_73 => ?_
              refine W_region ?_
              refine WL_step rfl rfl (r_move rfl) ?_
              refine WL_step rfl rfl (r_move rfl) ?_
              refine WL_s rfl rfl ?_
              refine Step.call (r_call (xs := [.tmp 67, .tmp 68]) fk22 rfl) (c_laws_heldPairS _q66.ls _ (by omega) (by first | omega | (simp <;> omega))) fun _v69 _w_74 _q69 => ?_
              obtain ⟨rfl, _cw_74⟩ := _q69
              have _cw_74z := _cw_74.size
              have E := E.trans _cw_74
              refine WL_step rfl rfl (r_assign rfl) ?_
              refine WL_nil ?_
              refine thn_nrm (_hK_73 _ _ ?_)
              clear _hK_73
              refine W_seq fun _K_75 _hK_75 => ?_
              refine W_seq fun _K_76 _hK_76 => ?_
              refine W_region ?_
              refine WL_step rfl rfl (r_move rfl) ?_
              refine WL_step rfl rfl (r_lss rfl rfl) ?_
              refine WL_nil ?_
              refine thn_nrm (_hK_76 _ _ ?_)
              clear _hK_76
              refine W_cond rfl (fun _h71 => ?_) (fun _h71 => ?_)
              · have _kb_77 := _h71
                have _h71 := bt_d _h71
                refine W_seq fun _K_78 _hK_78 => ?_
                refine W_region ?_
                refine WL_step rfl rfl (r_assign rfl) ?_
                refine WL_nil ?_
                refine thn_nrm (_hK_78 _ _ ?_)
                clear _hK_78
                refine W_ret (thn_ret ?_)
                clear _hK_75
                exact ret_intro [_] ⟨rfl, trivial⟩ ⟨congrArg Value.bool (by first | rfl | (exfalso; omega) | (exfalso; revert _h71; simp; done) | (exfalso; revert _h71; simp; omega)), E⟩
              · have _kb_77 := _h71
                have _h71 := bf_d _h71
                refine W_skip ?_
                refine thn_nrm (_hK_75 _ _ ?_)
                clear _hK_75
                refine W_seq fun _K_79 _hK_79 => ?_
                refine W_seq fun _K_80 _hK_80 => ?_
                refine W_region ?_
                refine WL_step rfl rfl (r_move rfl) ?_
                refine WL_step rfl rfl (r_move rfl) ?_
                refine WL_step rfl rfl (r_neq rfl rfl) ?_
                refine WL_nil ?_
                refine thn_nrm (_hK_80 _ _ ?_)
                clear _hK_80
                refine W_cond rfl (fun _h74 => ?_) (fun _h74 => ?_)
                · have _kb_81 := _h74
                  have _h74 := bf_d (bt_n _h74)
                  refine W_seq fun _K_82 _hK_82 => ?_
                  refine W_region ?_
                  refine WL_step rfl rfl (r_assign rfl) ?_
                  refine WL_nil ?_
                  refine thn_nrm (_hK_82 _ _ ?_)
                  clear _hK_82
                  refine W_ret (thn_ret ?_)
                  clear _hK_79
                  exact ret_intro [_] ⟨rfl, trivial⟩ ⟨congrArg Value.bool (by first | rfl | (exfalso; omega) | (exfalso; revert _h74; simp; done) | (exfalso; revert _h74; simp; omega)), E⟩
                · have _kb_81 := _h74
                  have _h74 := bt_d (bf_n _h74)
                  refine W_skip ?_
                  refine thn_nrm (_hK_79 _ _ ?_)
                  clear _hK_79
                  refine W_seq fun _K_83 _hK_83 => ?_
                  refine W_region ?_
                  refine WL_step rfl rfl (r_move rfl) ?_
                  refine WL_s rfl rfl ?_
                  have _f_84 := (((((((((_f_40.ch0 _cw_41).ch0 _cw_43).ch0 _cw_49).ch0 _cw_51).ch _cw_57 (fun i hi => by have _h1 := _lo30 _ hi; omega)).ch _cw_60 (fun i hi => by have _h1 := _lo32 _ hi; omega)).ch0 _cw_67).ch _cw_71 (fun i hi => by have _h1 := _lo35 _ hi; omega)).ch0 _cw_74)
                  refine Step.call (r_call (xs := [.tmp 75]) fk18 rfl) (c_laws_toPairS _f_84 (by omega)) fun _v76 _w_85 _q76 => ?_
                  obtain ⟨_q76, _lo76, _cw_85⟩ := _q76
                  have _cw_85z := _cw_85.size
                  have E := E.trans _cw_85
                  obtain ⟨_Av76, _Cv76, _ev76⟩ := _q76.val
                  subst _ev76
                  have _lv76 := _q76.len
                  have _hiv76 := _q76.lt
                  refine WL_step rfl rfl (r_move rfl) ?_
                  refine WL_s rfl rfl ?_
                  have _f_86 := ((((((((_f_48.ch0 _cw_49).ch0 _cw_51).ch _cw_57 (fun i hi => by have _h1 := _lo30 _ hi; omega)).ch _cw_60 (fun i hi => by have _h1 := _lo32 _ hi; omega)).ch0 _cw_67).ch _cw_71 (fun i hi => by have _h1 := _lo35 _ hi; omega)).ch0 _cw_74).ch0 _cw_85)
                  refine Step.call (r_call (xs := [.tmp 77]) fk18 rfl) (c_laws_toPairS _f_86 (by omega)) fun _v78 _w_87 _q78 => ?_
                  obtain ⟨_q78, _lo78, _cw_87⟩ := _q78
                  have _cw_87z := _cw_87.size
                  have E := E.trans _cw_87
                  obtain ⟨_Av78, _Cv78, _ev78⟩ := _q78.val
                  subst _ev78
                  have _lv78 := _q78.len
                  have _hiv78 := _q78.lt
                  refine WL_s rfl rfl ?_
                  have _f_88 := (_q76.ch0 _cw_87)
                  refine Step.call (r_call (xs := [.tmp 76, .tmp 78]) fk19 rfl) (c_impl_MergePairs _f_88.ls _q78.ls (by omega)) fun _v79 _w_89 _q79 => ?_
                  obtain ⟨_q79, _lo79, _cw_89⟩ := _q79
                  have _cw_89z := _cw_89.size
                  have E := E.trans _cw_89
                  obtain ⟨_Av79, _Cv79, _ev79⟩ := _q79.val
                  subst _ev79
                  have _lv79 := _q79.len
                  have _hiv79 := _q79.lt
                  refine WL_step rfl rfl (r_assign rfl) ?_
                  refine WL_nil ?_
                  refine thn_nrm (_hK_83 _ _ ?_)
                  clear _hK_83
                  refine W_seq fun _K_90 _hK_90 => ?_
                  refine W_seq fun _K_91 _hK_91 => ?_
                  refine W_region ?_
                  refine WL_step rfl rfl (r_move rfl) ?_
                  refine WL_step rfl rfl (r_move rfl) ?_
                  refine WL_s rfl rfl ?_
                  have _f_92 := ((((((_f_66.ch0 _cw_67).ch _cw_71 (fun g hg hm => by have _h1 := _lo35 _ hm; have _h2 := _hiv35 _ hm; have _h3 := _lo28 _ hg; have _h4 := _hiv28 _ hg; omega)).ch0 _cw_74).ch0 _cw_85).ch0 _cw_87).ch0 _cw_89)
                  refine Step.call (r_call (xs := [.tmp 80, .tmp 81]) fk20 rfl) (c_laws_eqPairS _q79.ls _f_92.ls ) fun _v82 _w_93 _q82 => ?_
                  obtain ⟨rfl, _cw_93⟩ := _q82
                  have _cw_93z := _cw_93.size
                  have E := E.trans _cw_93
                  refine WL_step rfl rfl (r_not rfl) ?_
                  refine WL_nil ?_
                  refine thn_nrm (_hK_91 _ _ ?_)
                  clear _hK_91
                  refine W_condFk rfl _kb_36 ?_
                  refine W_skip ?_
                  refine thn_nrm (_hK_90 _ _ ?_)
                  clear _hK_90
                  refine W_seq fun _K_94 _hK_94 => ?_
                  refine W_region ?_
                  refine WL_step rfl rfl (r_assign rfl) ?_
                  refine WL_nil ?_
                  refine thn_nrm (_hK_94 _ _ ?_)
                  clear _hK_94
                  refine W_seq fun _K_95 _hK_95 => ?_
                  refine W_region ?_
                  refine WL_step rfl rfl (r_move rfl) ?_
                  refine WL_step rfl rfl (r_move rfl) ?_
                  refine WL_s rfl rfl ?_
                  have _f_96 := (((((_q66.ch0 _cw_74).ch0 _cw_85).ch0 _cw_87).ch0 _cw_89).ch0 _cw_93)
                  refine Step.call (r_call (xs := [.tmp 84, .tmp 85]) fk22 rfl) (c_laws_heldPairS _f_96.ls _ (by omega) (by first | omega | (simp <;> omega))) fun _v86 _w_97 _q86 => ?_
                  obtain ⟨rfl, _cw_97⟩ := _q86
                  have _cw_97z := _cw_97.size
                  have E := E.trans _cw_97
                  refine WL_step rfl rfl (r_assign rfl) ?_
                  refine WL_nil ?_
                  refine thn_nrm (_hK_95 _ _ ?_)
                  clear _hK_95
                  refine W_seq fun _K_98 _hK_98 => ?_
                  refine W_seq fun _K_99 _hK_99 => ?_
                  refine W_region ?_
                  refine WL_step rfl rfl (r_move rfl) ?_
                  refine WL_step rfl rfl (r_lss rfl rfl) ?_
                  refine WL_nil ?_
                  refine thn_nrm (_hK_99 _ _ ?_)
                  clear _hK_99
                  refine W_condFk rfl _kb_77 ?_
                  refine W_skip ?_
                  refine thn_nrm (_hK_98 _ _ ?_)
                  clear _hK_98
                  refine W_seq fun _K_100 _hK_100 => ?_
                  refine W_seq fun _K_101 _hK_101 => ?_
                  refine W_region ?_
                  refine WL_step rfl rfl (r_move rfl) ?_
                  refine WL_step rfl rfl (r_move rfl) ?_
                  refine WL_step rfl rfl (r_neq rfl rfl) ?_
                  refine WL_nil ?_
                  refine thn_nrm (_hK_101 _ _ ?_)
                  clear _hK_101
                  refine W_condFk rfl _kb_81 ?_
                  refine W_skip ?_
                  refine thn_nrm (_hK_100 _ _ ?_)
                  clear _hK_100
                  refine W_seq fun _K_102 _hK_102 => ?_
                  refine W_region ?_
                  refine WL_step rfl rfl (r_assign rfl) ?_
                  refine WL_nil ?_
                  refine thn_nrm (_hK_102 _ _ ?_)
                  clear _hK_102
                  refine W_ret ?_
                  exact ret_intro [_] ⟨rfl, trivial⟩ ⟨congrArg Value.bool (by first | rfl | (exfalso; omega) | (exfalso; revert _h74; simp; done) | (exfalso; revert _h74; simp; omega)), E⟩

end Go.Proofs.Ytnboedkdnnlgnaa
